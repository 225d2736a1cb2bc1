/-
  OUR OWN: append and copy.
-/
import Derived.Test.YtemgdpnkhknhlaaMw10
namespace Go.MW

/-! ### what is appended or copied -/

def dsrc (H : List Blk) (sz : Nat) (x : PV) : Option (Nat × List PV) :=
  match x with
  | .nils => some (0, [])
  | .lst xs _ => if xs.all (fun x => x.length == sz) then some (xs.length, xs.flatten) else none
  | .row r off n sz' _ => match H.getD r .dead with
    | .cells cs _ => if sz' = sz ∧ off + n * sz ≤ cs.length then some (n, (cs.drop off).take (n * sz)) else none
    | _ => none
  | .str s => if sz = 1 then some (s.size, s.data.toList.map fun b => .int .u8 b.toNat) else none
  | _ => none

theorem getD_flatten_aux {sz : Nat} : ∀ (xs : List (List PV)), (∀ x ∈ xs, x.length = sz) → ∀ i j, j < sz → xs.flatten.getD (i * sz + j) .undef = (xs.getD i []).getD j .undef
  | [], _, i, j, _ => by simp [List.getD]
  | x :: xs, h, i, j, hj => by
    have hx := h x (by simp)
    cases i with
    | zero =>
      simp only [Nat.zero_mul, Nat.zero_add, List.flatten_cons, List.getD]
      rw [List.getElem?_append_left (by omega)]
      simp
    | succ i =>
      have ih := getD_flatten_aux xs (fun y hy => h y (by simp [hy])) i j hj
      simp only [List.flatten_cons, List.getD] at ih ⊢
      rw [List.getElem?_append_right (by rw [hx, Nat.add_mul]; omega)]
      have e : (i + 1) * sz + j - x.length = i * sz + j := by rw [hx, Nat.add_mul]; omega
      rw [e, ih]
      simp

theorem length_flatten_aux {sz : Nat} : ∀ (xs : List (List PV)), (∀ x ∈ xs, x.length = sz) → xs.flatten.length = xs.length * sz
  | [], _ => by simp
  | x :: xs, h => by
    have := length_flatten_aux xs (fun y hy => h y (by simp [hy]))
    simp only [List.flatten_cons, List.length_append, List.length_cons, this, h x (by simp), Nat.add_mul]
    omega

theorem src_snd {P : Program} {w : World} {ρ : Rl} {H : List Blk} (hH : HR w ρ H) {sz : Nat} {x : PV} {v : Value} (hx : VR w ρ x v) {n : Nat} {cs : List PV} (h : dsrc H sz x = some (n, cs)) :
    (Builtin.lenOf v).run P w = .ok n w ∧ cs.length = n * sz ∧ (∃ vs, (Builtin.firstCells sz n v).run P w = .ok vs w ∧ AV w ρ cs vs) ∧
      ∀ m, m ≤ n → ∃ vs, (Builtin.firstCells sz m v).run P w = .ok vs w ∧ AV w ρ (cs.take (m * sz)) vs := by
  have lift : ∀ (a : Addr) (f : Nat → Value) (cs : List PV) (m : Nat), (∀ t, t < m → w.cell? (a.add t) = some (f t)) → (∀ t, t < m → VR w ρ (cs.getD t .undef) (f t)) → m ≤ cs.length →
      ∃ vs, (loadCells a m).run P w = .ok vs w ∧ AV w ρ (cs.take m) vs := by
    intro a f cs m hc hv hm
    refine ⟨((List.range m).map f).toArray, run_loadCells w a m f hc, by simp; omega, fun t ht => ?_⟩
    have ht' : t < m := by simp at ht; omega
    have e : (cs.take m).getD t .undef = cs.getD t .undef := by simp [List.getD, ht']
    rw [e]
    have e2 : (((List.range m).map f).toArray).getD t Go.undef = f t := by simp [ht']
    rw [e2]
    exact hv t ht'
  unfold dsrc at h
  split at h
  · cases hx
    simp at h; obtain ⟨rfl, rfl⟩ := h
    exact ⟨rfl, by simp, ⟨#[], rfl, rfl, fun t ht => by simp at ht⟩, fun m hm => ⟨#[], rfl, by simp, fun t ht => by simp at ht⟩⟩
  · rename_i xs tight
    split at h
    · rename_i hall
      simp at h; obtain ⟨rfl, rfl⟩ := h
      have hall' : ∀ x ∈ xs, x.length = sz := by
        intro x hx
        have := List.all_eq_true.1 hall x hx
        simpa using this
      cases hx with
      | lst0 => exact ⟨rfl, by simp, ⟨#[], rfl, rfl, fun t ht => by simp at ht⟩, fun m hm => ⟨#[], rfl, by simp, fun t ht => by simp at ht⟩⟩
      | @lst _ _ a cap sz0 vs hS hcap ht hsz hc hv =>
        have hfl := length_flatten_aux xs hall'
        have e0 : 0 < xs.length → sz0 = sz := by
          intro hp
          have h1 := hsz 0 hp
          have h2 : xs.getD 0 [] ∈ xs := by simp [List.getD, hp]
          rw [← h1]; exact hall' _ h2
        have hcell : ∀ t, t < xs.length * sz → w.cell? (a.add t) = some (vs t) ∧ VR w ρ (xs.flatten.getD t .undef) (vs t) := by
          intro t ht
          have hp : 0 < xs.length := by
            rcases Nat.eq_zero_or_pos xs.length with h0 | h0
            · rw [h0, Nat.zero_mul] at ht; omega
            · exact h0
          have e := e0 hp
          subst e
          have hs : 0 < sz0 := by
            rcases Nat.eq_zero_or_pos sz0 with h0 | h0
            · rw [h0, Nat.mul_zero] at ht; omega
            · exact h0
          refine ⟨hc t ht, ?_⟩
          have h1 : t / sz0 < xs.length := (Nat.div_lt_iff_lt_mul hs).2 ht
          have h2 : t % sz0 < sz0 := Nat.mod_lt _ hs
          have h3 := hv (t / sz0) h1 (t % sz0) h2
          have h4 := getD_flatten_aux xs hall' (t / sz0) (t % sz0) h2
          have h5 : t / sz0 * sz0 + t % sz0 = t := Nat.div_add_mod' t sz0
          rw [h5] at h3 h4
          rw [h4]; exact h3
        have all : ∀ m, m ≤ xs.length → ∃ vs, (Builtin.firstCells sz m (.slice (some a) xs.length cap)).run P w = .ok vs w ∧ AV w ρ (xs.flatten.take (m * sz)) vs := by
          intro m hm
          have hle : m * sz ≤ xs.length * sz := Nat.mul_le_mul_right _ hm
          exact lift a vs xs.flatten (m * sz) (fun t ht => (hcell t (by omega)).1) (fun t ht => (hcell t (by omega)).2) (by omega)
        refine ⟨rfl, hfl, ?_, all⟩
        obtain ⟨us, h1, h2⟩ := all xs.length (Nat.le_refl _)
        rw [List.take_of_length_le (by omega)] at h2
        exact ⟨us, h1, h2⟩
    · cases h
  · rename_i r off n' sz' tight
    split at h
    · rename_i cs' tg hcs
      split at h
      · rename_i hc
        obtain ⟨rfl, hfit⟩ := hc
        simp at h; obtain ⟨rfl, rfl⟩ := h
        cases hx with
        | @row _ b sh _ _ _ _ cap hβ hcap ht hroom =>
          have hcells := (cells_of hH hcs hβ).drop off
          obtain ⟨f, hf1, hf2⟩ := hcells
          have all : ∀ m, m ≤ n' → ∃ vs, (Builtin.firstCells sz' m (.slice (some ⟨b, sh + off, none⟩) n' cap)).run P w = .ok vs w ∧ AV w ρ (((cs'.drop off).take (n' * sz')).take (m * sz')) vs := by
            intro m hm
            have hle : m * sz' ≤ n' * sz' := Nat.mul_le_mul_right _ hm
            rw [List.take_take, Nat.min_eq_left hle]
            refine lift ⟨b, sh + off, none⟩ f (cs'.drop off) (m * sz') (fun t ht => ?_) (fun t ht => hf2 t (by simp; omega)) (by simp; omega)
            have := hf1 t (by simp; omega)
            rwa [Addr.add_lit] at this
          refine ⟨rfl, by simp; omega, ?_, all⟩
          obtain ⟨us, h1, h2⟩ := all n' (Nat.le_refl _)
          rw [List.take_take, Nat.min_self] at h2
          exact ⟨us, h1, h2⟩
      · cases h
    · cases h
  · rename_i s
    split at h
    · rename_i hs; subst hs
      simp at h; obtain ⟨rfl, rfl⟩ := h
      cases hx
      have hsz : s.size = s.data.toList.length := by rw [Array.length_toList]; rfl
      have all : ∀ m, m ≤ s.size → ∃ vs, (Builtin.firstCells 1 m (.string s)).run P w = .ok vs w ∧ AV w ρ ((s.data.toList.map fun b => PV.int .u8 b.toNat).take (m * 1)) vs := by
        intro m hm
        refine ⟨(s.extract 0 m).data.map fun b => .int .u8 b.toNat, rfl, ?_⟩
        rw [Nat.mul_one, ByteArray.data_extract, ← List.map_take]
        rw [hsz] at hm
        generalize s.data = d at hm ⊢
        have e : (d.extract 0 m).map (fun b => Value.int .u8 b.toNat) = ((d.toList.take m).map fun b => Value.int .u8 b.toNat).toArray := by
          apply Array.ext'
          simp
        rw [e]
        generalize d.toList.take m = l
        refine ⟨by simp, fun t ht => ?_⟩
        have ht' : t < l.length := by simpa using ht
        have e1 : (l.map fun b => PV.int .u8 b.toNat).getD t .undef = .int .u8 (l[t]).toNat := by simp [List.getD, ht']
        have e2 : ((l.map fun b => Value.int .u8 b.toNat).toArray).getD t Go.undef = .int .u8 (l[t]).toNat := by simp [ht']
        rw [e1, e2]
        exact .int _ _
      refine ⟨rfl, by rw [hsz]; simp, ?_, all⟩
      obtain ⟨us, h1, h2⟩ := all s.size (Nat.le_refl _)
      rw [List.take_of_length_le (by rw [hsz]; simp)] at h2
      exact ⟨us, h1, h2⟩
    · cases h
  · cases h

end Go.MW
