/-
  OUR OWN: what comes in, told by values.
-/
import Derived.Test.YtemgdpnkhknhlaaMw26
import Derived.ChangeArms
namespace Go.MW

/-- The cells 'cs' are told by xs. -/
def Told (w : World) (xs : List PV) (cs : List Value) : Prop := xs.length = cs.length ∧ ∀ t, t < xs.length → VR w (allS w) (xs.getD t .undef) (cs.getD t Go.undef)

theorem Told.append {w : World} {xs ys : List PV} {cs ds : List Value} (h : Told w xs cs) (k : Told w ys ds) : Told w (xs ++ ys) (cs ++ ds) := by
  refine ⟨by simp [h.1, k.1], fun t ht => ?_⟩
  by_cases hl : t < xs.length
  · have e1 : (xs ++ ys).getD t .undef = xs.getD t .undef := by simp [List.getD, List.getElem?_append_left hl]
    have e2 : (cs ++ ds).getD t Go.undef = cs.getD t Go.undef := by simp [List.getD, List.getElem?_append_left (h.1 ▸ hl)]
    rw [e1, e2]; exact h.2 t hl
  · have hl' : xs.length ≤ t := by omega
    have e1 : (xs ++ ys).getD t .undef = ys.getD (t - xs.length) .undef := by simp [List.getD, List.getElem?_append_right hl']
    have e2 : (cs ++ ds).getD t Go.undef = ds.getD (t - xs.length) Go.undef := by
      simp [List.getD, List.getElem?_append_right (h.1 ▸ hl'), h.1]
    rw [e1, e2]; exact k.2 _ (by simp at ht; omega)

theorem choose_list {α : Type} {p : Nat → α → Prop} : ∀ (n : Nat), (∀ i, i < n → ∃ y, p i y) → ∃ l : List α, l.length = n ∧ ∀ i (h : i < l.length), p i l[i]
  | 0, _ => ⟨[], rfl, fun i h => by simp at h⟩
  | n + 1, h => by
    obtain ⟨l, h1, h2⟩ := choose_list n fun i hi => h i (by omega)
    obtain ⟨y, hy⟩ := h n (by omega)
    refine ⟨l ++ [y], by simp [h1], fun i hi => ?_⟩
    by_cases e : i < l.length
    · rw [List.getElem_append_left e]; exact h2 i e
    · have : i = l.length := by simp at hi; omega
      subst this
      simp [h1]; exact h1 ▸ hy

theorem add_add' (a : Addr) (m n : Nat) : (a.add m).add n = a.add (m + n) := by
  unfold Addr.add
  by_cases hm : m = 0
  · subst hm; simp
  · by_cases hn : n = 0
    · subst hn; simp
    · simp [hm, hn]; omega

section
variable {H : Type} {enc : TypeId × Value → H} {P : Program} {w : World} {base : Nat} {spare : Nat → Bool} {held : Bool}

theorem told_int {t : TypeId} {k : IntKind} {fuel : Nat} {cs : List Value} {x : DataW H × List MemPlace} (ht : P.underlying t = some (.int k)) (h : DataW.trod enc P w base spare held fuel t cs = some x) : ∃ n, Told w [.int k n] cs := by
  obtain ⟨n, rfl, _⟩ := DataW.trod_int ht h
  exact ⟨n, rfl, fun t ht => by
    have : t = 0 := by simpa using ht
    subst this; exact .int _ _⟩
theorem told_bool {t : TypeId} {fuel : Nat} {cs : List Value} {x : DataW H × List MemPlace} (ht : P.underlying t = some .bool) (h : DataW.trod enc P w base spare held fuel t cs = some x) : ∃ b, Told w [.bool b] cs := by
  obtain ⟨n, rfl, _⟩ := DataW.trod_bool ht h
  exact ⟨n, rfl, fun t ht => by
    have : t = 0 := by simpa using ht
    subst this; exact .bool _⟩

/-- A slice whose elements are told by a reading of their cells. -/
theorem told_slice {α : Type} (pv : α → List PV) {t e : TypeId} (ht : P.underlying t = some (.slice e)) (hpos : 0 < P.cellsOf e) (hel : ∀ fuel cs x, DataW.trod enc P w base spare held fuel e cs = some x → cs.length = P.cellsOf e → ∃ a, Told w (pv a) cs)
    {fuel : Nat} {v : Value} {x : DataW H × List MemPlace} (h : DataW.trod enc P w base spare held fuel t [v] = some x) :
    ∃ (l : List α) (oa : Option Addr) (cap : Nat), v = .slice oa l.length cap ∧ l.length ≤ cap ∧ cap ≤ maxLen ∧ VR w (allS w) (.lst (l.map pv) false) v := by
  rcases DataW.trod_slice ht h with ⟨h0, _⟩ | ⟨a, len, cap, elems, rest, n, _, h0, rfl, hb, hl, hm, hlen, hel', _, _⟩
  · obtain rfl : v = .slice none 0 0 := by simpa using h0
    exact ⟨[], none, 0, rfl, Nat.le_refl _, Nat.zero_le _, .lst0 _⟩
  · obtain rfl : v = .slice (some a) len cap := by simpa using h0
    have each : ∀ i, i < len → ∃ (y : α) (cs : List Value), w.cells? base (a.add (i * P.cellsOf e)) (P.cellsOf e) = some cs ∧ Told w (pv y) cs := by
      intro i hi
      have h1 := hel' i hi
      have h2 : elems[i]? = some elems[i] := by simp [show i < elems.length by omega]
      rw [h2, Option.bind_eq_some_iff] at h1
      obtain ⟨cs, hcs, hx⟩ := h1
      obtain ⟨y, hy⟩ := hel _ _ _ hx (World.cells?_some hcs).2.1
      exact ⟨y, cs, hcs, hy⟩
    obtain ⟨l, hll, hp⟩ := choose_list len each
    subst hll
    have told : ∀ i (hi : i < l.length), ∃ cs, w.cells? base (a.add (i * P.cellsOf e)) (P.cellsOf e) = some cs ∧ Told w (pv l[i]) cs := fun i hi => hp i hi
    refine ⟨l, some a, cap, rfl, hl, hm, ?_⟩
    have := VR.lst (w := w) (ρ := allS w) (xs := l.map pv) (tight := false) (a := a) (cap := cap) (sz := P.cellsOf e) (fun t => (w.cell? (a.add t)).getD Go.undef) (fun hne => by
      have h0 : 0 < l.length := by
        rcases Nat.eq_zero_or_pos l.length with h | h
        · simp at hne; exact absurd (List.eq_nil_of_length_eq_zero h) hne
        · exact h
      obtain ⟨cs, hcs, _⟩ := told 0 h0
      obtain ⟨_, hcl, hc⟩ := World.cells?_some hcs
      have h1 := hc 0 hpos
      have h2 : cs[0]? = some (cs[0]'(by omega)) := by simp [show 0 < cs.length by omega]
      rw [h2] at h1
      have := World.block_lt_of_cell? _ _ h1
      simpa [add_block] using this) (by simpa using hl) (fun h => by cases h) (fun i hi => by
        have hi' : i < l.length := by simpa using hi
        obtain ⟨cs, hcs, ht1⟩ := told i hi'
        have e1 : (l.map pv).getD i [] = pv l[i] := by simp [List.getD, hi']
        rw [e1, ht1.1]
        exact (World.cells?_some hcs).2.1) (fun t ht1 => by
        have hlt : t < l.length * P.cellsOf e := by simpa using ht1
        have hi' : t / P.cellsOf e < l.length := Nat.div_lt_of_lt_mul (by rw [Nat.mul_comm]; exact hlt)
        obtain ⟨cs, hcs, ht2⟩ := told _ hi'
        obtain ⟨_, hcl, hc⟩ := World.cells?_some hcs
        have hj := Nat.mod_lt t hpos
        have h1 := hc _ hj
        rw [add_add', show t / P.cellsOf e * P.cellsOf e + t % P.cellsOf e = t by rw [Nat.mul_comm]; exact Nat.div_add_mod t _] at h1
        have h2 : cs[t % P.cellsOf e]? = some (cs[t % P.cellsOf e]'(by omega)) := by simp [show t % P.cellsOf e < cs.length by omega]
        rw [h2] at h1
        rw [h1]; rfl) (fun i hi j hj => by
        have hi' : i < l.length := by simpa using hi
        obtain ⟨cs, hcs, ht2⟩ := told i hi'
        obtain ⟨_, hcl, hc⟩ := World.cells?_some hcs
        have h1 := hc j hj
        rw [add_add'] at h1
        have e1 : (l.map pv).getD i [] = pv l[i] := by simp [List.getD, hi']
        rw [e1, h1]
        have := ht2.2 j (by rw [ht2.1]; omega)
        simpa [List.getD] using this)
    simpa using this

theorem told_str {t : TypeId} {fuel : Nat} {cs : List Value} {x : DataW H × List MemPlace} (ht : P.underlying t = some .string) (h : DataW.trod enc P w base spare held fuel t cs = some x) : ∃ s, Told w [.str s] cs := by
  obtain ⟨n, rfl, _⟩ := DataW.trod_string ht h
  exact ⟨n, rfl, fun t ht => by
    have : t = 0 := by simpa using ht
    subst this; exact .str _⟩

/-- A slice's cell. -/
theorem told_list {α : Type} (pv : α → List PV) {t e : TypeId} (ht : P.underlying t = some (.slice e)) (hpos : 0 < P.cellsOf e) (hel : ∀ fuel cs x, DataW.trod enc P w base spare held fuel e cs = some x → cs.length = P.cellsOf e → ∃ a, Told w (pv a) cs)
    {fuel : Nat} {cs : List Value} {x : DataW H × List MemPlace} (h : DataW.trod enc P w base spare held fuel t cs = some x) : ∃ l : List α, Told w [.lst (l.map pv) false] cs := by
  have h1 : ∃ v, cs = [v] := by
    rcases DataW.trod_slice ht h with ⟨h0, _⟩ | ⟨a, len, cap, elems, rest, n, _, h0, _⟩
    · exact ⟨_, h0⟩
    · exact ⟨_, h0⟩
  obtain ⟨v, rfl⟩ := h1
  obtain ⟨l, oa, cap, _, _, _, hv⟩ := told_slice pv ht hpos hel h
  exact ⟨l, rfl, fun t ht => by
    have : t = 0 := by simpa using ht
    subst this; simpa using hv⟩

theorem Told.agg {xs : List PV} {cs : Array Value} (h : Told w xs cs.toList) : VR w (allS w) (.agg xs) (.agg cs) :=
  .agg (by simpa using h.1.symm) fun t ht => by simpa using h.2 t ht
theorem Told.one {x : PV} {v : Value} (h : Told w [x] [v]) : VR w (allS w) x v := by simpa using h.2 0 (by simp)
end
end Go.MW
