/-
  OUR OWN: cutting slices, strings and arrays.
-/
import Derived.Test.YtemgdpnkhknhlaaMw4
import Derived.Laws.Slices
namespace Go.MW

inductive OV (w : World) (ρ : Rl) : Option PV → Option Value → Prop
  | none : OV w ρ none none
  | some {x : PV} {v : Value} (h : VR w ρ x v) : OV w ρ (some x) (some v)

def bnd (x : Option PV) (dflt max : Nat) : Option Nat :=
  match x with
  | none => some dflt
  | some (.int _ n) => if 0 ≤ n ∧ n ≤ (max : Int) then some n.toNat else none
  | some _ => none

theorem bnd_run {P : Program} {w : World} {ρ : Rl} {x : PV} {v : Value} (h : VR w ρ x v) {d max Y n : Nat} (hb : bnd (some x) d max = some n) (hY : max ≤ Y) (code : BoundsCode) :
    (Instr.sliceBound v Y code).run P w = .ok n w ∧ n ≤ max := by
  unfold bnd at hb
  split at hb
  · rename_i e; cases e
  · rename_i k i e
    cases e; cases h
    split at hb
    · rename_i hc
      simp at hb; subst hb
      exact ⟨run_sliceBound (P := P) w k i Y code hc.1 (by omega), by omega⟩
    · cases hb
  · cases hb

def dbounds (lo hi mx : Option PV) (len : Nat) : Option (Nat × Nat × Option Nat) :=
  match mx with
  | none => match bnd hi len len with
    | some h => match bnd lo 0 h with
      | some l => some (l, h, none)
      | none => none
    | none => none
  | some m => match bnd (some m) 0 len with
    | some mm => match hi with
      | some hh => match bnd (some hh) 0 mm with
        | some h => match bnd lo 0 h with
          | some l => some (l, h, some mm)
          | none => none
        | none => none
      | none => none
    | none => none

theorem dbounds_run {P : Program} {w : World} {ρ : Rl} {lo hi mx : Option PV} {lo' hi' mx' : Option Value} (h1 : OV w ρ lo lo') (h2 : OV w ρ hi hi') (h3 : OV w ρ mx mx') {len cap : Nat} (hcap : len ≤ cap)
    {l h : Nat} {m : Option Nat} (hb : dbounds lo hi mx len = some (l, h, m)) (b : Bool) :
    (Instr.sliceBounds b len cap lo' hi' mx').run P w = .ok (l, h, m.getD cap) w ∧ l ≤ h ∧ h ≤ len ∧ ∀ mm, m = some mm → h ≤ mm ∧ mm ≤ len := by
  unfold dbounds at hb
  cases h3 with
  | none =>
    simp only at hb
    cases hh : bnd hi len len with
    | none => simp [hh] at hb
    | some h' =>
      simp only [hh] at hb
      cases hl : bnd lo 0 h' with
      | none => simp [hl] at hb
      | some l' =>
        simp [hl] at hb
        obtain ⟨rfl, rfl, rfl⟩ := hb
        cases h2 with
        | none =>
          simp [bnd] at hh; subst hh
          cases h1 with
          | none => simp [bnd] at hl; subst hl; exact ⟨by simp [Instr.sliceBounds], by omega, by omega, fun mm e => by cases e⟩
          | some hv =>
            obtain ⟨e1, e2⟩ := bnd_run (P := P) hv hl (Nat.le_refl _) .sliceB
            exact ⟨by simp [Instr.sliceBounds, e1], e2, by omega, fun mm e => by cases e⟩
        | some hv' =>
          obtain ⟨f1, f2⟩ := bnd_run (P := P) hv' hh hcap (if b then .sliceAcap else .sliceAlen)
          cases h1 with
          | none => simp [bnd] at hl; subst hl; exact ⟨by simp [Instr.sliceBounds, f1], by omega, f2, fun mm e => by cases e⟩
          | some hv =>
            obtain ⟨e1, e2⟩ := bnd_run (P := P) hv hl (Nat.le_refl _) .sliceB
            exact ⟨by simp [Instr.sliceBounds, f1, e1], e2, f2, fun mm e => by cases e⟩
  | @some mv mv' hmv =>
    simp only at hb
    cases hm : bnd (some mv) 0 len with
    | none => simp [hm] at hb
    | some mm =>
      simp only [hm] at hb
      cases h2 with
      | none => simp at hb
      | @some hv hv' hhv =>
        simp only at hb
        cases hh : bnd (some hv) 0 mm with
        | none => simp [hh] at hb
        | some h' =>
          simp only [hh] at hb
          cases hl : bnd lo 0 h' with
          | none => simp [hl] at hb
          | some l' =>
            simp [hl] at hb
            obtain ⟨rfl, rfl, rfl⟩ := hb
            obtain ⟨hm1, hm2⟩ := bnd_run (P := P) hmv hm hcap (if b then .slice3Acap else .slice3Alen)
            obtain ⟨hh1, hh2⟩ := bnd_run (P := P) hhv hh (Nat.le_refl _) .slice3B
            cases h1 with
            | none => simp [bnd] at hl; subst hl; exact ⟨by simp [Instr.sliceBounds, hm1, hh1], by omega, by omega, fun mm' e => by cases e; exact ⟨hh2, hm2⟩⟩
            | some hv =>
              obtain ⟨e1, e2⟩ := bnd_run (P := P) hv hl (Nat.le_refl _) .slice3C
              exact ⟨by simp [Instr.sliceBounds, hm1, hh1, e1], e2, by omega, fun mm' e => by cases e; exact ⟨hh2, hm2⟩⟩

def tightAt (tight : Bool) (len h : Nat) (m : Option Nat) : Bool :=
  match m with
  | none => tight && h == len
  | some m => m == h

def dslice (P : Program) (H : List Blk) (t : TypeId) (x : PV) (lo hi mx : Option PV) : Option PV :=
  match P.underlying t with
  | some (.slice e) => match szT P e with
    | some sz => match x with
      | .lst xs tight => match dbounds lo hi mx xs.length with
        | some (l, h, m) => if l = h ∨ (xs.getD l []).length = sz then some (.lst ((xs.drop l).take (h - l)) (tightAt tight xs.length h m)) else none
        | none => none
      | .row r off len sz' tight => if sz' = sz then match dbounds lo hi mx len with
          | some (l, h, m) =>
            if l = 0 then some (.row r off h sz (tightAt tight len h m))
            else if l < h then some (.row r (off + l * sz) (h - l) sz (tightAt tight len h m))
            else some (.lst [] false)
          | none => none
        else none
      | .nils => match dbounds lo hi mx 0 with
        | some _ => some .nils
        | none => none
      | _ => none
    | none => none
  | some .string => match x with
    | .str s => match dbounds lo hi none s.size with
      | some (l, h, _) => if mx.isNone then some (.str (s.extract l h)) else none
      | none => none
    | _ => none
  | some (.array n e) => match szT P e with
    | some sz => match x with
      | .ptr r off => match H.getD r .dead with
        | .cells cs _ => if off + n * sz ≤ cs.length then match dbounds lo hi mx n with
            | some (l, h, m) => if l < m.getD n then some (.row r (off + l * sz) (h - l) sz (m.getD n == h)) else some (.lst [] true)
            | none => none
          else none
        | _ => none
      | _ => none
    | none => none
  | _ => none

theorem slice_snd {P : Program} {w : World} {ρ : Rl} {H : List Blk} (hH : HR w ρ H) {t : TypeId} {x : PV} {v : Value} (hx : VR w ρ x v) {lo hi mx : Option PV} {lo' hi' mx' : Option Value}
    (h1 : OV w ρ lo lo') (h2 : OV w ρ hi hi') (h3 : OV w ρ mx mx') {y : PV} (h : dslice P H t x lo hi mx = some y) :
    ∃ u, (Instr.sliceAt t v lo' hi' mx').run P w = .ok u w ∧ VR w ρ y u := by
  unfold dslice at h
  split at h
  · rename_i e hu
    have hue : P.underlying t = some (.slice (P.elem t)) := by rw [elem_slice hu]; exact hu
    rw [run_sliceAt_slice w t v lo' hi' mx' hue]
    split at h
    · rename_i sz hsz
      split at h
      · rename_i xs tight
        cases hx with
        | lst0 =>
          split at h
          · rename_i l hh m hb
            obtain ⟨hrun, hlh, hhl, hm⟩ := dbounds_run (P := P) (cap := 0) h1 h2 h3 (Nat.le_refl _) hb true
            rw [run_slice_any w t none 0 0 hue lo' hi' mx', hrun]
            simp only [Result.andThen_ok, elem_slice hu, run_sizeOf' hsz]
            simp at hhl
            have e1 : l = 0 := by omega
            have e2 : hh = 0 := by omega
            have e3 : m.getD 0 = 0 := by
              cases m with
              | none => rfl
              | some mm => have := (hm mm rfl).2; simp; omega
            subst e1; subst e2
            simp at h; subst h
            exact ⟨_, rfl, by simp [sliced, e3]; exact .lst0 _⟩
          · cases h
        | @lst _ _ a cap sz0 vs hS hcap ht hlen hc hv =>
        split at h
        · rename_i l hh m hb
          obtain ⟨hrun, hlh, hhl, hm⟩ := dbounds_run (P := P) h1 h2 h3 hcap hb true
          split at h
          · rename_i hcond
            simp at h; subst h
            rw [run_slice_any w t (some a) xs.length cap hue lo' hi' mx', hrun]
            simp only [Result.andThen_ok, elem_slice hu, run_sizeOf' hsz]
            refine ⟨_, rfl, ?_⟩
            have hmc : hh ≤ m.getD cap := by
              cases m with
              | none => simp; omega
              | some mm => simp; exact (hm mm rfl).1
            have hlen' : ((xs.drop l).take (hh - l)).length = hh - l := by simp; omega
            unfold sliced
            have hgetD : ∀ i, i < hh - l → ((xs.drop l).take (hh - l)).getD i [] = xs.getD (l + i) [] := by
              intro i hi
              simp [List.getD, List.getElem?_drop, hi]
            have key : ∀ a', (l < hh → a' = a.add (l * sz)) → VR w ρ (.lst ((xs.drop l).take (hh - l)) (tightAt tight xs.length hh m)) (.slice (some a') (hh - l) (m.getD cap - l)) := by
              intro a' ha'
              have hgoal : VR w ρ (.lst ((xs.drop l).take (hh - l)) (tightAt tight xs.length hh m)) (.slice (some a') ((xs.drop l).take (hh - l)).length (m.getD cap - l)) := by
                refine .lst (sz := sz0) (fun t => vs (l * sz0 + t)) (fun hne => ?_) (by rw [hlen']; omega) (fun htt => ?_) (fun i hi => ?_) (fun t htt => ?_) (fun i hi j hj => ?_)
                · have : l < hh := by
                    rcases Nat.lt_or_ge l hh with h' | h'
                    · exact h'
                    · exfalso; apply hne; rw [List.eq_nil_iff_length_eq_zero, hlen']; omega
                  rw [ha' this, add_block]; exact hS (by rintro rfl; simp at hhl; omega)
                · rw [hlen']
                  cases m with
                  | none =>
                    simp [tightAt] at htt
                    have := ht htt.1
                    simp; omega
                  | some mm => simp [tightAt] at htt; simp; omega
                · rw [hlen'] at hi; rw [hgetD i hi]; exact hlen _ (by omega)
                · rw [hlen'] at htt
                  have hlt : l < hh := by
                    rcases Nat.lt_or_ge l hh with h' | h'
                    · exact h'
                    · have : hh - l = 0 := by omega
                      rw [this] at htt; simp at htt
                  have e0 : sz0 = sz := by
                    rcases hcond with hcond | hcond
                    · omega
                    · rw [← hcond]; exact (hlen l (by omega)).symm
                  rw [ha' hlt, add_add, ← e0]
                  refine hc _ ?_
                  have : (l + (hh - l)) * sz0 ≤ xs.length * sz0 := Nat.mul_le_mul_right _ (by omega)
                  rw [Nat.add_mul] at this
                  omega
                · rw [hlen'] at hi
                  rw [hgetD i hi]
                  have := hv (l + i) (by omega) j hj
                  rw [Nat.add_mul, Nat.add_assoc] at this
                  exact this
              rw [hlen'] at hgoal
              exact hgoal
            split
            · exact key a (fun hlt => by omega)
            · exact key _ (fun _ => rfl)
          · cases h
        · cases h
      · rename_i r off len sz' tight
        split at h
        · rename_i hs; subst hs
          cases hx with
          | @row _ b sh _ _ _ _ cap hβ hcap ht hroom =>
          split at h
          · rename_i l hh m hb
            obtain ⟨hrun, hlh, hhl, hm⟩ := dbounds_run (P := P) h1 h2 h3 hcap hb true
            rw [run_slice_any w t _ len cap hue lo' hi' mx', hrun]
            simp only [Result.andThen_ok, elem_slice hu, run_sizeOf' hsz]
            have hmc : hh ≤ m.getD cap := by
              cases m with
              | none => simp; omega
              | some mm => simp; exact (hm mm rfl).1
            have hmc2 : m.getD cap ≤ cap := by
              cases m with
              | none => simp
              | some mm => simp; have := (hm mm rfl).2; omega
            have htg : tightAt tight len hh m = true → m.getD cap - l = hh - l := by
              intro htt
              cases m with
              | none =>
                simp [tightAt] at htt
                have := ht htt.1
                simp; omega
              | some mm => simp [tightAt] at htt; simp; omega
            obtain ⟨c, e', f, hcb, hcs⟩ := hroom
            have hroom' : sh + off + m.getD cap * sz' ≤ c.size := by
              have : m.getD cap * sz' ≤ cap * sz' := Nat.mul_le_mul_right _ hmc2
              omega
            unfold sliced
            split at h
            · rename_i h0; subst h0
              simp at h; subst h
              refine ⟨_, rfl, ?_⟩
              have e2 : (if m.getD cap = 0 then some (⟨b, sh + off, none⟩ : Addr) else Option.map (fun (x : Addr) => x.add (0 * sz')) (some (⟨b, sh + off, none⟩ : Addr))) = some ⟨b, sh + off, none⟩ := by
                split <;> simp [Addr.add]
              rw [e2]
              exact .row off _ sz' hβ (by omega) htg ⟨c, e', f, hcb, by simpa using hroom'⟩
            · rename_i h0
              split at h
              · rename_i hlt
                simp at h; subst h
                refine ⟨_, rfl, ?_⟩
                rw [if_neg (by omega)]
                simp only [Option.map_some, Addr.add_lit]
                rw [Nat.add_assoc]
                refine .row (off + l * sz') _ sz' hβ (by omega) htg ⟨c, e', f, hcb, ?_⟩
                have : l * sz' + (m.getD cap - l) * sz' = m.getD cap * sz' := by rw [← Nat.add_mul]; congr 1; omega
                omega
              · simp at h; subst h
                have e0 : hh - l = 0 := by omega
                rw [e0]
                refine ⟨_, rfl, ?_⟩
                have key : ∀ a', VR w ρ (.lst [] false) (.slice (some a') 0 (m.getD cap - l)) := fun a' =>
                  .lst (xs := []) (sz := 0) (fun _ => Go.undef) (fun h => absurd rfl h) (Nat.zero_le _) (fun h => by cases h) (fun i hi => by simp at hi) (fun t ht => by simp at ht) (fun i hi => by simp at hi)
                split <;> exact key _
          · cases h
        · cases h
      · cases hx
        split at h
        · rename_i bb hb
          obtain ⟨l, hh, m⟩ := bb
          simp at h; subst h
          obtain ⟨hrun, hlh, hhl, hm⟩ := dbounds_run (P := P) (cap := 0) h1 h2 h3 (Nat.le_refl _) hb true
          rw [run_slice_any w t none 0 0 hue lo' hi' mx', hrun]
          simp only [Result.andThen_ok, elem_slice hu, run_sizeOf' hsz]
          refine ⟨_, rfl, ?_⟩
          have e1 : l = 0 := by omega
          have e2 : hh = 0 := by omega
          have e3 : m.getD 0 = 0 := by
            cases m with
            | none => rfl
            | some mm => have := (hm mm rfl).2; simp; omega
          subst e1; subst e2
          simp [sliced, e3]
          exact .nils
        · cases h
      · cases h
    · cases h
  · rename_i hu
    split at h
    · rename_i s
      cases hx
      split at h
      · rename_i l hh m hb
        split at h
        · rename_i hmx
          simp at h; subst h
          cases h3 with
          | some => simp at hmx
          | none =>
            obtain ⟨hrun, hlh, hhl, hm⟩ := dbounds_run (P := P) (cap := s.size) h1 h2 .none (Nat.le_refl _) hb false
            refine ⟨.string (s.extract l hh), ?_, .str _⟩
            rw [run_sliceAt_string w t (.string s) lo' hi' none hu]
            simp only [Instr.slice, Sem.run_bind, run_underlying hu, Result.andThen_ok]
            simp [hrun]
        · cases h
      · cases h
    · cases h
  · rename_i n e hu
    split at h
    · rename_i sz hsz
      split at h
      · rename_i r off
        cases hx with
        | @ptr _ b sh _ hβ =>
        split at h
        · rename_i cs hcs
          split at h
          · rename_i hfit
            split at h
            · rename_i l hh m hb
              obtain ⟨hrun, hlh, hhl, hm⟩ := dbounds_run (P := P) (cap := n) h1 h2 h3 (Nat.le_refl _) hb false
              have hr : r < H.length := by
                rcases Nat.lt_or_ge r H.length with h' | h'
                · exact h'
                · simp [List.getD, List.getElem?_eq_none h'] at hcs
              obtain ⟨b', sh', hβ', hbk⟩ := hH.blk r hr (by rw [hcs]; simp)
              rw [hβ] at hβ'; simp at hβ'; obtain ⟨rfl, rfl⟩ := hβ'
              rw [hcs] at hbk
              obtain ⟨_, c, e', hcb, hsc, _⟩ := hbk
              have hmc : hh ≤ m.getD n := by
                cases m with
                | none => simp; omega
                | some mm => simp; exact (hm mm rfl).1
              have hmc2 : m.getD n ≤ n := by
                cases m with
                | none => simp
                | some mm => simp; exact (hm mm rfl).2
              simp only [Instr.sliceAt, Sem.run_bind, run_underlying hu, Result.andThen_ok, Instr.sureAddr, Sem.run_pure, hrun, run_sizeOf' hsz]
              refine ⟨_, rfl, ?_⟩
              split at h
              · rename_i hlt
                simp at h; subst h
                rw [if_neg (by omega), Addr.add_lit, Nat.add_assoc]
                refine .row (off + l * sz) _ sz hβ (by omega) (fun ht => by simp at ht; omega) ⟨c, e', (0, 0), hcb, ?_⟩
                have h1 : l * sz + (m.getD n - l) * sz = m.getD n * sz := by rw [← Nat.add_mul]; congr 1; omega
                have h2 : m.getD n * sz ≤ n * sz := Nat.mul_le_mul_right _ hmc2
                omega
              · simp at h; subst h
                have e0 : hh - l = 0 := by omega
                have e1 : m.getD n - l = 0 := by omega
                rw [e0, e1]
                exact .lst (xs := []) (sz := 0) (fun _ => Go.undef) (fun h => absurd rfl h) (Nat.zero_le _) (fun _ => rfl) (fun i hi => by simp at hi) (fun t ht => by simp at ht) (fun i hi => by simp at hi)
            · cases h
          · cases h
        · cases h
      · cases h
    · cases h
  · cases h

end Go.MW
