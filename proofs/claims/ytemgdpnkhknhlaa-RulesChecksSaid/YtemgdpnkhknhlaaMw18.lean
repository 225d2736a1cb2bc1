/-
  OUR OWN: regions that draw their order. One run in the order of the text tells all runs, if 'drawOk' holds: a check of the code alone.
-/
import Derived.Test.YtemgdpnkhknhlaaMw17
namespace Go.MW

/-- What an operation does with our blocks: nothing, it reads them, it turns them. -/
inductive Kd where
  | any
  | rd
  | st
  deriving DecidableEq

instance : Inhabited Kd := ⟨.any⟩

/-- The triple of one operation, of which only the slots that it looks at count. -/
def OT (P : Program) (ops : Array Oper) (o : Oper) (fr : List PV) (H : List Blk) (y : PV) (H' : List Blk) : Prop :=
  ∀ fr', (∀ t ∈ o.looksAt ops, fr'.getD t .undef = fr.getD t .undef) → ∀ w ρ a (K : Act → World → Prop) (Q : Exit → Act → World → Prop), SR w ρ ⟨fr', H⟩ a →
    (∀ u w' ρ', VR w' ρ' y u → HR w' ρ' H' → Step w ρ H w' ρ' H' → K (a.put o.dst u) w') → o.wp P a w K Q

section
variable {P : Program} {ops : Array Oper} {o : Oper} {fr : List PV} {H H' : List Blk} {y : PV}

theorem OT.eff (cx : Cx P) (hd : deff P cx.E H (evalO fr) o.op = some (y, H')) : OT P ops o fr H y H' := by
  intro fr' hc w ρ a K Q hs hK
  rw [← deff_congr (f := evalO fr') (evalO_congr hc)] at hd
  obtain ⟨w', ρ', nx, u, hrun, hnx, hv, hH, hstep⟩ := deff_snd cx hs.hp (fun x => evalO_VR hs.fr x) hd
  unfold Oper.wp
  rw [hrun]
  rcases hnx with rfl | ⟨rfl, rfl⟩
  · exact hK u w' ρ' hv hH hstep
  · exact hK _ w' ρ' hv hH hstep

theorem OT.call {f : FuncId} {args : List PV} (ht : dtarget P fr o.op = some (f, args)) (hc : WC P f args H fun v h => v = y ∧ h = H') : OT P ops o fr H y H' := by
  intro fr' hcg w ρ a K Q hs hK
  rw [← dtarget_congr (fr' := fr') (evalO_congr hcg)] at ht
  obtain ⟨vals, hrun, hA⟩ := target_snd hs.fr ht
  unfold Oper.wp
  rw [hrun]
  refine (hc w ρ vals hs.hp hA).mono ?_
  rintro e w' ⟨u, v, ρ', H1, rfl, ⟨rfl, rfl⟩, hv, hH, hstep⟩
  exact hK u w' ρ' hv hH hstep

end

def StepT (P : Program) (ops : Array Oper) (o : Oper) (k : Kd) (s s' : St) : Prop :=
  (dwant ops s.fr o = some false ∧ s' = ⟨putF s.fr o.dst (.tuple []), s.H⟩) ∨
  (dwant ops s.fr o = some true ∧ ∃ y, s'.fr = putF s.fr o.dst y ∧ match k with
    | .any => s'.H = s.H ∧ ∀ H, OT P ops o s.fr H y H
    | .rd => s'.H = s.H ∧ OT P ops o s.fr s.H y s.H
    | .st => OT P ops o s.fr s.H y s'.H)

/-- The run in the order of the text. -/
inductive DR (P : Program) (ops : Array Oper) : List Oper → List Kd → St → St → Prop
  | nil (s : St) : DR P ops [] [] s s
  | cons {o : Oper} {k : Kd} {l : List Oper} {ks : List Kd} {s s1 s' : St} (h : StepT P ops o k s s1) (t : DR P ops l ks s1 s') : DR P ops (o :: l) (k :: ks) s s'

theorem DR.run {P : Program} {ops : Array Oper} {l : List Oper} {ks : List Kd} {s s' : St} (h : DR P ops l ks s s') :
    ∃ f : Nat → St, f 0 = s ∧ f l.length = s' ∧ ∀ i (hi : i < l.length), StepT P ops l[i] (ks.getD i .any) (f i) (f (i + 1)) := by
  induction h with
  | nil s => exact ⟨fun _ => s, rfl, rfl, fun i hi => by simp at hi⟩
  | @cons o k l ks s s1 s' h t ih =>
    obtain ⟨f, h0, h1, h2⟩ := ih
    refine ⟨fun i => match i with | 0 => s | i + 1 => f i, rfl, h1, fun i hi => ?_⟩
    cases i with
    | zero => simpa [h0] using h
    | succ i => simpa using h2 i (by simpa using hi)

/-! ### the check of the code -/

def addN (a : List Nat) (k : Nat) : List Nat := if a.contains k then a else k :: a

def preOf (acc : List (List Nat)) (o : Oper) : List Nat :=
  o.after.toList.foldl (fun s e => if Region.binds .any e && decide (e.on < acc.length) then (acc.getD e.on []).foldl addN (addN s e.on) else s) []

def presL : List Oper → List (List Nat) → List (List Nat)
  | [], acc => acc
  | o :: l, acc => presL l (acc ++ [preOf acc o])

def sole (ds : List (Option Tmp)) : Bool :=
  match ds with
  | [] => true
  | none :: r => sole r
  | some d :: r => !(r.contains (some d)) && sole r

/-- May the operations 'ops' be taken in any order that their edges leave? -/
def drawOk (ops : Array Oper) (ks : List Kd) : Bool :=
  let pre := presL ops.toList []
  let n := ops.size
  sole (ops.toList.map (·.dst)) &&
  (List.range n).all fun i => match ops[i]? with
    | none => false
    | some o =>
      (o.after.toList.all fun e => decide (e.on < i)) &&
      ((List.range n).all fun k =>
        k == i || (pre.getD i []).contains k || (pre.getD k []).contains i ||
        ((match (ops[k]?).bind (·.dst) with
          | some t => !(o.looksAt ops).contains t
          | none => true) &&
         (ks.getD i .any == .any || ks.getD k .any != .st)))

theorem addN_mem {a : List Nat} {k x : Nat} (h : x ∈ addN a k) : x = k ∨ x ∈ a := by
  unfold addN at h
  split at h
  · exact .inr h
  · simpa using h

theorem addNs_mem : ∀ {b a : List Nat} {x : Nat}, x ∈ b.foldl addN a → x ∈ b ∨ x ∈ a
  | [], _, _, h => .inr h
  | k :: b, a, x, h => by
    rcases addNs_mem (b := b) h with h | h
    · exact .inl (List.mem_cons_of_mem _ h)
    · rcases addN_mem h with rfl | h
      · exact .inl (List.mem_cons_self ..)
      · exact .inr h

theorem preOf_mem {acc : List (List Nat)} {o : Oper} {x : Nat} (h : x ∈ preOf acc o) : ∃ e ∈ o.after, Region.binds .any e = true ∧ e.on < acc.length ∧ (x = e.on ∨ x ∈ acc.getD e.on []) := by
  have key : ∀ (l : List Edge) (s : List Nat), x ∈ l.foldl (fun s e => if Region.binds .any e && decide (e.on < acc.length) then (acc.getD e.on []).foldl addN (addN s e.on) else s) s →
      x ∈ s ∨ ∃ e ∈ l, Region.binds .any e = true ∧ e.on < acc.length ∧ (x = e.on ∨ x ∈ acc.getD e.on []) := by
    intro l
    induction l with
    | nil => intro s h; exact .inl h
    | cons e l ih =>
      intro s h
      rcases ih _ h with h | ⟨e', he', h'⟩
      · dsimp only at h
        split at h
        · rename_i hc
          simp only [Bool.and_eq_true, decide_eq_true_eq] at hc
          rcases addNs_mem h with h | h
          · exact .inr ⟨e, List.mem_cons_self .., hc.1, hc.2, .inr h⟩
          · rcases addN_mem h with rfl | h
            · exact .inr ⟨e, List.mem_cons_self .., hc.1, hc.2, .inl rfl⟩
            · exact .inl h
        · exact .inl h
      · exact .inr ⟨e', List.mem_cons_of_mem _ he', h'⟩
  rcases key _ _ h with h | ⟨e, he, h⟩
  · simp at h
  · exact ⟨e, by simpa using he, h⟩

/-- What is told to come first has come, in a set that is closed under the edges. -/
theorem presL_closed {D : Nat → Prop} : ∀ (l : List Oper) (acc : List (List Nat)),
    (∀ i (hi : i < l.length), D (acc.length + i) → ∀ e ∈ l[i].after, Region.binds .any e = true → D e.on) →
    (∀ i, i < acc.length → D i → ∀ k ∈ acc.getD i [], D k ∧ k < i) →
    ∀ i, D i → ∀ k ∈ (presL l acc).getD i [], D k ∧ k < i
  | [], acc, _, h, i, hD, k, hk => by
    by_cases hi : i < acc.length
    · exact h i hi hD k hk
    · simp [presL, List.getD, List.getElem?_eq_none (Nat.le_of_not_lt hi)] at hk
  | o :: l, acc, hE, h, i, hD, k, hk => by
    refine presL_closed l (acc ++ [preOf acc o]) (fun j hj hDj => ?_) (fun j hj hDj x hx => ?_) i hD k hk
    · have := hE (j + 1) (by simpa using hj)
      simp only [List.getElem_cons_succ] at this
      exact this (by simpa [Nat.add_assoc, Nat.add_comm 1 j] using hDj)
    · by_cases hjl : j < acc.length
      · have e : (acc ++ [preOf acc o]).getD j [] = acc.getD j [] := by simp [List.getD, List.getElem?_append_left hjl]
        rw [e] at hx
        exact h j hjl hDj x hx
      · have hje : j = acc.length := by simp at hj; omega
        subst hje
        have e : (acc ++ [preOf acc o]).getD acc.length [] = preOf acc o := by simp [List.getD]
        rw [e] at hx
        obtain ⟨e, he, hb, hlt, hx⟩ := preOf_mem hx
        have hDe : D e.on := hE 0 (by simp) (by simpa using hDj) e (by simpa using he) hb
        rcases hx with rfl | hx
        · exact ⟨hDe, hlt⟩
        · obtain ⟨h1, h2⟩ := h _ hlt hDe x hx
          exact ⟨h1, by omega⟩

theorem sole_spec : ∀ (ds : List (Option Tmp)), sole ds = true → ∀ (i j : Nat) (d : Tmp), ds[i]? = some (some d) → ds[j]? = some (some d) → i = j
  | [], _, i, _, _, h, _ => by simp at h
  | none :: r, hl, i, j, d, h1, h2 => by
    cases i with
    | zero => simp at h1
    | succ i => cases j with
      | zero => simp at h2
      | succ j => exact congrArg (· + 1) (sole_spec r (by simpa [sole] using hl) i j d (by simpa using h1) (by simpa using h2))
  | some x :: r, hl, i, j, d, h1, h2 => by
    simp only [sole, Bool.and_eq_true, Bool.not_eq_true'] at hl
    have hno : ∀ j, r[j]? = some (some x) → False := fun j hj => by
      have := List.mem_of_getElem? hj
      rw [← List.contains_iff_mem] at this
      rw [hl.1] at this; cases this
    cases i with
    | zero =>
      simp at h1; subst h1
      cases j with
      | zero => rfl
      | succ j => exact (hno j (by simpa using h2)).elim
    | succ i => cases j with
      | zero => simp at h2; subst h2; exact (hno i (by simpa using h1)).elim
      | succ j => exact congrArg (· + 1) (sole_spec r hl.2 i j d (by simpa using h1) (by simpa using h2))

theorem filter_le {p q : Nat → Bool} : ∀ (l : List Nat), (∀ x, q x = true → p x = true) → (l.filter q).length ≤ (l.filter p).length
  | [], _ => Nat.le_refl _
  | x :: l, hpq => by
    have := filter_le l hpq
    rw [List.filter_cons, List.filter_cons]
    by_cases hq : q x = true
    · rw [if_pos hq, if_pos (hpq x hq)]; simp only [List.length_cons]; omega
    · rw [if_neg hq]
      by_cases hp : p x = true
      · rw [if_pos hp]; simp only [List.length_cons]; omega
      · rw [if_neg hp]; exact this

theorem count_lt {p q : Nat → Bool} {i : Nat} : ∀ (l : List Nat), (∀ x, q x = true → p x = true) → i ∈ l → p i = true → q i = false → (l.filter q).length < (l.filter p).length
  | [], _, h, _, _ => by simp at h
  | x :: l, hpq, hi, hp, hq => by
    have hle := filter_le l hpq
    rw [List.filter_cons, List.filter_cons]
    by_cases hx : x = i
    · subst hx
      rw [if_pos hp, if_neg (by rw [hq]; simp)]; simp only [List.length_cons]; omega
    · have hi' : i ∈ l := by simpa [Ne.symm hx] using hi
      have := count_lt l hpq hi' hp hq
      by_cases hy : q x = true
      · rw [if_pos hy, if_pos (hpq x hy)]; simp only [List.length_cons]; omega
      · rw [if_neg hy]
        by_cases hz : p x = true
        · rw [if_pos hz]; simp only [List.length_cons]; omega
        · rw [if_neg hz]; exact this

end Go.MW
