/-
  OUR OWN: frames told by the slots that count.
-/
import Derived.Test.YtemgdpnkhknhlaaMw24
namespace Go.MW

def mkF (n : Nat) (l : List (Nat × PV)) : List PV := (List.range n).map fun i => (l.lookup i).getD .undef

theorem getD_mkF (n : Nat) (l : List (Nat × PV)) (i : Nat) : (mkF n l).getD i .undef = if i < n then (l.lookup i).getD .undef else .undef := by
  unfold mkF
  by_cases h : i < n
  · rw [if_pos h]; simp [List.getD, h]
  · rw [if_neg h]; simp [List.getD, h]

theorem lookup_mem : ∀ {l : List (Nat × PV)} {i : Nat} {v : PV}, l.lookup i = some v → (i, v) ∈ l
  | [], _, _, h => by simp at h
  | (a, b) :: r, i, v, h => by
    simp only [List.lookup_cons] at h
    by_cases e : i = a
    · subst e; simp at h; subst h; exact List.mem_cons_self ..
    · have : (i == a) = false := by simpa using e
      rw [this] at h
      exact List.mem_cons_of_mem _ (lookup_mem h)

theorem mkF_pu {n : Nat} {l : List (Nat × PV)} (h : ∀ p ∈ l, Pu p.2) (i : Nat) : Pu ((mkF n l).getD i .undef) := by
  rw [getD_mkF]
  split
  · cases hl : l.lookup i with
    | none => exact .undef
    | some v => exact h _ (lookup_mem hl)
  · exact .undef

/-- A loop over values: between its rounds the slots 'ls' alone count, and our blocks stay as they are. -/
theorem W.loopU {P : Program} {c : Code} {st : St} {Q : Ex → St → Prop} (ls : List Nat) {α : Type} (F : α → List PV) (I : α → Prop) (μ : α → Nat) (a0 : α) (h0 : maskF ls 0 st.fr = F a0) (hI : I a0) (hp : ∀ a, I a → ∀ i, Pu ((F a).getD i .undef))
    (round : ∀ a, I a → W P c ⟨F a, []⟩ fun e s => match e with
      | .normal => ∃ a', s.fr = F a' ∧ I a' ∧ μ a' < μ a
      | e => (∀ i, Pu (s.fr.getD i .undef)) ∧ Q e ⟨s.fr, st.H⟩) : W P (.loop c) st Q := by
  refine .mask ls ?_
  rw [h0]
  refine .loopA (fun a => ⟨F a, st.H⟩) I μ a0 rfl hI fun a ha => .fresh (hp a ha) ((round a ha).mono fun e s h => ?_)
  cases e with
  | normal =>
    obtain ⟨a', e1, h1, h2⟩ := h
    exact ⟨F a', by rw [e1], fun i => by rw [e1]; exact .pure (hp a' h1 i), a', rfl, h1, h2⟩
  | exit id => exact ⟨s.fr, rfl, fun i => .pure (h.1 i), h.2⟩
  | ret => exact ⟨s.fr, rfl, fun i => .pure (h.1 i), h.2⟩

def Code.l : Code → Code
  | .seq a _ => a
  | c => c
def Code.r : Code → Code
  | .seq _ b => b
  | c => c
def Code.t : Code → Code
  | .cond _ a _ => a
  | c => c
def Code.e : Code → Code
  | .cond _ _ b => b
  | c => c
def Code.i : Code → Code
  | .block _ b => b
  | .loop b => b
  | c => c

/-- What a function answers, way by way. -/
def funS (P : Program) (E : TypeId → Bool) (call : Orc) (oq : Hint) (n : Nat) (f : FuncId) (args : List PV) : Tr PV :=
  match P.funcs[f]? with
  | some fn => match fn.body with
    | some c => (codeS P E call oq n c ⟨args ++ List.replicate (fn.ntmps - args.length) .undef, [], []⟩).bind fun (x, s) => match x with
      | .exit _ => .fail
      | _ => match resOf P fn s.st with
        | some v => match frz 100 s.H v with
          | some y => .leaf y
          | none => .fail
        | none => .fail
    | none => .fail
  | none => .fail

theorem PC.tree {P : Program} (cx : Cx P) {call : Orc} {oq : Hint} (hc : OrcS P call) (n : Nat) {f : FuncId} {args : List PV} {y : PV} {t : Tr PV} (ht : funS P cx.E call oq n f args = t) (h : t.sat fun v => v = y) : PC P f args y := by
  subst ht
  unfold funS at h
  split at h
  · rename_i fn hf
    split at h
    · rename_i c hb
      have h := Tr.sat_bind _ h
      have hw := codeS_snd cx hc n c (s := ⟨args ++ List.replicate (fn.ntmps - args.length) .undef, [], []⟩) (fun d b hd => by simp at hd) h
      have key : ∀ (x : Ex) (s : SS), (match x with
          | .exit _ => Tr.fail
          | _ => match resOf P fn s.st with
            | some v => match frz 100 s.H v with
              | some y => Tr.leaf y
              | none => Tr.fail
            | none => Tr.fail).sat (fun v => v = y) → (x = .normal ∨ x = .ret) ∧ ∃ v, resOf P fn s.st = some v ∧ Frz s.H v y ∧ Pu y := by
        intro x s hq
        have inner : (match resOf P fn s.st with
            | some v => match frz 100 s.H v with
              | some y => Tr.leaf y
              | none => Tr.fail
            | none => Tr.fail).sat (fun v => v = y) → ∃ v, resOf P fn s.st = some v ∧ Frz s.H v y ∧ Pu y := by
          intro hq
          split at hq
          · rename_i v hv
            split at hq
            · rename_i y' hy
              obtain rfl : y' = y := hq
              obtain ⟨h1, h2⟩ := frz_snd _ _ _ _ hy
              exact ⟨v, hv, h1, h2⟩
            · exact hq.elim
          · exact hq.elim
        cases x with
        | normal => exact ⟨.inl rfl, inner hq⟩
        | exit id => exact hq.elim
        | ret => exact ⟨.inr rfl, inner hq⟩
      obtain ⟨⟨x0, s0⟩, h0⟩ := Tr.sat_one _ h
      obtain ⟨_, _, _, _, hPu⟩ := key x0 s0 h0
      refine .fn hf hb hPu (hw.mono fun x t ⟨s', e, _, hq⟩ => ?_)
      subst e
      obtain ⟨h1, v, h2, h3, _⟩ := key x s' hq
      exact ⟨h1, v, h2, h3⟩
    · exact h.elim
  · exact h.elim

end Go.MW
