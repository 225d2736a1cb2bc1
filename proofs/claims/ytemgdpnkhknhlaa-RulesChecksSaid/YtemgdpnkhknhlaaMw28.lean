/-
  OUR OWN: code between whose parts none of our blocks is spoken of: frames of values alone.
-/
import Derived.Test.YtemgdpnkhknhlaaMw27
import Derived.IntWalk
namespace Go.MW

/-! ### values that lead to no block of ours, by instances -/

class PuC (x : PV) : Prop where
  pu : Pu x
class PuL (xs : List PV) : Prop where
  pu : ∀ x ∈ xs, Pu x
class PuLL (xs : List (List PV)) : Prop where
  pu : ∀ x ∈ xs, ∀ c ∈ x, Pu c
class PuA (l : List (Nat × PV)) : Prop where
  pu : ∀ p ∈ l, Pu p.2

instance : PuC .undef := ⟨.undef⟩
instance {k n} : PuC (.int k n) := ⟨.int k n⟩
instance {b} : PuC (.bool b) := ⟨.bool b⟩
instance {s} : PuC (.str s) := ⟨.str s⟩
instance : PuC .nilp := ⟨.nilp⟩
instance : PuC .nils := ⟨.nils⟩
instance : PuC .nilm := ⟨.nilm⟩
instance : PuC .nilf := ⟨.nilf⟩
instance : PuC .nili := ⟨.nili⟩
instance {t x} [PuC x] : PuC (.iface t x) := ⟨.iface t PuC.pu⟩
instance {cs} [PuL cs] : PuC (.agg cs) := ⟨.agg PuL.pu⟩
instance {cs} [PuL cs] : PuC (.tuple cs) := ⟨.tuple PuL.pu⟩
instance {cs} [PuL cs] : PuC (.rptr cs) := ⟨.rptr PuL.pu⟩
instance {f cs} [PuL cs] : PuC (.func f cs) := ⟨.func f PuL.pu⟩
instance {xs t} [PuLL xs] : PuC (.lst xs t) := ⟨.lst PuLL.pu⟩
instance : PuL [] := ⟨fun x h => by simp at h⟩
instance {x xs} [PuC x] [PuL xs] : PuL (x :: xs) := ⟨fun y hy => by
  rcases List.mem_cons.1 hy with rfl | hy
  · exact PuC.pu
  · exact PuL.pu y hy⟩
instance {ys xs} [PuL ys] [PuL xs] : PuL (ys ++ xs) := ⟨fun y hy => by
  rcases List.mem_append.1 hy with hy | hy
  · exact PuL.pu y hy
  · exact PuL.pu y hy⟩
instance : PuLL [] := ⟨fun x h => by simp at h⟩
instance {x xs} [PuL x] [PuLL xs] : PuLL (x :: xs) := ⟨fun y hy => by
  rcases List.mem_cons.1 hy with rfl | hy
  · exact PuL.pu
  · exact PuLL.pu y hy⟩
instance {α : Type} {f : α → List PV} {l : List α} [h : ∀ a, PuL (f a)] : PuLL (l.map f) := ⟨fun x hx => by
  obtain ⟨a, _, rfl⟩ := List.mem_map.1 hx
  exact (h a).pu⟩
instance : PuA [] := ⟨fun p h => by simp at h⟩
instance {i x l} [PuC x] [PuA l] : PuA ((i, x) :: l) := ⟨fun y hy => by
  rcases List.mem_cons.1 hy with rfl | hy
  · exact PuC.pu
  · exact PuA.pu y hy⟩

theorem puC (x : PV) [PuC x] : Pu x := PuC.pu
theorem puL {xs : List PV} [PuL xs] : ∀ x ∈ xs, Pu x := PuL.pu

def PuF (fr : List PV) : Prop := ∀ i, Pu (fr.getD i .undef)

theorem puF {n : Nat} {l : List (Nat × PV)} [PuA l] : PuF (mkF n l) := fun i => mkF_pu PuA.pu i

theorem PuF.mask {fr : List PV} (h : PuF fr) (ls : List Nat) (n : Nat) : PuF (maskF ls n fr) := fun i => by
  rcases (maskF_spec (ls := ls) fr n).2 i with e | e
  · rw [e]; exact h i
  · rw [e]; exact .undef

/-! ### the triple over frames of values -/

def VW (P : Program) (c : Code) (fr : List PV) (Q : Ex → List PV → Prop) : Prop :=
  W P c ⟨fr, []⟩ fun x s => ∃ fr', fr'.length = s.fr.length ∧ (∀ i, Frz s.H (s.fr.getD i .undef) (fr'.getD i .undef)) ∧ PuF fr' ∧ Q x fr'

section
variable {P : Program} {fr : List PV} {Q R : Ex → List PV → Prop}

theorem VW.mono {c : Code} (h : VW P c fr R) (hq : ∀ x f, PuF f → R x f → Q x f) : VW P c fr Q :=
  W.mono h fun _ _ ⟨f, h1, h2, h3, h4⟩ => ⟨f, h1, h2, h3, hq _ _ h3 h4⟩

theorem length_deadH (H : List Blk) : (deadH H).length = H.length := by simp [deadH]
theorem getD_deadH (H : List Blk) (r : Nat) : (deadH H).getD r .dead = .dead := by
  simp only [deadH, List.getD, List.getElem?_map]
  cases H[r]? <;> rfl

/-- Our blocks are written no more: what comes is told by values alone. -/
theorem W.froz {c : Code} {st : St} {fr' : List PV} (hl : fr'.length = st.fr.length) (hF : ∀ i, Frz st.H (st.fr.getD i .undef) (fr'.getD i .undef)) (h : VW P c fr' Q) :
    W P c st fun x s => ∃ f, s = ⟨f, deadH st.H⟩ ∧ PuF f ∧ Q x f := by
  rintro w ⟨S, β⟩ a hs
  have hH := hs.hp
  have hs0 : SR w ⟨fun b => S b ∨ Own ⟨S, β⟩ st.H b, fun _ => none⟩ ⟨fr', []⟩ a := ⟨⟨hs.fr.defers, by rw [hs.fr.size, hl], fun i => hF i w S β _ hH (hs.fr.slot i)⟩, .none_of fun b hb => by
    rcases hb with hb | ⟨r, sh, hr, hd, hβ⟩
    · exact hH.S b hb
    · exact hH.lt _ _ _ hβ⟩
  refine wp_mono (h w _ a hs0) ?_
  rintro e a' w' ⟨x, s, ⟨S', β'⟩, rfl, ⟨f, hl2, hF2, hPu, hQ⟩, hs', hst⟩
  have hH' := hs'.hp
  have hOwn0 : ∀ b, ¬ Own ⟨fun b => S b ∨ Own ⟨S, β⟩ st.H b, fun _ => none⟩ [] b := by rintro b ⟨r, sh, hr, _⟩; simp at hr
  have hnew : ∀ b, (S' b ∨ Own ⟨S', β'⟩ s.H b) → S b ∨ Own ⟨S, β⟩ st.H b ∨ w.heap.size ≤ b := by
    rintro b (hb | hb)
    · rcases hst.S b hb with hb | hb | hb
      · rcases hb with hb | hb
        · exact .inl hb
        · exact .inr (.inl hb)
      · exact absurd hb (hOwn0 b)
      · exact .inr (.inr hb)
    · rcases hst.own b hb with hb | hb
      · exact absurd hb (hOwn0 b)
      · exact .inr (.inr hb)
  have hle : Le w ⟨S, β⟩ w' ⟨fun b => S' b ∨ Own ⟨S', β'⟩ s.H b, β⟩ := ⟨fun b hb => .inl (hst.le.S b (.inl hb)), fun b hb => hst.le.still b (.inl hb), fun _ _ h => h, hst.le.rows⟩
  refine ⟨x, ⟨f, deadH st.H⟩, ⟨fun b => S' b ∨ Own ⟨S', β'⟩ s.H b, β⟩, rfl, ⟨f, rfl, hPu, hQ⟩, ⟨⟨hs'.fr.defers, by rw [hs'.fr.size, hl2], fun i => (hF2 i w' S' β' _ hH' (hs'.fr.slot i)).widen⟩,
    ⟨fun r hr hd => absurd (getD_deadH _ _) hd, fun r r' b sh sh' hr hr' hd hd' => absurd (getD_deadH _ _) hd, fun r hr => hH.none r (by simpa [length_deadH] using hr), fun b hb => ?_, fun r b sh h => Nat.lt_of_lt_of_le (hH.lt r b sh h) hst.size⟩⟩,
    ⟨hle, hst.size, fun b hb _ => hst.kept b hb (hOwn0 b), fun b ⟨r, sh, hr, hd, _⟩ => absurd (getD_deadH _ _) hd, fun b hb => hnew b hb, by simp [length_deadH], hst.os, hst.tape, hst.output⟩⟩
  rcases hb with hb | ⟨r, sh, hr, hd, hβ⟩
  · exact hH'.S b hb
  · exact hH'.lt _ _ _ hβ

/-- The same with values that lead to no block of ours. -/
theorem W.frozen {c : Code} {st : St} (hp : PuF st.fr) (h : VW P c st.fr Q) : W P c st fun x s => ∃ f, s = ⟨f, deadH st.H⟩ ∧ PuF f ∧ Q x f :=
  W.froz rfl (fun i => .pure (hp i)) h

theorem VW.of {c : Code} (h : W P c ⟨fr, []⟩ fun x s => ∃ f, s.fr = f ∧ PuF f ∧ Q x f) : VW P c fr Q :=
  W.mono h fun x s ⟨f, e, hp, hq⟩ => ⟨f, by rw [e], fun i => by rw [e]; exact .pure (hp i), hp, hq⟩

theorem VW.sq {a b : Code} (h : VW P a fr fun x f => match x with
    | .normal => VW P b f Q
    | x => Q x f) : VW P (.seq a b) fr Q := by
  refine W.sq' (W.mono h fun x s ⟨f, hl, hF, hp, hq⟩ => ?_)
  cases x with
  | normal => exact (W.froz hl hF hq).mono fun y t ⟨g, e, hp', hq'⟩ => ⟨g, by subst e; rfl, fun i => by subst e; exact .pure (hp' i), hp', hq'⟩
  | exit id => exact ⟨f, hl, hF, hp, hq⟩
  | ret => exact ⟨f, hl, hF, hp, hq⟩

theorem VW.blk {id : Nat} {c : Code} (h : VW P c fr fun x f => match x with
    | .exit j => if j = id then Q .normal f else Q (.exit j) f
    | x => Q x f) : VW P (.block id c) fr Q := by
  refine W.blk (W.mono h fun x s ⟨f, hl, hF, hp, hq⟩ => ?_)
  cases x with
  | normal => exact ⟨f, hl, hF, hp, hq⟩
  | exit j =>
    dsimp only at hq ⊢
    split at hq
    · rename_i e; rw [if_pos e]; exact ⟨f, hl, hF, hp, hq⟩
    · rename_i e; rw [if_neg e]; exact ⟨f, hl, hF, hp, hq⟩
  | ret => exact ⟨f, hl, hF, hp, hq⟩

theorem VW.mask {c : Code} (ls : List Nat) (h : VW P c (maskF ls 0 fr) Q) : VW P c fr Q := W.mask (st := ⟨fr, []⟩) ls h

theorem VW.cut {c : Code} (ls : List Nat) {fr' : List PV} (e : maskF ls 0 fr = fr') (h : VW P c fr' Q) : VW P c fr Q := by subst e; exact .mask ls h

/-- A loop over frames of values. -/
theorem VW.loop {c : Code} {α : Type} (F : α → List PV) (I : α → Prop) (μ : α → Nat) (a0 : α) (hI : I a0) (hp : ∀ a, I a → PuF (F a))
    (round : ∀ a, I a → VW P c (F a) fun x f => match x with
      | .normal => ∃ a', f = F a' ∧ I a' ∧ μ a' < μ a
      | x => Q x f) : VW P (.loop c) (F a0) Q := by
  refine .of (W.loopA (st := ⟨F a0, []⟩) (fun p : α × List Blk => ⟨F p.1, p.2⟩) (fun p => I p.1) (fun p => μ p.1) (a0, []) rfl hI fun ⟨a, H⟩ ha => (W.frozen (st := ⟨F a, H⟩) (hp a ha) (round a ha)).mono fun x s ⟨f, e, hpf, hq⟩ => ?_)
  subst e
  cases x with
  | normal =>
    obtain ⟨a', rfl, h1, h2⟩ := hq
    exact ⟨(a', deadH H), rfl, h1, h2⟩
  | exit id => exact ⟨f, rfl, hpf, hq⟩
  | ret => exact ⟨f, rfl, hpf, hq⟩

/-- A loop over k = 0 .. n whose rounds stop at the first k with a fault. -/
theorem VW.scan {c : Code} (F : Nat → List PV) (n : Nat) (bad : Nat → Prop) [∀ k, Decidable (bad k)] (hp : ∀ k, k ≤ n → PuF (F k))
    (round : ∀ k, k < n → (∀ j, j < k → ¬ bad j) → VW P c (F k) fun x f => match x with
      | .normal => ¬ bad k ∧ f = F (k + 1)
      | x => bad k ∧ Q x f)
    (last : (∀ j, j < n → ¬ bad j) → VW P c (F n) fun x f => x ≠ .normal ∧ Q x f) : VW P (.loop c) (F 0) Q := by
  refine .loop F (fun k => k ≤ n ∧ ∀ j, j < k → ¬ bad j) (fun k => n - k) 0 ⟨Nat.zero_le _, fun j hj => by omega⟩ (fun k hk => hp k hk.1) fun k ⟨hk, hb⟩ => ?_
  by_cases e : k < n
  · refine (round k e hb).mono fun x f _ h => ?_
    cases x with
    | normal =>
      obtain ⟨h1, h2⟩ := h
      refine ⟨k + 1, h2, ⟨by omega, fun j hj => ?_⟩, by omega⟩
      by_cases ej : j = k
      · subst ej; exact h1
      · exact hb j (by omega)
    | exit id => exact h.2
    | ret => exact h.2
  · obtain rfl : k = n := by omega
    refine (last hb).mono fun x f _ h => ?_
    cases x with
    | normal => exact absurd rfl h.1
    | exit id => exact h.2
    | ret => exact h.2

/-- A piece of code without loops, by its tree. -/
theorem VW.tree (cx : Cx P) {call : Orc} {oq : Hint} (hc : OrcS P call) (ls : List Nat) (n : Nat) {c : Code} {t : Tr (Ex × St)} (ht : (codeS P cx.E call oq n c ⟨fr, [], []⟩).cut ls false = t)
    (h : t.sat fun (x, s) => PuF s.fr ∧ Q x s.fr) : VW P c fr Q :=
  .of (W.tree (st := ⟨fr, []⟩) cx hc ls false n ht (Tr.sat_mono (fun (_, s) h => ⟨s.fr, rfl, h.1, h.2⟩) t h))

/-- The same where our blocks are told by values behind it. -/
theorem VW.treeH (cx : Cx P) {call : Orc} {oq : Hint} (hc : OrcS P call) (ls : List Nat) (n : Nat) {c : Code} {t : Tr (Ex × St)} (ht : (codeS P cx.E call oq n c ⟨fr, [], []⟩).cut ls true = t)
    (h : t.sat fun (x, s) => ∃ f, f.length = s.fr.length ∧ (∀ i, Frz s.H (s.fr.getD i .undef) (f.getD i .undef)) ∧ PuF f ∧ Q x f) : VW P c fr Q :=
  W.tree (st := ⟨fr, []⟩) cx hc ls true n ht h

/-- Frames slot by slot. -/
inductive FrzA (H : List Blk) : List (Nat × PV) → List (Nat × PV) → Prop
  | nil : FrzA H [] []
  | cons {i : Nat} {x y : PV} {l m : List (Nat × PV)} (h : Frz H x y) (t : FrzA H l m) : FrzA H ((i, x) :: l) ((i, y) :: m)

theorem FrzA.lookup {H : List Blk} {l m : List (Nat × PV)} (h : FrzA H l m) (i : Nat) : Frz H ((l.lookup i).getD .undef) ((m.lookup i).getD .undef) := by
  induction h with
  | nil => exact fun _ _ _ _ _ _ => .undef _
  | @cons j x y l m h t ih =>
    simp only [List.lookup_cons]
    by_cases e : i = j
    · subst e; simp; exact h
    · have : (i == j) = false := by simpa using e
      rw [this]; exact ih

theorem FrzA.mkF {H : List Blk} {l m : List (Nat × PV)} (h : FrzA H l m) (n : Nat) : (mkF n m).length = (mkF n l).length ∧ ∀ i, Frz H ((mkF n l).getD i .undef) ((mkF n m).getD i .undef) := by
  refine ⟨by simp [MW.mkF], fun i => ?_⟩
  rw [getD_mkF, getD_mkF]
  split
  · exact h.lookup i
  · exact fun _ _ _ _ _ _ => .undef _

/-- A pointer to a block of ours that is written no more. -/
theorem Frz.ptr {H : List Blk} {r off : Nat} {cs : List PV} {tg : Option (TypeId × Bool)} (hr : H.getD r .dead = .cells cs tg) (hp : ∀ c ∈ cs, Pu c) : Frz H (.ptr r off) (.rptr (cs.drop off)) := by
  intro w S β u hH hv
  cases hv with
  | @ptr _ b sh _ hβ =>
    obtain ⟨hlt, c, e, hc, hs, hS, hvs, _⟩ := row_of hH hr hβ
    refine .rptr (fun t => c.getD (sh + (off + t)) Go.undef) (.inr ⟨r, sh, hlt, by rw [hr]; simp, hβ⟩) (fun t ht => ?_) (fun t ht => ?_)
    · have ht' : sh + (off + t) < c.size := by simp at ht; omega
      rw [Addr.add_lit, show sh + off + t = sh + (off + t) by omega]
      simp [World.cell?, hc, ht']
    · have ht' : off + t < cs.length := by simp at ht; omega
      have h1 := hvs (off + t) ht'
      have e1 : (cs.drop off).getD t .undef = cs.getD (off + t) .undef := by simp [List.getD, List.getElem?_drop]
      rw [e1]
      have h2 := hp (cs.getD (off + t) .undef) (getD_mem _ _ _ ht') _ _ _ _ h1
      have hle : Le w ⟨S, fun _ => none⟩ w ⟨fun b => S b ∨ Own ⟨S, β⟩ H b, fun _ => none⟩ := ⟨fun b hb => Or.inl hb, fun _ _ => rfl, fun _ _ h => h, fun b c e f h => ⟨c, e, f, h, rfl⟩⟩
      exact h2.mono hle

theorem Frz.nil (x : PV) : Frz [] x x := by
  intro w S β u hH hv
  have hβ : β = fun _ => none := by funext r; exact hH.none r (by simp)
  subst hβ
  have hle : Le w ⟨S, fun _ => none⟩ w ⟨fun b => S b ∨ Own ⟨S, fun _ => none⟩ [] b, fun _ => none⟩ := ⟨fun b hb => Or.inl hb, fun _ _ => rfl, fun _ _ h => h, fun b c e f h => ⟨c, e, f, h, rfl⟩⟩
  exact hv.mono hle

/-- What a function answers that is told by frames of values. -/
theorem PC.fnV {f : FuncId} {fn : Func} {c : Code} (hf : P.funcs[f]? = some fn) (hb : fn.body = some c) {args : List PV} {y : PV} (hy : Pu y)
    (h : VW P c (args ++ List.replicate (fn.ntmps - args.length) .undef) fun x f => (x = .normal ∨ x = .ret) ∧ ∀ H, resOf P fn ⟨f, H⟩ = some y) : PC P f args y := by
  exact .fn hf hb hy ((W.froz (st := ⟨_, []⟩) rfl (fun i => Frz.nil _) h).mono fun x s ⟨f, e, hp, h1, h2⟩ => ⟨h1, y, by subst e; exact h2 _, .pure hy⟩)

end

theorem Tr.sat.br {α : Type} {Q : α → Prop} {b : Bool} {t e : Tr α} (h1 : b = true → t.sat Q) (h2 : b = false → e.sat Q) : (Tr.br b t e).sat Q := ⟨h1, h2⟩
theorem Tr.sat.need {α : Type} {Q : α → Prop} {p : Prop} {t : Tr α} (h1 : p) (h2 : t.sat Q) : (Tr.need p t).sat Q := ⟨h1, h2⟩
theorem Tr.sat.leaf {α : Type} {Q : α → Prop} {a : α} (h : Q a) : (Tr.leaf a).sat Q := h

/-- An element of a list of values. -/
theorem dindexAddr_lst {α : Type} [Inhabited α] {P : Program} {t e : TypeId} {sz : Nat} (hu : P.underlying t = some (.slice e)) (hs : szT P e = some sz) {pv : α → List PV} (hl : ∀ a, (pv a).length = sz) (l : List α) (b : Bool) {kd : IntKind} {k : Int}
    (h0 : 0 ≤ k) (h : k < (l.length : Int)) : dindexAddr P t (.lst (l.map pv) b) (.int kd k) = some (.rptr (pv (l.getD k.toNat default))) := by
  have h1 : k.toNat < l.length := by omega
  have e1 : (l.map pv).getD k.toNat [] = pv (l.getD k.toNat default) := by simp [List.getD, h1]
  simp only [dindexAddr, hu, hs, h0, if_true, List.length_map, e1, hl, h, and_self]

theorem wr_in {n : Int} (h : -9223372036854775808 ≤ n ∧ n ≤ 9223372036854775807) : IntKind.wrap .i64 n = n := IntWalk.i64_in _ ⟨by omega, by omega⟩

/-- The code of the first that is wrong. -/
def first {α : Type} (code : α → Int) : List α → Int → Int
  | [], e => e
  | x :: r, e => if code x = 0 then first code r e else code x

theorem first_all {α : Type} {code : α → Int} [Inhabited α] : ∀ (l : List α) (e : Int), (∀ j, j < l.length → code (l.getD j default) = 0) → first code l e = e
  | [], _, _ => rfl
  | x :: r, e, h => by
    have h0 : code x = 0 := h 0 (by simp)
    rw [first, if_pos h0]
    exact first_all r e fun j hj => h (j + 1) (by simpa using hj)
theorem first_at {α : Type} {code : α → Int} [Inhabited α] : ∀ (l : List α) (e : Int) (k : Nat), k < l.length → (∀ j, j < k → code (l.getD j default) = 0) → code (l.getD k default) ≠ 0 → first code l e = code (l.getD k default)
  | [], _, k, hk, _, _ => by simp at hk
  | x :: r, e, 0, hk, _, hc => by
    have hc : code x ≠ 0 := hc
    rw [first, if_neg hc]; rfl
  | x :: r, e, k + 1, hk, h, hc => by
    have h0 : code x = 0 := h 0 (by omega)
    rw [first, if_pos h0]
    exact first_at r e k (by simpa using hk) (fun j hj => h (j + 1) (by omega)) hc

end Go.MW
