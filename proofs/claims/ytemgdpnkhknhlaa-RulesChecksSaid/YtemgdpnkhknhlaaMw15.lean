/-
  OUR OWN: regions in the order of the text, tests, calls.
-/
import Derived.Test.YtemgdpnkhknhlaaMw14b
namespace Go.MW

def putF (fr : List PV) (dst : Option Tmp) (v : PV) : List PV :=
  match dst with
  | some d => fr.set d v
  | none => fr

theorem FR.put {w : World} {ρ : Rl} {fr : List PV} {a : Act} (h : FR w ρ fr a) {v : PV} {u : Value} (hv : VR w ρ v u) (dst : Option Tmp) : FR w ρ (putF fr dst v) (a.put dst u) := by
  cases dst with
  | none => exact h
  | some d =>
    refine ⟨h.defers, by simp [putF, Act.put, h.size], fun i => ?_⟩
    have hs := h.size
    by_cases e : i = d
    · subst e
      by_cases hl : i < fr.length
      · have e1 : (putF fr (some i) v).getD i .undef = v := by simp [putF, List.getD, hl]
        have e2 : (a.put (some i) u).tmps.getD i Go.undef = u := by simp [Act.put, show i < a.tmps.size by omega]
        rw [e1, e2]; exact hv
      · have e1 : (putF fr (some i) v).getD i .undef = .undef := by
          have : (fr.set i v).length ≤ i := by simp; omega
          simp only [putF, List.getD, List.getElem?_eq_none this]; rfl
        rw [e1]; exact .undef _
    · have e1 : (putF fr (some d) v).getD i .undef = fr.getD i .undef := by simp [putF, List.getD, List.getElem?_set_ne (Ne.symm e)]
      have e2 : (a.put (some d) u).tmps.getD i Go.undef = a.tmps.getD i Go.undef := by simp [Act.put, Array.getElem?_setIfInBounds_ne (Ne.symm e)]
      rw [e1, e2]; exact h.slot i

theorem FR.mono {w w' : World} {ρ ρ' : Rl} (hle : Le w ρ w' ρ') {fr : List PV} {a : Act} (h : FR w ρ fr a) : FR w' ρ' fr a := ⟨h.defers, h.size, fun i => (h.slot i).mono hle⟩

/-- What stands in the slot of an operation that was not carried out. -/
theorem VR.hole {w : World} {ρ : Rl} : VR w ρ (.tuple []) Go.undef := .tuple (vs := #[]) rfl fun t ht => by simp at ht

/-- Is an operation carried out? -/
def dwant (ops : Array Oper) (fr : List PV) (o : Oper) : Option Bool :=
  match o.guard with
  | none => some true
  | some (j, b) => match (ops[j]?).bind (·.dst) with
    | some d => match fr.getD d .undef with
      | .bool c => some (c == b)
      | .tuple [] => some false
      | _ => none
    | none => none

theorem want_snd {ops : Array Oper} {w : World} {ρ : Rl} {fr : List PV} {a : Act} (h : FR w ρ fr a) {o : Oper} {b : Bool} (hw : dwant ops fr o = some b) : Region.wanted o (yielded ops a.tmps) = b := by
  unfold dwant at hw
  unfold Region.wanted
  split at hw
  · rename_i hg; simp at hw; subst hw; rw [hg]
  · rename_i j want hg
    rw [hg]
    split at hw
    · rename_i d hd
      have hs := h.slot d
      split at hw
      · rename_i c hc
        simp at hw; subst hw
        rw [hc] at hs
        generalize hu : a.tmps.getD d Go.undef = u at hs
        cases hs
        have : a.tmps[d]? = some (.bool c) := by
          have hl : d < a.tmps.size := by
            rcases Nat.lt_or_ge d a.tmps.size with h' | h'
            · exact h'
            · simp [Array.getD_eq_getD_getElem?, Array.getElem?_eq_none h', Go.undef] at hu
          simp [hl] at hu
          simp [hl, hu]
        simp only [yielded, hd, Option.bind_some, this]
        cases c <;> cases want <;> rfl
      · rename_i hc
        simp at hw; subst hw
        rw [hc] at hs
        generalize hu : a.tmps.getD d Go.undef = u at hs
        cases hs with
        | @tuple _ vs hl hv =>
          have hvs : vs = #[] := by simpa using hl
          subst hvs
          have : yielded ops a.tmps j = none := by
            simp only [yielded, hd, Option.bind_some]
            cases ht : a.tmps[d]? with
            | none => rfl
            | some z =>
              have hl : d < a.tmps.size := (Array.getElem?_eq_some_iff.1 ht).1
              have hz : a.tmps.getD d Go.undef = z := by simp [Array.getD_eq_getD_getElem?, ht]
              rw [hu] at hz; subst hz; rfl
          dsimp only; rw [this]; rfl
      · cases hw
    · cases hw

/-- The triple of the rest of a region. -/
def WL (P : Program) (ops : Array Oper) (l : List Oper) (st : St) (Q : Ex → St → Prop) : Prop :=
  ∀ w0 ρ0 H0 w ρ a, SR w ρ st a → Step w0 ρ0 H0 w ρ st.H → wpList P ops (Post Q w0 ρ0 H0) l a w

section
variable {P : Program} {ops : Array Oper} {l : List Oper} {st : St} {Q : Ex → St → Prop} {o : Oper}

theorem WL.nil (h : Q .normal st) : WL P ops [] st Q := fun _ _ _ _ ρ _ hs hst => ⟨.normal, st, ρ, rfl, h, hs, hst⟩

theorem WL.skip (hw : dwant ops st.fr o = some false) (h : WL P ops l ⟨putF st.fr o.dst (.tuple []), st.H⟩ Q) : WL P ops (o :: l) st Q := by
  intro w0 ρ0 H0 w ρ a hs hst
  simp only [wpList, want_snd hs.fr hw, Bool.false_eq_true, if_false]
  exact h w0 ρ0 H0 w ρ _ ⟨hs.fr.put VR.hole o.dst, hs.hp⟩ hst

theorem WL.eff (cx : Cx P) (hw : dwant ops st.fr o = some true) {v : PV} {H' : List Blk} (hd : deff P cx.E st.H (evalO st.fr) o.op = some (v, H')) (h : WL P ops l ⟨putF st.fr o.dst v, H'⟩ Q) : WL P ops (o :: l) st Q := by
  intro w0 ρ0 H0 w ρ a hs hst
  simp only [wpList, want_snd hs.fr hw, if_true]
  left
  obtain ⟨w', ρ', nx, u, hrun, hnx, hv, hH, hstep⟩ := deff_snd cx hs.hp (fun x => evalO_VR hs.fr x) hd
  unfold Oper.wp
  rw [hrun]
  have hfr := (hs.fr.mono hstep.le).put hv o.dst
  rcases hnx with rfl | ⟨rfl, rfl⟩
  · exact h w0 ρ0 H0 w' ρ' _ ⟨hfr, hH⟩ (hst.trans hstep)
  · exact h w0 ρ0 H0 w' ρ' _ ⟨hfr, hH⟩ (hst.trans hstep)

end

/-- THE TRIPLE OF A CALL. -/
def WC (P : Program) (f : FuncId) (args : List PV) (H : List Blk) (Q : PV → List Blk → Prop) : Prop :=
  ∀ w ρ vals, HR w ρ H → AV w ρ args vals → Calls P f vals w fun e w' => ∃ u v ρ' H', e = .returned u ∧ Q v H' ∧ VR w' ρ' v u ∧ HR w' ρ' H' ∧ Step w ρ H w' ρ' H'

theorem WC.mono {P : Program} {f : FuncId} {args : List PV} {H : List Blk} {Q R : PV → List Blk → Prop} (h : WC P f args H R) (hq : ∀ v H', R v H' → Q v H') : WC P f args H Q :=
  fun w ρ vals hH hA => (h w ρ vals hH hA).mono fun _ _ ⟨u, v, ρ', H', h1, h2, h3⟩ => ⟨u, v, ρ', H', h1, hq _ _ h2, h3⟩

/-- Which function a call enters, and with what. -/
def dtarget (P : Program) (fr : List PV) (o : Op) : Option (FuncId × List PV) :=
  match o with
  | .call { callee := .value x, args, .. } => match evalO fr x with
    | .func (.func f) caps => match P.funcs[f]? with
      | some fn => if fn.name == "runtime.NumGoroutine" || fn.body.isNone then none else some (f, args.toList.map (evalO fr) ++ caps)
      | none => none
    | _ => none
  | _ => none

theorem callFunc_run {P : Program} {f : FuncId} {fn : Func} (hf : P.funcs[f]? = some fn) (hc : (fn.name == "runtime.NumGoroutine" || fn.body.isNone) = false) (args : Array Value) (w : World) :
    (callFunc f args).run P w = .ok (.enter f args) w := by
  simp only [Bool.or_eq_false_iff] at hc
  simp only [callFunc, Sem.run_bind, run_program, Result.andThen_ok, hf, hc.1, hc.2, Bool.false_eq_true, if_false, Sem.run_pure]

theorem target_snd {P : Program} {w : World} {ρ : Rl} {fr : List PV} {a : Act} (h : FR w ρ fr a) {o : Oper} {f : FuncId} {args : List PV} (ht : dtarget P fr o.op = some (f, args)) :
    ∃ vals, (execOp a.eval o).run P w = .ok (.enter f vals) w ∧ AV w ρ args vals := by
  obtain ⟨dst, op, type, pos, after, guard⟩ := o
  unfold dtarget at ht
  dsimp only at ht
  split at ht
  · rename_i x as ts
    have hx := evalO_VR h x
    split at ht
    · rename_i f' caps e
      rw [e] at hx
      split at ht
      · rename_i fn hf
        split at ht
        · cases ht
        · rename_i hc
          simp only [Option.some.injEq, Prod.mk.injEq] at ht
          obtain ⟨rfl, rfl⟩ := ht
          generalize hg : a.eval x = gx at hx
          cases hx with
          | @func _ _ vs hl hv =>
            have hA := AV.map (w := w) (ρ := ρ) (xs := as) (fun x => evalO_VR h x)
            refine ⟨as.map a.eval ++ vs, ?_, hA.append ⟨hl, hv⟩⟩
            simp only [execOp, resolve, hg, Deferred.ofValue, Sem.run_bind, Sem.run_pure, Result.andThen_ok, invoke, Array.empty_append]
            exact callFunc_run hf (Bool.eq_false_iff.2 hc) _ w
      · cases ht
    · cases ht
  · cases ht

section
variable {P : Program} {ops : Array Oper} {l : List Oper} {st : St} {Q : Ex → St → Prop} {o : Oper}

theorem WL.call (hw : dwant ops st.fr o = some true) {f : FuncId} {args : List PV} (ht : dtarget P st.fr o.op = some (f, args)) {R : PV → List Blk → Prop} (hc : WC P f args st.H R)
    (h : ∀ v H', R v H' → WL P ops l ⟨putF st.fr o.dst v, H'⟩ Q) : WL P ops (o :: l) st Q := by
  intro w0 ρ0 H0 w ρ a hs hst
  simp only [wpList, want_snd hs.fr hw, if_true]
  left
  obtain ⟨vals, hrun, hA⟩ := target_snd hs.fr ht
  unfold Oper.wp
  rw [hrun]
  refine (hc w ρ vals hs.hp hA).mono ?_
  rintro e w' ⟨u, v, ρ', H', rfl, hR, hv, hH, hstep⟩
  exact h v H' hR w0 ρ0 H0 w' ρ' _ ⟨(hs.fr.mono hstep.le).put hv o.dst, hH⟩ (hst.trans hstep)

theorem W.region {id : Nat} (h : WL P ops ops.toList st Q) : W P (.region id ops false) st Q :=
  fun w ρ a hs => wp_region_list (h w ρ st.H w ρ a hs (Step.refl _ _ _))

theorem W.cond {c : Operand} {x y : Code} {b : Bool} (hc : evalO st.fr c = .bool b) (h : W P (if b then x else y) st Q) : W P (.cond c x y) st Q := by
  intro w ρ a hs
  have hv := evalO_VR hs.fr c
  rw [hc] at hv
  generalize hg : a.eval c = gc at hv
  cases hv
  exact wp_cond hg (h w ρ a hs)

end

/-! ### a function's own triple -/

def resVar (P : Program) (st : St) : ResultVar → Option PV
  | .tmp t => some (st.fr.getD t .undef)
  | .cell a t => match aggT P t, szT P t, behind st.H (st.fr.getD a .undef) with
    | some b, some n, some cs => pick1 b n cs
    | _, _, _ => none

def resAll (P : Program) (st : St) : List ResultVar → Option (List PV)
  | [] => some []
  | r :: rs => match resVar P st r, resAll P st rs with
    | some v, some vs => some (v :: vs)
    | _, _ => none

def resOf (P : Program) (fn : Func) (st : St) : Option PV :=
  match resAll P st fn.results.toList with
  | some [v] => some v
  | some vs => some (.tuple vs)
  | none => none

theorem resAll_snd {P : Program} {w : World} {ρ : Rl} {st : St} {a : Act} (hs : SR w ρ st a) : ∀ (rs : List ResultVar) (vs : List PV), resAll P st rs = some vs →
    ∃ us : List Value, (rs.mapM (m := Sem) fun
      | .tmp t => pure (a.tmps.getD t Go.undef)
      | .cell x t => do loadVar t (← asAddr (a.tmps.getD x Go.undef))).run P w = .ok us w ∧ us.length = vs.length ∧ ∀ i, i < vs.length → VR w ρ (vs.getD i .undef) (us.getD i Go.undef)
  | [], vs, h => by simp [resAll] at h; subst h; exact ⟨[], rfl, rfl, fun i hi => by simp at hi⟩
  | r :: rs, vs, h => by
    simp only [resAll] at h
    split at h
    · rename_i v vs' hv hvs
      simp at h; subst h
      obtain ⟨us, h1, h2, h3⟩ := resAll_snd hs rs vs' hvs
      have hone : ∃ u, (match r with
          | .tmp t => pure (a.tmps.getD t Go.undef)
          | .cell x t => do loadVar t (← asAddr (a.tmps.getD x Go.undef)) : Sem Value).run P w = .ok u w ∧ VR w ρ v u := by
        cases r with
        | tmp t =>
          simp [resVar] at hv; subst hv
          exact ⟨a.tmps.getD t Go.undef, rfl, by simpa using hs.fr.slot t⟩
        | cell x t =>
          simp only [resVar] at hv
          split at hv
          · rename_i b n cs hb hn hbe
            obtain ⟨ad, had, hca⟩ := behind_cells hs.hp (hs.fr.slot x) hbe
            obtain ⟨u, hu1, hu2⟩ := hca.load (P := P) hb hn hv
            exact ⟨u, by simp only [had, asAddr, Sem.run_bind, Sem.run_pure, Result.andThen_ok, hu1], hu2⟩
          · cases hv
      obtain ⟨u, hu1, hu2⟩ := hone
      refine ⟨u :: us, ?_, by simp [h2], fun i hi => ?_⟩
      · rw [List.mapM_cons]
        simp only [Sem.run_bind]
        rw [hu1]
        simp only [Result.andThen_ok]
        rw [h1]
        rfl
      · cases i with
        | zero => simpa using hu2
        | succ i => simpa using h3 i (by simpa using hi)
    · cases h

theorem resOf_snd {P : Program} {w : World} {ρ : Rl} {st : St} {a : Act} (hs : SR w ρ st a) {fn : Func} {v : PV} (h : resOf P fn st = some v) : ∃ u, (results fn a.tmps).run P w = .ok u w ∧ VR w ρ v u := by
  unfold resOf at h
  have key : ∀ vs, resAll P st fn.results.toList = some vs → ∃ us : List Value, (results fn a.tmps).run P w = .ok (if h : us.length = 1 then us[0] else .tuple us.toArray) w ∧ us.length = vs.length ∧
      ∀ i, i < vs.length → VR w ρ (vs.getD i .undef) (us.getD i Go.undef) := by
    intro vs hv
    obtain ⟨us, h1, h2, h3⟩ := resAll_snd hs _ vs hv
    refine ⟨us, ?_, h2, h3⟩
    unfold results
    rw [Array.mapM_eq_mapM_toList]
    simp only [Sem.run_bind, Sem.run_map]
    erw [h1]
    simp only [Result.andThen_ok, Sem.run_pure, List.size_toArray, List.getElem_toArray]
  split at h
  · rename_i v' hv
    simp at h; subst h
    obtain ⟨us, h1, h2, h3⟩ := key _ hv
    obtain ⟨u, rfl⟩ : ∃ u, us = [u] := by
      match us, h2 with
      | [u], _ => exact ⟨u, rfl⟩
    exact ⟨u, by simpa using h1, by simpa using h3 0 (by simp)⟩
  · rename_i vs hne hv
    simp at h; subst h
    obtain ⟨us, h1, h2, h3⟩ := key _ hv
    have hn1 : ¬ us.length = 1 := by
      intro e
      rw [h2] at e
      match vs, e with
      | [x], _ => exact hne x rfl
    rw [dif_neg hn1] at h1
    exact ⟨_, h1, .tuple (by simp [h2]) (fun t ht => by simpa using h3 t ht)⟩
  · cases h

/-- A FUNCTION BY ITS BODY. -/
theorem WC.fn {P : Program} {f : FuncId} {fn : Func} {c : Code} (hf : P.funcs[f]? = some fn) (hb : fn.body = some c) {args : List PV} {H : List Blk} {Q : PV → List Blk → Prop}
    (h : W P c ⟨args ++ List.replicate (fn.ntmps - args.length) .undef, H⟩ fun x s => (x = .normal ∨ x = .ret) ∧ ∃ v, resOf P fn s = some v ∧ Q v s.H) : WC P f args H Q := by
  intro w ρ vals hH hA
  refine calls_of_wp hf hb ?_
  have hsz := hA.1
  have hs : SR w ρ ⟨args ++ List.replicate (fn.ntmps - args.length) .undef, H⟩ { tmps := vals ++ Array.replicate (fn.ntmps - vals.size) Go.undef, defers := [] } := by
    refine ⟨⟨rfl, by simp [hsz], fun i => ?_⟩, hH⟩
    by_cases hi : i < args.length
    · have e1 : (args ++ List.replicate (fn.ntmps - args.length) PV.undef).getD i .undef = args.getD i .undef := by simp [List.getD, List.getElem?_append_left hi]
      have e2 : (vals ++ Array.replicate (fn.ntmps - vals.size) Go.undef).getD i Go.undef = vals.getD i Go.undef := by
        have : i < vals.size := by omega
        simp [Array.getElem?_append, this]
      dsimp only
      rw [e1, e2]; exact hA.2 i hi
    · have e1 : (args ++ List.replicate (fn.ntmps - args.length) PV.undef).getD i .undef = .undef := by
        simp only [List.getD]
        rw [List.getElem?_append_right (Nat.le_of_not_lt hi), List.getElem?_replicate]
        split <;> rfl
      dsimp only
      rw [e1]; exact .undef _
  refine wp_mono (h w ρ _ hs) ?_
  rintro e a' w' ⟨x, s, ρ', rfl, ⟨hx, v, hv, hQ⟩, hs', hst⟩
  obtain ⟨u, hu1, hu2⟩ := resOf_snd hs' hv
  have fin : a'.defers = [] ∧ ∃ u, (results fn a'.tmps).run P w' = .ok u w' ∧ ∃ u1 v ρ' H', Ending.returned u = .returned u1 ∧ Q v H' ∧ VR w' ρ' v u1 ∧ HR w' ρ' H' ∧ Step w ρ H w' ρ' H' :=
    ⟨hs'.fr.defers, u, hu1, u, v, ρ', s.H, rfl, hQ, hu2, hs'.hp, hst⟩
  rcases hx with rfl | rfl
  · exact fin
  · exact fin

end Go.MW
