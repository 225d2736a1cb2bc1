/-
  OUR OWN: equations for steps by rewriting.
-/
import Derived.Test.YtemgdpnkhknhlaaMw22
namespace Go.MW

section
variable {P : Program} {E : TypeId → Bool} {f : Operand → PV} {H : List Blk}

theorem any_of {r : Option PV} {o : Op} (ho : anyOp o = true) (h0 : deff0 P E [] f o = r.map fun v => (v, [])) (hm : dmore P [] f o = none) : dany P E f o = r := by
  unfold dany
  rw [if_pos ho, h0, hm]
  cases r <;> rfl

theorem any_move (x : Operand) : dany P E f (.move x) = some (f x) := rfl
theorem any_assign (x : Operand) : dany P E f (.assign x) = some (f x) := rfl
theorem any_pick (c a b : Operand) : dany P E f (.pick c a b) = match f c with | .bool true => some (f a) | .bool false => some (f b) | _ => none := any_of rfl rfl rfl
theorem any_bin (op : BinOp) (t ty : TypeId) (x y : Operand) : dany P E f (.binOp op t x y ty) = dbin P E op t (isCst x || isCst y) (f x) (f y) := any_of rfl rfl rfl
theorem any_un (op : UnOp) (t : TypeId) (x : Operand) : dany P E f (.unOp op t x) = dun op (f x) := any_of rfl rfl rfl
theorem any_fieldAddr (s : TypeId) (x : Operand) (i : Nat) : dany P E f (.fieldAddr s x i) = dfieldAddr P s (f x) i := any_of rfl rfl rfl
theorem any_field (s : TypeId) (x : Operand) (i : Nat) : dany P E f (.field s x i) = dfield P s (f x) i := any_of rfl rfl rfl
theorem any_indexAddr (t : TypeId) (x i : Operand) : dany P E f (.indexAddr t x i) = dindexAddr P t (f x) (f i) := any_of rfl rfl rfl
theorem any_load (t : TypeId) (a : Operand) : dany P E f (.load t a) = match aggT P t, szT P t, behind [] (f a) with
    | some b, some n, some cs => pick1 b n cs
    | _, _, _ => none := any_of rfl rfl rfl
theorem any_len (x : Operand) (t : TypeId) : dany P E f (.call ⟨.builtin .len, #[x], #[t]⟩) = dlen P [] t (f x) := any_of rfl rfl rfl
theorem any_build (t : TypeId) (ps : Array (Nat × Operand)) : dany P E f (.build t ps) = dbuild P t (ps.toList.map fun (i, x) => (i, f x)) := any_of rfl rfl rfl
theorem any_extract (t : Operand) (i : Nat) : dany P E f (.extract t i) = match f t with | .tuple vs => vs[i]? | _ => none := any_of rfl rfl rfl
theorem any_alloc (t : TypeId) : dany P E f (.alloc t) = none := rfl
theorem any_box (t : TypeId) (x : Operand) : dany P E f (.box t x) = none := rfl
theorem any_store (t : TypeId) (x v : Operand) : dany P E f (.store t x v) = none := rfl
theorem any_call2 (c x y : Operand) (as : Array Operand) (ts : Array TypeId) (h : as.size ≠ 1) : dany P E f (.call ⟨.value c, as, ts⟩) = none := by
  refine any_of (r := none) rfl rfl ?_
  simp only [dmore]
  split
  · rename_i e
    have : as.size = 1 := by rw [← Array.length_toList, e]; rfl
    exact absurd this h
  · rfl

theorem getD_put_ne {fr : List PV} {d t : Nat} {v : PV} (h : d ≠ t) : (putF fr (some d) v).getD t .undef = fr.getD t .undef := getD_putF_ne fun e => h (Option.some.inj e)
theorem getD_put_eq {fr : List PV} {d : Nat} {v : PV} (h : d < fr.length) : (putF fr (some d) v).getD d .undef = v := by simp [putF, List.getD, h]
theorem len_put {fr : List PV} {d : Option Tmp} {v : PV} : (putF fr d v).length = fr.length := length_putF _ _ _
theorem put_none {fr : List PV} {v : PV} : putF fr none v = fr := rfl

theorem eff_alloc (t : TypeId) : deff P E H f (.alloc t) = match zeroPV P t with
    | some z => match cellsPV z with
      | some cs => some (.ptr H.length 0, H ++ [.cells cs (some (t, true))])
      | none => none
    | none => none := by
  unfold deff
  simp only [deff0, dnew]
  cases zeroPV P t with
  | none => rfl
  | some z =>
    dsimp only
    cases cellsPV z <;> rfl

theorem eff_box (t : TypeId) (x : Operand) : deff P E H f (.box t x) = match cellsPV (f x) with
    | some cs => some (.ptr H.length 0, H ++ [.cells cs none])
    | none => none := by
  unfold deff
  simp only [deff0, dnew]
  cases cellsPV (f x) <;> rfl

theorem eff_store (t : TypeId) (x v : Operand) : deff P E H f (.store t x v) = match dstore P H t (f x) (f v) with
    | some h => some (.undef, h)
    | none => none := by
  unfold deff
  simp only [deff0]
  cases dstore P H t (f x) (f v) <;> rfl

theorem eff_load (t : TypeId) (a : Operand) : deff P E H f (.load t a) = match aggT P t, szT P t, behind H (f a) with
    | some b, some n, some cs => match pick1 b n cs with
      | some v => some (v, H)
      | none => none
    | _, _, _ => none := by
  unfold deff
  simp only [deff0, dread, dmore]
  cases aggT P t <;> cases szT P t <;> cases behind H (f a) <;> try rfl
  rename_i b n cs
  dsimp only
  cases pick1 b n cs <;> rfl

theorem eff_call (c : Operand) (as : Array Operand) (ts : Array TypeId) (h : as.size ≠ 1) : deff P E H f (.call ⟨.value c, as, ts⟩) = none := by
  unfold deff
  have h0 : deff0 P E H f (.call ⟨.value c, as, ts⟩) = none := rfl
  have hm : dmore P H f (.call ⟨.value c, as, ts⟩) = none := by
    simp only [dmore]
    split
    · rename_i e
      have : as.size = 1 := by rw [← Array.length_toList, e]; rfl
      exact absurd this h
    · rfl
  rw [h0, hm]

theorem eff_call1 {c x : Operand} {ts : Array TypeId} {g : FuncId} {fn : Func} (hc : f c = .func (.func g) []) (hf : P.funcs[g]? = some fn) (hn : isNoEscape fn = false) : deff P E H f (.call ⟨.value c, #[x], ts⟩) = none := by
  unfold deff
  have h0 : deff0 P E H f (.call ⟨.value c, #[x], ts⟩) = none := rfl
  have hm : dmore P H f (.call ⟨.value c, #[x], ts⟩) = none := by
    simp only [dmore, hc, hf, hn]
    rfl
  rw [h0, hm]

theorem any_call1 {c x : Operand} {ts : Array TypeId} {g : FuncId} {fn : Func} (hc : f c = .func (.func g) []) (hf : P.funcs[g]? = some fn) (hn : isNoEscape fn = false) : dany P E f (.call ⟨.value c, #[x], ts⟩) = none := by
  refine any_of (r := none) rfl rfl ?_
  simp only [dmore, hc, hf, hn]
  rfl

theorem target_of {fr : List PV} {c : Operand} {as : Array Operand} {ts : Array TypeId} {g : FuncId} {fn : Func} {caps : List PV} (hc : evalO fr c = .func (.func g) caps) (hf : P.funcs[g]? = some fn)
    (hn : (fn.name == "runtime.NumGoroutine" || fn.body.isNone) = false) : dtarget P fr (.call ⟨.value c, as, ts⟩) = some (g, as.toList.map (evalO fr) ++ caps) := by
  simp only [dtarget, hc, hf, hn]
  rfl
end

section
variable {P : Program} {st : St} {Q : Ex → St → Prop} {ops : Array Oper}

theorem WL.ot {l : List Oper} {o : Oper} {y : PV} {H' : List Blk} (hw : dwant ops st.fr o = some true) (hd : OT P ops o st.fr st.H y H') (h : WL P ops l ⟨putF st.fr o.dst y, H'⟩ Q) : WL P ops (o :: l) st Q := by
  intro w0 ρ0 H0 w ρ a hs hst
  simp only [wpList, want_snd hs.fr hw, if_true]
  left
  exact hd st.fr (fun _ _ => rfl) w ρ a _ _ hs fun u w' ρ' hv hH hstep => h w0 ρ0 H0 w' ρ' _ ⟨(hs.fr.mono hstep.le).put hv o.dst, hH⟩ (hst.trans hstep)

theorem WL.dr {l : List Oper} {ks : List Kd} {s s' : St} (h : DR P ops l ks s s') (hq : Q .normal s') : WL P ops l s Q := by
  induction h with
  | nil s => exact .nil hq
  | @cons o k l ks s s1 s' h t ih =>
    rcases h with ⟨hw, rfl⟩ | ⟨hw, y, hfy, hk⟩
    · exact .skip hw (ih hq)
    · have e : s1 = ⟨putF s.fr o.dst y, s1.H⟩ := by rw [← hfy]
      have ih := ih hq
      rw [e] at ih
      cases k with
      | any => exact .ot hw (hk.2 s.H) (by have := hk.1; rw [this] at ih; exact ih)
      | rd => exact .ot hw hk.2 (by have := hk.1; rw [this] at ih; exact ih)
      | st => exact .ot hw hk ih

/-- A region, by reckoning: the order of the text; if it draws its order, 'drawOk' is asked. -/
theorem W.sqReg (cx : Cx P) {call : Orc} (hc : OrcS P call) {id : Nat} {draw : Bool} {b : Code} {ks : List Kd} {s1 : St} (hd : ∀ o l, o = ops → l = ops.toList → denDraw P cx.E call o l st = some (s1, ks))
    (hok : draw = true → drawOk ops ks = true) (h : W P b s1 Q) : W P (.seq (.region id ops draw) b) st Q := by
  have hdr := denDraw_snd cx hc _ _ _ _ (hd ops _ rfl rfl)
  refine .seq (R := fun e t => e = .normal ∧ t = s1) ?_ (fun s ⟨_, e⟩ => by subst e; exact h) fun e s hne ⟨e1, _⟩ => absurd e1 hne
  cases draw with
  | false => exact .region (.dr hdr ⟨rfl, rfl⟩)
  | true => exact .draw cx (hok rfl) hdr ⟨rfl, rfl⟩

/-- A region at the end. -/
theorem W.reg (cx : Cx P) {call : Orc} (hc : OrcS P call) {id : Nat} {draw : Bool} {ks : List Kd} {s1 : St} (hd : ∀ o l, o = ops → l = ops.toList → denDraw P cx.E call o l st = some (s1, ks))
    (hok : draw = true → drawOk ops ks = true) (h : Q .normal s1) : W P (.region id ops draw) st Q := by
  have hdr := denDraw_snd cx hc _ _ _ _ (hd ops _ rfl rfl)
  cases draw with
  | false => exact .region (.dr hdr h)
  | true => exact .draw cx (hok rfl) hdr h

end
end Go.MW
