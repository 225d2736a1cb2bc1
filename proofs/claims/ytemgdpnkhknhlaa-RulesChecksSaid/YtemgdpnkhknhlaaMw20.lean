/-
  OUR OWN: operations and calls that do nothing with our blocks; what a call answers, written no more; loops unrolled.
-/
import Derived.Test.YtemgdpnkhknhlaaMw19
namespace Go.MW

theorem behind_any {x : PV} {cs : List PV} (h : behind [] x = some cs) (H : List Blk) : behind H x = some cs := by
  cases x <;> simp [behind] at h ⊢ <;> exact h

theorem dlen_any {P : Program} {t : TypeId} {x y : PV} (h : dlen P [] t x = some y) (H : List Blk) : dlen P H t x = some y := by
  unfold dlen at h ⊢
  split at h
  · exact h
  · exact h
  · split at h
    · exact h
    · simp at h
    · cases h
  · exact h
  · cases h

theorem dbuiltin_any {P : Program} {b : Builtin} {ts : Array TypeId} {xs : List PV} {y : PV} (h : dbuiltin P [] b ts xs = some y) (H : List Blk) : dbuiltin P H b ts xs = some y := by
  unfold dbuiltin at h ⊢
  split at h
  · split at h
    · exact dlen_any h H
    · cases h
  · exact h
  · exact h
  · cases h

/-- Operations that at most read our blocks. -/
def anyOp : Op → Bool
  | .alloc _ | .box _ _ | .buildSlice _ _ _ | .makeMap _ _ | .makeSlice _ _ _ | .range _ _ | .store _ _ _ | .mapUpdate _ _ _ _ | .insert _ _ _ _ | .mapEntry _ _ _ | .entryStore _ _ _ _ | .entry _ | .slice _ _ _ _ _ | .lookup _ _ _ _ | .next _ _ => false
  | .call { callee := .builtin .append, .. } | .call { callee := .builtin .copy, .. } | .call { callee := .builtin .clear, .. } | .call { callee := .builtin .unsafeString, .. } => false
  | _ => true

theorem deff0_any {P : Program} {E : TypeId → Bool} {f : Operand → PV} {o : Op} (ho : anyOp o = true) {y : PV} {H0 : List Blk} (h : deff0 P E [] f o = some (y, H0)) (H : List Blk) : deff0 P E H f o = some (y, H) := by
  have key : ∀ {r s : Option PV}, (∀ v, r = some v → s = some v) → r.map (fun v => (v, ([] : List Blk))) = some (y, H0) → s.map (fun v => (v, H)) = some (y, H) := by
    intro r s hrs h
    cases r with
    | none => cases h
    | some v => simp at h; obtain ⟨rfl, rfl⟩ := h; rw [hrs v rfl]; rfl
  cases o
  case call c =>
    obtain ⟨callee, args, ats⟩ := c
    cases callee
    · cases h
    · cases h
    · rename_i b
      have hb : ∀ v, dread P E [] f (.call ⟨.builtin b, args, ats⟩) = some v → dread P E H f (.call ⟨.builtin b, args, ats⟩) = some v := fun v h => dbuiltin_any h H
      cases b
      case append => cases ho
      case copy => cases ho
      case clear => cases ho
      all_goals (simp only [deff0] at h ⊢; exact key hb h)
  case load t a =>
    refine key (fun v h => ?_) h
    simp only [dread] at h ⊢
    split at h
    · rename_i e1 e2 e3; rw [e1, e2, behind_any e3 H]; exact h
    · cases h
  case convert s d x =>
    simp only [deff0] at h ⊢
    split at h
    · rename_i v hv; simp at h; obtain ⟨rfl, rfl⟩ := h; simp
    · rename_i hv; exact key (fun v h => h) h
  all_goals first
    | (cases ho; done)
    | (simp only [deff0] at h ⊢; exact key (fun v h => h) h)
    | (simp [deff0, dread] at h; done)

theorem OT.more {P : Program} {ops : Array Oper} {o : Oper} {fr : List PV} {y : PV} {H H' : List Blk} (hd : dmore P H (evalO fr) o.op = some (y, H')) : OT P ops o fr H y H' := by
  intro fr' hc w ρ a K Q hs hK
  rw [← dmore_congr (f := evalO fr') (evalO_congr hc)] at hd
  obtain ⟨w', ρ', nx, u, hrun, hnx, hv, hH, hstep⟩ := more_snd hs.hp (fun x => evalO_VR hs.fr x) hd
  unfold Oper.wp
  rw [hrun]
  rcases hnx with rfl | ⟨rfl, rfl⟩
  · exact hK u w' ρ' hv hH hstep
  · exact hK _ w' ρ' hv hH hstep

theorem OT.eff0 {P : Program} {ops : Array Oper} {o : Oper} {fr : List PV} {y : PV} {H H' : List Blk} (cx : Cx P) (hd : deff0 P cx.E H (evalO fr) o.op = some (y, H')) : OT P ops o fr H y H' :=
  .eff cx (by unfold deff; rw [hd])

theorem dmore_any {P : Program} {f : Operand → PV} {o : Op} (ho : anyOp o = true) {y : PV} {H0 : List Blk} (h : dmore P [] f o = some (y, H0)) (H : List Blk) : dmore P H f o = some (y, H) := by
  have key : ∀ {r s : Option PV}, (∀ v, r = some v → s = some v) → r.map (fun v => (v, ([] : List Blk))) = some (y, H0) → s.map (fun v => (v, H)) = some (y, H) := by
    intro r s hrs h
    cases r with
    | none => cases h
    | some v => simp at h; obtain ⟨rfl, rfl⟩ := h; rw [hrs v rfl]; rfl
  cases o
  case convert s d x =>
    simp only [dmore] at h ⊢
    refine key (fun v hv => ?_) h
    unfold dconvP at hv ⊢
    split at hv <;> first | exact hv | (simp at hv; done) | cases hv
  case call c =>
    obtain ⟨callee, args, ats⟩ := c
    cases callee
    · simp only [dmore] at h ⊢
      split at h
      · split at h
        · split at h
          · rename_i hne; simp at h; obtain ⟨rfl, rfl⟩ := h; rw [if_pos hne]
          · cases h
        · cases h
      · cases h
    · cases h
    · rename_i b
      cases b
      case unsafeSliceData =>
        simp only [dmore] at h ⊢
        split at h
        · exact key (fun v hv => hv) h
        · cases h
      case unsafeString => cases ho
      all_goals cases h
  case next => cases ho
  all_goals cases h

/-- What an operation gives whatever our blocks hold. -/
def dany (P : Program) (E : TypeId → Bool) (f : Operand → PV) (o : Op) : Option PV :=
  if anyOp o then match deff0 P E [] f o with
    | some (v, _) => some v
    | none => match dmore P [] f o with
      | some (v, _) => some v
      | none => none
  else none

theorem OT.any {P : Program} {ops : Array Oper} {o : Oper} {fr : List PV} {y : PV} (cx : Cx P) (hd : dany P cx.E (evalO fr) o.op = some y) (H : List Blk) : OT P ops o fr H y H := by
  unfold dany at hd
  split at hd
  · rename_i ho
    split at hd
    · rename_i v _ h; simp at hd; subst hd; exact .eff0 cx (deff0_any ho h H)
    · split at hd
      · rename_i v _ h; simp at hd; subst hd; exact .more (dmore_any ho h H)
      · cases hd
  · cases hd

theorem OT.pure {P : Program} {ops : Array Oper} {o : Oper} {fr : List PV} {y : PV} {f : FuncId} {args : List PV} (ht : dtarget P fr o.op = some (f, args)) (hc : PC P f args y) (ha : ∀ x ∈ args, Pu x) (H : List Blk) : OT P ops o fr H y H :=
  .call ht (hc.call ha H)

/-! ### values that lead to no block of ours -/

def isPu : Nat → PV → Bool
  | 0, _ => false
  | n + 1, x => match x with
    | .undef | .int _ _ | .bool _ | .str _ | .nilp | .nils | .nilm | .nilf | .nili => true
    | .agg cs | .tuple cs | .rptr cs => cs.all (isPu n)
    | .func _ cs => cs.all (isPu n)
    | .iface _ x => isPu n x
    | .lst xs _ => xs.all fun r => r.all (isPu n)
    | _ => false

theorem isPu_snd : ∀ (n : Nat) (x : PV), isPu n x = true → Pu x
  | 0, _, h => by cases h
  | n + 1, x, h => by
    cases x <;> simp only [isPu, List.all_eq_true] at h <;> first | (cases h; done) | skip
    · exact .undef
    · exact .int _ _
    · exact .bool _
    · exact .str _
    · exact .nilp
    · exact .rptr fun c hc => isPu_snd n c (h c hc)
    · exact .nils
    · exact .lst fun r hr c hc => isPu_snd n c (h r hr c hc)
    · exact .nilm
    · exact .nilf
    · exact .func _ fun c hc => isPu_snd n c (h c hc)
    · exact .nili
    · exact .iface _ (isPu_snd n _ h)
    · exact .agg fun c hc => isPu_snd n c (h c hc)
    · exact .tuple fun c hc => isPu_snd n c (h c hc)

def omapL (f : PV → Option PV) : List PV → Option (List PV)
  | [] => some []
  | x :: xs => match f x, omapL f xs with
    | some y, some ys => some (y :: ys)
    | _, _ => none

theorem omapL_spec {f : PV → Option PV} : ∀ {xs ys : List PV}, omapL f xs = some ys → ys.length = xs.length ∧ (∀ t, t < xs.length → f (xs.getD t .undef) = some (ys.getD t .undef)) ∧ ∀ y ∈ ys, ∃ x, f x = some y
  | [], ys, h => by simp [omapL] at h; subst h; exact ⟨rfl, fun t ht => by simp at ht, fun y hy => by simp at hy⟩
  | x :: xs, ys, h => by
    simp only [omapL] at h
    split at h
    · rename_i y ys' h1 h2
      simp at h; subst h
      obtain ⟨h3, h4, h5⟩ := omapL_spec h2
      refine ⟨by simp [h3], fun t ht => ?_, fun z hz => ?_⟩
      · cases t with
        | zero => simpa using h1
        | succ t => simpa using h4 t (by simpa using ht)
      · rcases List.mem_cons.1 hz with rfl | hz
        · exact ⟨x, h1⟩
        · exact h5 z hz
    · cases h

/-- What x is once our blocks are written no more. -/
def frz : Nat → List Blk → PV → Option PV
  | 0, _, _ => none
  | n + 1, H, x => match x with
    | .row r off len sz t => match H.getD r .dead with
      | .cells cs _ => if off + len * sz ≤ cs.length then (omapL (frz n H) ((cs.drop off).take (len * sz))).map fun ys => .lst (chunks sz len ys) t else none
      | _ => none
    | .agg cs => (omapL (frz n H) cs).map .agg
    | .tuple cs => (omapL (frz n H) cs).map .tuple
    | x => if isPu 100 x then some x else none

theorem frz_snd : ∀ (n : Nat) (H : List Blk) (x y : PV), frz n H x = some y → Frz H x y ∧ Pu y
  | 0, _, _, _, h => by cases h
  | n + 1, H, x, y, h => by
    have base : (if isPu 100 x then some x else none) = some y → Frz H x y ∧ Pu y := by
      intro h
      split at h
      · rename_i hp; simp at h; subst h; exact ⟨.pure (isPu_snd _ _ hp), isPu_snd _ _ hp⟩
      · cases h
    cases x <;> simp only [frz] at h <;> first | exact base h | skip
    · rename_i r off len sz t
      split at h
      · rename_i cs _ hr
        split at h
        · rename_i hfit
          cases ho : omapL (frz n H) ((cs.drop off).take (len * sz)) with
          | none => simp [ho] at h
          | some ys =>
            simp [ho] at h; subst h
            obtain ⟨h1, h2, h3⟩ := omapL_spec ho
            have hl : ((cs.drop off).take (len * sz)).length = len * sz := by simp; omega
            refine ⟨.row hr hfit (by rw [h1, hl]) fun t ht => ?_, .chunks fun y hy => ?_⟩
            · have := h2 t (by omega)
              have e : ((cs.drop off).take (len * sz)).getD t .undef = cs.getD (off + t) .undef := by simp [List.getD, ht]
              rw [e] at this
              exact (frz_snd n H _ _ this).1
            · obtain ⟨x, hx⟩ := h3 y hy
              exact (frz_snd n H _ _ hx).2
        · cases h
      · cases h
    · rename_i cs
      cases ho : omapL (frz n H) cs with
      | none => simp [ho] at h
      | some ys =>
        simp [ho] at h; subst h
        obtain ⟨h1, h2, h3⟩ := omapL_spec ho
        refine ⟨.agg h1 fun t ht => (frz_snd n H _ _ (h2 t ht)).1, .agg fun y hy => ?_⟩
        obtain ⟨x, hx⟩ := h3 y hy
        exact (frz_snd n H _ _ hx).2
    · rename_i cs
      cases ho : omapL (frz n H) cs with
      | none => simp [ho] at h
      | some ys =>
        simp [ho] at h; subst h
        obtain ⟨h1, h2, h3⟩ := omapL_spec ho
        refine ⟨.tuple h1 fun t ht => (frz_snd n H _ _ (h2 t ht)).1, .tuple fun y hy => ?_⟩
        obtain ⟨x, hx⟩ := h3 y hy
        exact (frz_snd n H _ _ hx).2

/-! ### calls that only read our blocks -/

/-- Leads to no block at all. -/
def Sc (x : PV) : Prop := ∀ w ρ u, VR w ρ x u → ∀ w', VR w' ⟨fun _ => False, fun _ => none⟩ x u

def isSc : Nat → PV → Bool
  | 0, _ => false
  | n + 1, x => match x with
    | .undef | .int _ _ | .bool _ | .str _ | .nilp | .nils | .nilm | .nilf | .nili => true
    | .agg cs | .tuple cs => cs.all (isSc n)
    | .func _ cs => cs.all (isSc n)
    | .iface _ x => isSc n x
    | _ => false

theorem isSc_snd : ∀ (n : Nat) (x : PV), isSc n x = true → Sc x
  | 0, _, h => by cases h
  | n + 1, x, h => by
    intro w ρ u hv w'
    cases hv <;> simp only [isSc, List.all_eq_true] at h <;> first | (cases h; done) | skip
    · exact .undef _
    · exact .int _ _
    · exact .bool _
    · exact .str _
    · exact .nilp
    · exact .nils
    · exact .nilm
    · exact .nilf
    · rename_i hl hv; exact .func _ hl fun t ht => isSc_snd n _ (h _ (getD_mem _ _ _ ht)) _ _ _ (hv t ht) _
    · exact .nili
    · rename_i hv; exact .iface _ (isSc_snd n _ h _ _ _ hv _)
    · rename_i hl hv; exact .agg hl fun t ht => isSc_snd n _ (h _ (getD_mem _ _ _ ht)) _ _ _ (hv t ht) _
    · rename_i hl hv; exact .tuple hl fun t ht => isSc_snd n _ (h _ (getD_mem _ _ _ ht)) _ _ _ (hv t ht) _

/-- 'x' leads to our blocks only, which are written no more: it is y. -/
def FrzS (H : List Blk) (x y : PV) : Prop := ∀ w S β u, HR w ⟨S, β⟩ H → VR w ⟨S, β⟩ x u → VR w ⟨Own ⟨S, β⟩ H, fun _ => none⟩ y u

def frzS : Nat → List Blk → PV → Option PV
  | 0, _, _ => none
  | n + 1, H, x => match x with
    | .row r off len sz t => match H.getD r .dead with
      | .cells cs _ => if off + len * sz ≤ cs.length then (omapL (frzS n H) ((cs.drop off).take (len * sz))).map fun ys => .lst (chunks sz len ys) t else none
      | _ => none
    | .agg cs => (omapL (frzS n H) cs).map .agg
    | .tuple cs => (omapL (frzS n H) cs).map .tuple
    | x => if isSc 100 x then some x else none

theorem FrzS.sc {H : List Blk} {x : PV} (h : Sc x) : FrzS H x x := fun w S β u _ hv =>
  VR.mono (show Le w ⟨fun _ => False, fun _ => none⟩ w ⟨Own ⟨S, β⟩ H, fun _ => none⟩ from ⟨fun _ h => h.elim, fun _ _ => rfl, fun _ _ h => (by cases h), fun _ c e f h => ⟨c, e, f, h, rfl⟩⟩) (h w _ u hv w)

theorem FrzS.row {H : List Blk} {r off n sz : Nat} {tight : Bool} {cs ys : List PV} {tg : Option (TypeId × Bool)} (hr : H.getD r .dead = .cells cs tg) (hfit : off + n * sz ≤ cs.length) (hl : ys.length = n * sz)
    (hy : ∀ t, t < n * sz → FrzS H (cs.getD (off + t) .undef) (ys.getD t .undef)) : FrzS H (.row r off n sz tight) (.lst (chunks sz n ys) tight) := by
  intro w S β u hH hv
  cases hv with
  | @row _ b sh _ _ _ _ cap hβ hcap ht hroom =>
    obtain ⟨hrl, c, e, hcb, hsc, hS, hvs, _⟩ := row_of hH hr hβ
    have hown : Own ⟨S, β⟩ H b := ⟨r, sh, hrl, by rw [hr]; simp, hβ⟩
    have := VR.lst (w := w) (ρ := ⟨Own ⟨S, β⟩ H, fun _ => none⟩) (xs := chunks sz n ys) (tight := tight) (a := ⟨b, sh + off, none⟩) (cap := cap) (sz := sz) (fun t => c.getD (sh + off + t) Go.undef)
      (fun _ => hown) (by rw [length_chunks]; exact hcap) (fun h => by rw [length_chunks]; exact ht h) (fun i hi => by
        rw [length_chunks] at hi
        rw [getD_chunks _ _ _ _ hi]
        have : (i + 1) * sz ≤ n * sz := Nat.mul_le_mul_right _ hi
        rw [Nat.add_mul, Nat.one_mul] at this
        simp; omega) (fun t htt => by
        rw [length_chunks] at htt
        rw [Addr.add_lit]
        have : sh + off + t < c.size := by omega
        simp [World.cell?, hcb, this]) (fun i hi j hj => by
        rw [length_chunks] at hi
        have hle : (i + 1) * sz ≤ n * sz := Nat.mul_le_mul_right _ hi
        rw [Nat.add_mul, Nat.one_mul] at hle
        rw [getD_chunks _ _ _ _ hi]
        have e1 : ((ys.drop (i * sz)).take sz).getD j .undef = ys.getD (i * sz + j) .undef := by
          simp [List.getD, List.getElem?_drop, hj]
        rw [e1]
        have h1 := hvs (off + (i * sz + j)) (by omega)
        have h2 := hy (i * sz + j) (by omega) w S β _ hH h1
        have e3 : sh + (off + (i * sz + j)) = sh + off + (i * sz + j) := by omega
        rw [e3] at h2
        exact h2)
    rw [length_chunks] at this
    exact this

theorem FrzS.agg {H : List Blk} {xs ys : List PV} (hl : ys.length = xs.length) (h : ∀ t, t < xs.length → FrzS H (xs.getD t .undef) (ys.getD t .undef)) : FrzS H (.agg xs) (.agg ys) := by
  intro w S β u hH hv
  cases hv with
  | agg hl' hv => exact .agg (by omega) fun t ht => h t (by omega) w S β _ hH (hv t (by omega))

theorem FrzS.tuple {H : List Blk} {xs ys : List PV} (hl : ys.length = xs.length) (h : ∀ t, t < xs.length → FrzS H (xs.getD t .undef) (ys.getD t .undef)) : FrzS H (.tuple xs) (.tuple ys) := by
  intro w S β u hH hv
  cases hv with
  | tuple hl' hv => exact .tuple (by omega) fun t ht => h t (by omega) w S β _ hH (hv t (by omega))

theorem frzS_snd : ∀ (n : Nat) (H : List Blk) (x y : PV), frzS n H x = some y → FrzS H x y
  | 0, _, _, _, h => by cases h
  | n + 1, H, x, y, h => by
    have base : (if isSc 100 x then some x else none) = some y → FrzS H x y := by
      intro h
      split at h
      · rename_i hp; simp at h; subst h; exact .sc (isSc_snd _ _ hp)
      · cases h
    cases x <;> simp only [frzS] at h <;> first | exact base h | skip
    · rename_i r off len sz t
      split at h
      · rename_i cs _ hr
        split at h
        · rename_i hfit
          cases ho : omapL (frzS n H) ((cs.drop off).take (len * sz)) with
          | none => simp [ho] at h
          | some ys =>
            simp [ho] at h; subst h
            obtain ⟨h1, h2, _⟩ := omapL_spec ho
            have hl : ((cs.drop off).take (len * sz)).length = len * sz := by simp; omega
            refine .row hr hfit (by rw [h1, hl]) fun t ht => ?_
            have := h2 t (by omega)
            have e : ((cs.drop off).take (len * sz)).getD t .undef = cs.getD (off + t) .undef := by simp [List.getD, ht]
            rw [e] at this
            exact frzS_snd n H _ _ this
        · cases h
      · cases h
    · rename_i cs
      cases ho : omapL (frzS n H) cs with
      | none => simp [ho] at h
      | some ys =>
        simp [ho] at h; subst h
        obtain ⟨h1, h2, _⟩ := omapL_spec ho
        exact .agg h1 fun t ht => frzS_snd n H _ _ (h2 t ht)
    · rename_i cs
      cases ho : omapL (frzS n H) cs with
      | none => simp [ho] at h
      | some ys =>
        simp [ho] at h; subst h
        obtain ⟨h1, h2, _⟩ := omapL_spec ho
        exact .tuple h1 fun t ht => frzS_snd n H _ _ (h2 t ht)

/-- A call that is told by values, where our blocks stand for the arguments, and what it answers leads to its own blocks only. -/
theorem WC.reads {P : Program} {f : FuncId} {args as : List PV} {H : List Blk} {y : PV} (hl : as.length = args.length) (ha : ∀ t, t < args.length → Frz H (args.getD t .undef) (as.getD t .undef))
    (h : WC P f as [] fun v H' => FrzS H' v y) : WC P f args H fun v H' => v = y ∧ H' = H := by
  rintro w ⟨S, β⟩ vals hH hA
  have hA0 : AV w ⟨fun b => S b ∨ Own ⟨S, β⟩ H b, fun _ => none⟩ as vals := ⟨by rw [hA.1, hl], fun t ht => ha t (by omega) w S β _ hH (hA.2 t (by omega))⟩
  have hS0 : ∀ b, (S b ∨ Own ⟨S, β⟩ H b) → b < w.heap.size := by
    rintro b (hb | ⟨r, sh, _, _, hβ⟩)
    · exact hH.S b hb
    · exact hH.lt _ _ _ hβ
  refine (h w ⟨fun b => S b ∨ Own ⟨S, β⟩ H b, fun _ => none⟩ vals (.none_of hS0) hA0).mono ?_
  rintro e w' ⟨u, v, ⟨S', β'⟩, H', rfl, hF, hv, hH', hst⟩
  have hv' := hF w' S' β' u hH' hv
  have hOwn0 : ∀ b, ¬ Own ⟨fun b => S b ∨ Own ⟨S, β⟩ H b, fun _ => none⟩ [] b := by rintro b ⟨r, sh, hr, _⟩; simp at hr
  have hnew : ∀ b, Own ⟨S', β'⟩ H' b → w.heap.size ≤ b := fun b hb => (hst.own b hb).resolve_left (hOwn0 b)
  have hle : Le w ⟨S, β⟩ w' ⟨fun b => S b ∨ Own ⟨S', β'⟩ H' b, β⟩ := ⟨fun b hb => .inl hb, fun b hb => hst.le.still b (.inl hb), fun _ _ h => h, hst.le.rows⟩
  refine ⟨u, y, ⟨fun b => S b ∨ Own ⟨S', β'⟩ H' b, β⟩, H, rfl, ⟨rfl, rfl⟩, ?_, ⟨fun r hr hd => ?_, hH.one, hH.none, fun b hb => ?_, fun r b sh h => Nat.lt_of_lt_of_le (hH.lt r b sh h) hst.size⟩,
    ⟨hle, hst.size, fun b hb _ => hst.kept b hb (hOwn0 b), fun b hb => .inl hb, fun b hb => ?_, Nat.le_refl _, hst.os, hst.tape, hst.output⟩⟩
  · exact VR.mono (show Le w' ⟨Own ⟨S', β'⟩ H', fun _ => none⟩ w' ⟨fun b => S b ∨ Own ⟨S', β'⟩ H' b, β⟩ from ⟨fun _ h => .inr h, fun _ _ => rfl, fun _ _ h => (by cases h), fun _ c e f h => ⟨c, e, f, h, rfl⟩⟩) hv'
  · obtain ⟨b, sh, h1, h2⟩ := hH.blk r hr hd
    have hb := hH.lt _ _ _ h1
    exact ⟨b, sh, h1, h2.mono hle (hst.kept b hb (hOwn0 b)) (fun hh => hh.elim (h2.noS hd) (fun e => by have := hnew b e; omega))⟩
  · rcases hb with hb | ⟨r, sh, hr, hd, hβ⟩
    · exact Nat.lt_of_lt_of_le (hH.S b hb) hst.size
    · exact hH'.lt _ _ _ hβ
  · rcases hb with hb | hb
    · exact .inl hb
    · exact .inr (.inr (hnew b hb))

/-! ### loops, round by round -/

/-- The triple of a loop that is at the beginning of a round. -/
def WR (P : Program) (c : Code) (st : St) (Q : Ex → St → Prop) : Prop :=
  ∀ w ρ a, SR w ρ st a → ∀ (b : Frame) (k : List Item) (cs : List Frame), ∃ e a' w', Post Q w ρ st.H e a' w' ∧ Arrives P (lone (b.at a (.code c :: .inLoop c :: k)) cs w) b k cs e a' w'

theorem WR.loop {P : Program} {c : Code} {st : St} {Q : Ex → St → Prop} (h : WR P c st Q) : W P (.loop c) st Q := by
  intro w ρ a hs b k cs
  obtain ⟨e, a', w', hq, harr⟩ := h w ρ a hs b k cs
  exact ⟨e, a', w', hq, .of_steps (.one step_loop) harr⟩

theorem WR.round {P : Program} {c : Code} {st : St} {Q R : Ex → St → Prop} (h : W P c st R) (hn : ∀ s, R .normal s → WR P c s Q) (he : ∀ e s, e ≠ .normal → R e s → Q e s) : WR P c st Q := by
  intro w ρ a hs b k cs
  obtain ⟨e, a2, w2, hq, harr⟩ := h w ρ a hs b (.inLoop c :: k) cs
  obtain ⟨x, s2, ρ2, rfl, hQ, hs2, hst2⟩ := hq
  cases x with
  | normal =>
    obtain ⟨e3, a3, w3, hq3, harr3⟩ := hn s2 hQ w2 ρ2 a2 hs2 b k cs
    exact ⟨e3, a3, w3, Post.step hst2 (fun _ _ h => h) hq3, .of_steps (Steps.trans harr (.one step_inLoop)) harr3⟩
  | exit id => exact ⟨_, a2, w2, ⟨.exit id, s2, ρ2, rfl, he _ _ (by simp) hQ, hs2, hst2⟩, .pass (x := .inLoop c) rfl (fun _ _ => .inl (by simp [Ex.of])) harr⟩
  | ret => exact ⟨_, a2, w2, ⟨.ret, s2, ρ2, rfl, he _ _ (by simp) hQ, hs2, hst2⟩, .pass (x := .inLoop c) rfl (fun _ _ => .inl (by simp [Ex.of])) harr⟩

end Go.MW
