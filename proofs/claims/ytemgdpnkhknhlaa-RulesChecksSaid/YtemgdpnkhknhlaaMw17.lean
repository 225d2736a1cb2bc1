/-
  OUR OWN: the operations' steps look at their operands only.
-/
import Derived.Test.YtemgdpnkhknhlaaMw16
namespace Go.MW

section
variable {P : Program} {E : TypeId → Bool} {H : List Blk}

theorem lmap_congr {f g : Operand → PV} {xs : Array Operand} (h : ∀ x ∈ xs, f x = g x) : xs.toList.map f = xs.toList.map g :=
  List.map_congr_left fun x hx => h x (by simpa using hx)

theorem pmap_congr {f g : Operand → PV} {ps : Array (Nat × Operand)} (h : ∀ x ∈ (ps.toList.map (·.2)).toArray, f x = g x) : (ps.toList.map fun (i, x) => (i, f x)) = ps.toList.map fun (i, x) => (i, g x) :=
  List.map_congr_left fun p hp => by
    obtain ⟨i, x⟩ := p
    have : f x = g x := h x (by simp only [List.mem_toArray]; exact List.mem_map.2 ⟨(i, x), hp, rfl⟩)
    simp only [this]

theorem omap_congr {f g : Operand → PV} {o : Option Operand} (h : ∀ x, o = some x → f x = g x) : o.map f = o.map g := by
  cases o with
  | none => rfl
  | some x => simp [h x rfl]

theorem dread_congr {f g : Operand → PV} {o : Op} (h : ∀ x ∈ o.operands, f x = g x) : dread P E H f o = dread P E H g o := by
  cases o
  case build t ps => show dbuild P t _ = dbuild P t _; rw [pmap_congr h]
  case call c =>
    obtain ⟨callee, args, ats⟩ := c
    cases callee
    · rfl
    · rfl
    · show dbuiltin P H _ ats _ = dbuiltin P H _ ats _
      rw [lmap_congr fun x hx => h x (by simp [Op.operands, Call.operands, hx])]
  all_goals simp only [Op.operands] at h
  all_goals simp only [dread]
  case makeFunc fn first caps => rw [lmap_congr (xs := caps) fun x hx => h x (by simp [hx])]
  case slice t x lo hi mx =>
    rw [omap_congr (o := lo) fun y hy => h y (by simp [hy]), omap_congr (o := hi) fun y hy => h y (by simp [hy]), omap_congr (o := mx) fun y hy => h y (by simp [hy]), h x (by simp)]
  all_goals (first | rfl | (simp_all; done))

theorem dnew_congr {f g : Operand → PV} {o : Op} (h : ∀ x ∈ o.operands, f x = g x) : dnew P H f o = dnew P H g o := by
  cases o
  case buildSlice t n ps => simp only [dnew, pmap_congr h]
  all_goals simp only [Op.operands] at h
  all_goals simp only [dnew]
  case makeMap t r => cases r <;> simp_all
  all_goals (first | rfl | (simp_all; done))

theorem deff0_congr {f g : Operand → PV} {o : Op} (h : ∀ x ∈ o.operands, f x = g x) : deff0 P E H f o = deff0 P E H g o := by
  have hr := dread_congr (P := P) (E := E) (H := H) h
  have hn := dnew_congr (P := P) (H := H) h
  cases o
  case call c =>
    obtain ⟨callee, args, ats⟩ := c
    cases callee
    · rfl
    · rfl
    · rename_i b
      have ha : ∀ x ∈ args.toList, f x = g x := fun x hx => h x (by simp [Op.operands, Call.operands]; simpa using hx)
      cases b
      case append =>
        simp only [deff0]
        split
        · rename_i e1 e2; rw [ha _ (by simp [e1]), ha _ (by simp [e1])]
        · rfl
      case copy =>
        simp only [deff0]
        split
        · rename_i e1 e2; rw [ha _ (by simp [e1]), ha _ (by simp [e1])]
        · rfl
      case clear =>
        simp only [deff0]
        split
        · rename_i e1 e2; rw [ha _ (by simp [e1])]
        · rfl
      all_goals (simp only [deff0]; rw [hr])
  all_goals first
    | (simp only [deff0]; rw [hr]; done)
    | (simp only [deff0]; rw [hn]; done)
    | (simp only [Op.operands] at h; simp only [deff0]; simp_all; done)

theorem dmore_congr {f g : Operand → PV} {o : Op} (h : ∀ x ∈ o.operands, f x = g x) : dmore P H f o = dmore P H g o := by
  cases o
  case convert s d x => simp only [Op.operands] at h; simp only [dmore]; rw [h x (by simp)]
  case next it b => simp only [Op.operands] at h; simp only [dmore]; rw [h it (by simp)]
  case call c =>
    obtain ⟨callee, args, ats⟩ := c
    have ha : ∀ x ∈ args.toList, f x = g x := fun x hx => h x (by simp [Op.operands, Call.operands]; exact .inr (by simpa using hx))
    cases callee
    · rename_i x
      have hx : f x = g x := h x (by simp [Op.operands, Call.operands])
      simp only [dmore, hx]
      split
      · rename_i e1 e2; rw [ha _ (by rw [e2]; exact List.mem_singleton.2 rfl)]
      · rfl
    · rfl
    · rename_i b
      cases b
      case unsafeSliceData =>
        simp only [dmore]
        split
        · rename_i e1; rw [ha _ (by simp [e1])]
        · rfl
      case unsafeString =>
        simp only [dmore]
        split
        · rename_i e1 e2; rw [ha _ (by simp [e1]), ha _ (by simp [e1])]
        · rfl
      all_goals rfl
  all_goals rfl

theorem deff_congr {f g : Operand → PV} {o : Op} (h : ∀ x ∈ o.operands, f x = g x) : deff P E H f o = deff P E H g o := by
  unfold deff
  rw [deff0_congr h, dmore_congr h]
end

/-- A frame is looked at in the operands' slots only. -/
theorem evalO_congr {ops : Array Oper} {o : Oper} {fr fr' : List PV} (h : ∀ t ∈ o.looksAt ops, fr'.getD t .undef = fr.getD t .undef) : ∀ x ∈ o.op.operands, evalO fr' x = evalO fr x := by
  intro x hx
  cases x with
  | tmp t => exact h t (List.mem_append_left _ (List.mem_filterMap.2 ⟨.tmp t, by simpa using hx, rfl⟩))
  | _ => rfl

theorem dwant_congr {ops : Array Oper} {o : Oper} {fr fr' : List PV} (h : ∀ t ∈ o.looksAt ops, fr'.getD t .undef = fr.getD t .undef) : dwant ops fr' o = dwant ops fr o := by
  unfold dwant
  split
  · rfl
  · rename_i j b hg
    split
    · rename_i d hd
      rw [h d (List.mem_append_right _ (by rw [hg]; simp [hd]))]
    · rfl

theorem dtarget_congr {P : Program} {fr fr' : List PV} {o : Op} (h : ∀ x ∈ o.operands, evalO fr' x = evalO fr x) : dtarget P fr' o = dtarget P fr o := by
  cases o
  case call c =>
    obtain ⟨callee, args, ats⟩ := c
    cases callee
    · rename_i x
      have hx : evalO fr' x = evalO fr x := h x (by simp [Op.operands, Call.operands])
      have ha : args.toList.map (evalO fr') = args.toList.map (evalO fr) := lmap_congr fun y hy => h y (by simp [Op.operands, Call.operands, hy])
      simp only [dtarget, hx, ha]
    · rfl
    · rfl
  all_goals rfl

end Go.MW
