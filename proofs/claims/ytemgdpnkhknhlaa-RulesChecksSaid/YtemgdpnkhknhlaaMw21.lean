/-
  OUR OWN: closed runs. 'denF' runs a function on values; what it answers, the function answers.
-/
import Derived.Test.YtemgdpnkhknhlaaMw20
namespace Go.MW

abbrev Orc := FuncId → List PV → List Blk → Option (PV × List Blk)

def OrcS (P : Program) (call : Orc) : Prop := ∀ f args H v H', call f args H = some (v, H') → WC P f args H fun u h => u = v ∧ h = H'

section
variable (P : Program) (E : TypeId → Bool) (call : Orc)

def denOps (ops : Array Oper) : List Oper → St → Option St
  | [], s => some s
  | o :: l, s => match dwant ops s.fr o with
    | some false => denOps ops l ⟨putF s.fr o.dst (.tuple []), s.H⟩
    | some true => match deff P E s.H (evalO s.fr) o.op with
      | some (v, H') => denOps ops l ⟨putF s.fr o.dst v, H'⟩
      | none => match dtarget P s.fr o.op with
        | some (f, args) => match call f args s.H with
          | some (v, H') => denOps ops l ⟨putF s.fr o.dst v, H'⟩
          | none => none
        | none => none
    | none => none

def rdOp : Op → Bool
  | .entry _ | .slice _ _ _ _ _ | .lookup _ _ _ _ => true
  | o => anyOp o

/-- One operation of a region that draws. -/
def den1 (s : St) (o : Oper) : Option (PV × List Blk × Kd) :=
  match dany P E (evalO s.fr) o.op with
  | some v => some (v, s.H, .any)
  | none => match deff P E s.H (evalO s.fr) o.op with
    | some (v, H') => if rdOp o.op then some (v, s.H, .rd) else some (v, H', .st)
    | none => match dtarget P s.fr o.op with
      | some (f, args) => match (if args.all (isPu 100) then (match call f args [] with | some (v, H') => frz 100 H' v | none => none) else none) with
        | some y => some (y, s.H, .any)
        | none => match (match omapL (frz 100 s.H) args with
            | some as => match call f as [] with
              | some (v, H') => frzS 100 H' v
              | none => none
            | none => none) with
          | some y => some (y, s.H, .rd)
          | none => match call f args s.H with
            | some (v, H') => some (v, H', .st)
            | none => none
      | none => none

def denDraw (ops : Array Oper) : List Oper → St → Option (St × List Kd)
  | [], s => some (s, [])
  | o :: l, s => match dwant ops s.fr o with
    | some false => match denDraw ops l ⟨putF s.fr o.dst (.tuple []), s.H⟩ with
      | some (s', ks) => some (s', .any :: ks)
      | none => none
    | some true => match den1 P E call s o with
      | some (v, H', k) => match denDraw ops l ⟨putF s.fr o.dst v, H'⟩ with
        | some (s', ks) => some (s', k :: ks)
        | none => none
      | none => none
    | none => none

def denC : Nat → Code → St → Option (Ex × St)
  | 0, _, _ => none
  | n + 1, c, s => match c with
    | .skip => some (.normal, s)
    | .region _ ops false => match denOps P E call ops ops.toList s with
      | some s' => some (.normal, s')
      | none => none
    | .region _ ops true => match denDraw P E call ops ops.toList s with
      | some (s', ks) => if drawOk ops ks then some (.normal, s') else none
      | none => none
    | .seq a b => match denC n a s with
      | some (.normal, s1) => denC n b s1
      | r => r
    | .cond c x y => match evalO s.fr c with
      | .bool b => denC n (if b then x else y) s
      | _ => none
    | .block id c => match denC n c s with
      | some (.exit j, s1) => if j = id then some (.normal, s1) else some (.exit j, s1)
      | r => r
    | .loop c => match denC n c s with
      | some (.normal, s1) => denC n (.loop c) s1
      | r => r
    | .exit id => some (.exit id, s)
    | .ret => some (.ret, s)
    | _ => none

end

def denF (P : Program) (E : TypeId → Bool) (base : Orc) : Nat → Orc
  | 0 => base
  | n + 1 => fun f args H => match base f args H with
    | some r => some r
    | none => match P.funcs[f]? with
      | some fn => match fn.body with
        | some c => match denC P E (denF P E base n) 1000000 c ⟨args ++ List.replicate (fn.ntmps - args.length) .undef, H⟩ with
          | some (.normal, s) => match resOf P fn s with
            | some v => some (v, s.H)
            | none => none
          | some (.ret, s) => match resOf P fn s with
            | some v => some (v, s.H)
            | none => none
          | _ => none
        | none => none
      | none => none

section
variable {P : Program} {call : Orc}

theorem denOps_snd (cx : Cx P) (hc : OrcS P call) {ops : Array Oper} : ∀ (l : List Oper) (s s' : St), denOps P cx.E call ops l s = some s' → WL P ops l s fun x t => x = .normal ∧ t = s'
  | [], s, s', h => by simp [denOps] at h; subst h; exact .nil ⟨rfl, rfl⟩
  | o :: l, s, s', h => by
    simp only [denOps] at h
    split at h
    · rename_i hw; exact .skip hw (denOps_snd cx hc l _ _ h)
    · rename_i hw
      split at h
      · rename_i hd; exact .eff cx hw hd (denOps_snd cx hc l _ _ h)
      · split at h
        · rename_i ht
          split at h
          · rename_i v H' hcl
            exact .call hw ht (hc _ _ _ _ _ hcl) fun u h1 ⟨e1, e2⟩ => by subst e1; subst e2; exact denOps_snd cx hc l _ _ h
          · cases h
        · cases h
    · cases h

theorem deff0_rd {E : TypeId → Bool} {f : Operand → PV} {o : Op} (ho : rdOp o = true) {y : PV} {H H' : List Blk} (h : deff0 P E H f o = some (y, H')) : H' = H := by
  have key : ∀ {r : Option PV}, r.map (fun v => (v, H)) = some (y, H') → H' = H := by
    intro r h
    cases r with
    | none => cases h
    | some v => simp at h; exact h.2.symm
  cases o
  case call c =>
    obtain ⟨callee, args, ats⟩ := c
    cases callee
    · cases h
    · cases h
    · rename_i b
      cases b
      case append => cases ho
      case copy => cases ho
      case clear => cases ho
      all_goals (simp only [deff0] at h; exact key h)
  case convert s d x =>
    simp only [deff0] at h
    split at h
    · simp at h; exact h.2.symm
    · exact key h
  all_goals first
    | (cases ho; done)
    | (simp only [deff0] at h; exact key h)
    | (simp [deff0, dread] at h; done)

theorem dmore_rd {f : Operand → PV} {o : Op} (ho : rdOp o = true) {y : PV} {H H' : List Blk} (h : dmore P H f o = some (y, H')) : H' = H := by
  have key : ∀ {r : Option PV}, r.map (fun v => (v, H)) = some (y, H') → H' = H := by
    intro r h
    cases r with
    | none => cases h
    | some v => simp at h; exact h.2.symm
  cases o
  case convert s d x => simp only [dmore] at h; exact key h
  case call c =>
    obtain ⟨callee, args, ats⟩ := c
    cases callee
    · simp only [dmore] at h
      split at h
      · split at h
        · split at h
          · simp at h; exact h.2.symm
          · cases h
        · cases h
      · cases h
    · cases h
    · rename_i b
      cases b
      case unsafeSliceData =>
        simp only [dmore] at h
        split at h
        · exact key h
        · cases h
      case unsafeString => cases ho
      all_goals cases h
  case next => cases ho
  all_goals cases h

theorem deff_rd {E : TypeId → Bool} {f : Operand → PV} {o : Op} (ho : rdOp o = true) {y : PV} {H H' : List Blk} (h : deff P E H f o = some (y, H')) : H' = H := by
  unfold deff at h
  split at h
  · rename_i r hr; simp at h; subst h; exact deff0_rd ho hr
  · exact dmore_rd ho h

theorem den1_snd (cx : Cx P) (hc : OrcS P call) {ops : Array Oper} {s : St} {o : Oper} {v : PV} {H' : List Blk} {k : Kd} (hw : dwant ops s.fr o = some true) (h : den1 P cx.E call s o = some (v, H', k)) :
    StepT P ops o k s ⟨putF s.fr o.dst v, H'⟩ := by
  refine .inr ⟨hw, v, rfl, ?_⟩
  unfold den1 at h
  split at h
  · rename_i v1 hd
    simp at h; obtain ⟨rfl, rfl, rfl⟩ := h
    exact ⟨rfl, fun H => .any cx hd H⟩
  · split at h
    · rename_i v1 H1 hd
      split at h
      · rename_i hr
        simp at h; obtain ⟨rfl, rfl, rfl⟩ := h
        obtain rfl := deff_rd hr hd
        exact ⟨rfl, .eff cx hd⟩
      · simp at h; obtain ⟨rfl, rfl, rfl⟩ := h
        exact .eff cx hd
    · split at h
      · rename_i f args ht
        split at h
        · rename_i y hy
          simp at h; obtain ⟨rfl, rfl, rfl⟩ := h
          split at hy
          · rename_i hall
            split at hy
            · rename_i v1 H1 hcl
              obtain ⟨h1, h2⟩ := frz_snd _ _ _ _ hy
              simp only [List.all_eq_true] at hall
              exact ⟨rfl, fun H => .pure ht ⟨h2, (hc _ _ _ _ _ hcl).mono fun u h ⟨e1, e2⟩ => by subst e1; subst e2; exact h1⟩ (fun x hx => isPu_snd _ _ (hall x hx)) H⟩
            · cases hy
          · cases hy
        · split at h
          · rename_i y hy
            simp at h; obtain ⟨rfl, rfl, rfl⟩ := h
            split at hy
            · rename_i as has
              split at hy
              · rename_i v1 H1 hcl
                obtain ⟨h1, h2, _⟩ := omapL_spec has
                exact ⟨rfl, .call ht (.reads h1 (fun t ht => (frz_snd _ _ _ _ (h2 t ht)).1) ((hc _ _ _ _ _ hcl).mono fun u h ⟨e1, e2⟩ => by subst e1; subst e2; exact frzS_snd _ _ _ _ hy))⟩
              · cases hy
            · cases hy
          · split at h
            · rename_i v1 H1 hcl
              simp at h; obtain ⟨rfl, rfl, rfl⟩ := h
              exact .call ht (hc _ _ _ _ _ hcl)
            · cases h
      · cases h

theorem denDraw_snd (cx : Cx P) (hc : OrcS P call) {ops : Array Oper} : ∀ (l : List Oper) (s s' : St) (ks : List Kd), denDraw P cx.E call ops l s = some (s', ks) → DR P ops l ks s s'
  | [], s, s', ks, h => by simp [denDraw] at h; obtain ⟨rfl, rfl⟩ := h; exact .nil _
  | o :: l, s, s', ks, h => by
    simp only [denDraw] at h
    split at h
    · rename_i hw
      split at h
      · rename_i s1 ks1 hd
        simp at h; obtain ⟨rfl, rfl⟩ := h
        exact .cons (.inl ⟨hw, rfl⟩) (denDraw_snd cx hc l _ _ _ hd)
      · cases h
    · rename_i hw
      split at h
      · rename_i v H' k h1
        split at h
        · rename_i s1 ks1 hd
          simp at h; obtain ⟨rfl, rfl⟩ := h
          exact .cons (den1_snd cx hc hw h1) (denDraw_snd cx hc l _ _ _ hd)
        · cases h
      · cases h
    · cases h

theorem denC_snd (cx : Cx P) (hc : OrcS P call) : ∀ (n : Nat) (c : Code) (s : St) (x : Ex) (s' : St), denC P cx.E call n c s = some (x, s') →
    W P c s (fun e t => e = x ∧ t = s') ∧ ∀ c', c = .loop c' → WR P c' s fun e t => e = x ∧ t = s'
  | 0, _, _, _, _, h => by cases h
  | n + 1, c, s, x, s', h => by
    have ih := denC_snd cx hc n
    cases c <;> simp only [denC] at h
    case skip => simp at h; obtain ⟨rfl, rfl⟩ := h; exact ⟨.skip ⟨rfl, rfl⟩, fun _ e => by cases e⟩
    case exit id => simp at h; obtain ⟨rfl, rfl⟩ := h; exact ⟨.exit ⟨rfl, rfl⟩, fun _ e => by cases e⟩
    case ret => simp at h; obtain ⟨rfl, rfl⟩ := h; exact ⟨.ret ⟨rfl, rfl⟩, fun _ e => by cases e⟩
    case region id ops draw =>
      refine ⟨?_, fun _ e => by cases e⟩
      cases draw
      · simp only at h
        split at h
        · rename_i s1 hd; simp at h; obtain ⟨rfl, rfl⟩ := h; exact .region (denOps_snd cx hc _ _ _ hd)
        · cases h
      · simp only at h
        split at h
        · rename_i s1 ks hd
          split at h
          · rename_i hok; simp at h; obtain ⟨rfl, rfl⟩ := h; exact .draw cx hok (denDraw_snd cx hc _ _ _ _ hd) ⟨rfl, rfl⟩
          · cases h
        · cases h
    case seq a b =>
      refine ⟨?_, fun _ e => by cases e⟩
      split at h
      · rename_i s1 h1
        refine .seq (ih _ _ _ _ h1).1 (fun t ⟨_, e⟩ => by subst e; exact (ih _ _ _ _ h).1) fun e t hne ⟨e1, _⟩ => absurd e1 hne
      · rename_i hne
        refine .seq (ih _ _ _ _ h).1 (fun t ⟨e1, e2⟩ => ?_) fun e t _ hh => hh
        subst e1; exact absurd h (hne _)
    case cond c y z =>
      refine ⟨?_, fun _ e => by cases e⟩
      split at h
      · rename_i b hb; exact .cond hb (ih _ _ _ _ h).1
      · cases h
    case block id c =>
      refine ⟨?_, fun _ e => by cases e⟩
      split at h
      · rename_i j s1 h1
        split at h
        · rename_i e; subst e; simp at h; obtain ⟨rfl, rfl⟩ := h
          exact .block (ih _ _ _ _ h1).1 (fun t ⟨e, _⟩ => by cases e) (fun t ⟨_, e⟩ => ⟨rfl, e⟩) (fun k t hk ⟨e, _⟩ => by cases e; exact absurd rfl hk) (fun t ⟨e, _⟩ => by cases e)
        · rename_i hne; simp at h; obtain ⟨rfl, rfl⟩ := h
          exact .block (ih _ _ _ _ h1).1 (fun t ⟨e, _⟩ => by cases e) (fun t ⟨e, _⟩ => by cases e; exact absurd rfl hne) (fun k t hk hh => hh) (fun t ⟨e, _⟩ => by cases e)
      · rename_i hne
        exact .block (ih _ _ _ _ h).1 (fun t hh => hh) (fun t ⟨e, e2⟩ => by subst e; exact absurd h (hne _ _)) (fun k t hk hh => hh) (fun t hh => hh)
    case loop c =>
      have : WR P c s fun e t => e = x ∧ t = s' := by
        split at h
        · rename_i s1 h1
          exact .round (ih _ _ _ _ h1).1 (fun t ⟨_, e⟩ => by subst e; exact (ih _ _ _ _ h).2 c rfl) fun e t hne ⟨e1, _⟩ => absurd e1 hne
        · rename_i hne
          exact .round (ih _ _ _ _ h).1 (fun t ⟨e1, e2⟩ => by subst e1; exact absurd h (hne _)) fun e t _ hh => hh
      exact ⟨this.loop, fun _ e => by cases e; exact this⟩
    all_goals cases h

theorem denF_snd (cx : Cx P) {base : Orc} (hb : OrcS P base) : ∀ n, OrcS P (denF P cx.E base n)
  | 0 => hb
  | n + 1 => by
    intro f args H v H' h
    simp only [denF] at h
    split at h
    · rename_i r hr; simp at h; subst h; exact hb _ _ _ _ _ hr
    · split at h
      · rename_i fn hf
        split at h
        · rename_i c hbd
          split at h
          · rename_i s hd
            split at h
            · rename_i v1 hv
              simp at h; obtain ⟨rfl, rfl⟩ := h
              exact WC.fn hf hbd ((denC_snd cx (denF_snd cx hb n) _ _ _ _ _ hd).1.mono fun x t ⟨e1, e2⟩ => by subst e1; subst e2; exact ⟨.inl rfl, _, hv, rfl, rfl⟩)
            · cases h
          · rename_i s hd
            split at h
            · rename_i v1 hv
              simp at h; obtain ⟨rfl, rfl⟩ := h
              exact WC.fn hf hbd ((denC_snd cx (denF_snd cx hb n) _ _ _ _ _ hd).1.mono fun x t ⟨e1, e2⟩ => by subst e1; subst e2; exact ⟨.inr rfl, _, hv, rfl, rfl⟩)
            · cases h
          · cases h
        · cases h
      · cases h

theorem OrcS.none : OrcS P fun _ _ _ => none := fun _ _ _ _ _ h => by cases h

end
end Go.MW
