/-
  OUR OWN: runs over values that are not known: a tree of questions; what every way of the tree tells, the code does.
-/
import Derived.Test.YtemgdpnkhknhlaaMw23
namespace Go.MW

/-- What a cell holds. -/
inductive CK where
  | int (k : IntKind)
  | bool
  | str
  | any

def mkC : List CK → (Nat → Int) → (Nat → Bool) → (Nat → ByteArray) → (Nat → PV) → Nat → List PV
  | [], _, _, _, _, _ => []
  | .int k :: r, a, b, c, d, n => .int k (a n) :: mkC r a b c d (n + 1)
  | .bool :: r, a, b, c, d, n => .bool (b n) :: mkC r a b c d (n + 1)
  | .str :: r, a, b, c, d, n => .str (c n) :: mkC r a b c d (n + 1)
  | .any :: r, a, b, c, d, n => d n :: mkC r a b c d (n + 1)

inductive Tr (α : Type) where
  | leaf (a : α)
  | fail
  | br (b : Bool) (t e : Tr α)
  | el (x : List PV) (ks : List CK) (k : (Nat → Int) → (Nat → Bool) → (Nat → ByteArray) → (Nat → PV) → Tr α)
  | need (p : Prop) (t : Tr α)

def Tr.sat {α : Type} (Q : α → Prop) : Tr α → Prop
  | .leaf a => Q a
  | .fail => False
  | .br b t e => (b = true → t.sat Q) ∧ (b = false → e.sat Q)
  | .el x ks k => ∃ a b c d, x = mkC ks a b c d 0 ∧ (k a b c d).sat Q
  | .need p t => p ∧ t.sat Q

def Tr.bind {α β : Type} (t : Tr α) (f : α → Tr β) : Tr β :=
  match t with
  | .leaf a => f a
  | .fail => .fail
  | .br b t e => .br b (t.bind f) (e.bind f)
  | .el x ks k => .el x ks fun a b c d => (k a b c d).bind f
  | .need p t => .need p (t.bind f)

theorem Tr.sat_bind {α β : Type} {Q : β → Prop} : ∀ (t : Tr α) {f : α → Tr β}, (t.bind f).sat Q → t.sat fun a => (f a).sat Q
  | .leaf _, _, h => h
  | .fail, _, h => h
  | .br _ t e, _, h => ⟨fun hb => Tr.sat_bind t (h.1 hb), fun hb => Tr.sat_bind e (h.2 hb)⟩
  | .el _ _ k, _, ⟨a, b, c, d, h1, h2⟩ => ⟨a, b, c, d, h1, Tr.sat_bind (k a b c d) h2⟩
  | .need _ t, _, h => ⟨h.1, Tr.sat_bind t h.2⟩

/-- The way that is gone. -/
theorem Tr.sat_one {α : Type} {Q : α → Prop} : ∀ (t : Tr α), t.sat Q → ∃ a, Q a
  | .leaf a, h => ⟨a, h⟩
  | .fail, h => h.elim
  | .br b t e, h => by
    cases b with
    | true => exact Tr.sat_one t (h.1 rfl)
    | false => exact Tr.sat_one e (h.2 rfl)
  | .el _ _ k, ⟨a, b, c, d, _, h⟩ => Tr.sat_one (k a b c d) h
  | .need _ t, h => Tr.sat_one t h.2

theorem Tr.sat_mono {α : Type} {Q R : α → Prop} (hq : ∀ a, Q a → R a) : ∀ (t : Tr α), t.sat Q → t.sat R
  | .leaf a, h => hq a h
  | .fail, h => h
  | .br _ t e, h => ⟨fun hb => Tr.sat_mono hq t (h.1 hb), fun hb => Tr.sat_mono hq e (h.2 hb)⟩
  | .el _ _ k, ⟨a, b, c, d, h1, h2⟩ => ⟨a, b, c, d, h1, Tr.sat_mono hq (k a b c d) h2⟩
  | .need _ t, h => ⟨h.1, Tr.sat_mono hq t h.2⟩

/-- A state with the truth values that are known. -/
structure SS where
  fr : List PV
  kn : List (Nat × Bool)
  H : List Blk

def SS.ok (s : SS) : Prop := ∀ d b, s.kn.lookup d = some b → s.fr.getD d .undef = .bool b
def SS.st (s : SS) : St := ⟨s.fr, s.H⟩

def unkn (d : Option Tmp) (kn : List (Nat × Bool)) : List (Nat × Bool) :=
  match d with
  | some d => kn.filter fun p => p.1 != d
  | none => kn

/-- A slot gets a value; 'k': it is known to be this truth value. -/
def SS.put (s : SS) (d : Option Tmp) (v : PV) (k : Option Bool) (H : List Blk) : SS :=
  ⟨putF s.fr d v, match d, k with
    | some d, some b => if d < s.fr.length then (d, b) :: unkn (some d) s.kn else unkn (some d) s.kn
    | d, _ => unkn d s.kn, H⟩

/-- A slot's truth value becomes known. -/
def SS.learn (s : SS) (d : Nat) (b : Bool) : SS := ⟨s.fr.set d (.bool b), (d, b) :: s.kn, s.H⟩

def kOf (kn : List (Nat × Bool)) : Operand → Option Bool
  | .tmp t => kn.lookup t
  | .const (.bool b) => some b
  | _ => none

theorem kOf_ok {s : SS} (h : s.ok) {x : Operand} {b : Bool} (hk : kOf s.kn x = some b) : evalO s.fr x = .bool b := by
  unfold kOf at hk
  split at hk
  · exact h _ _ hk
  · simp at hk; subst hk; rfl
  · cases hk

theorem lookup_filter {d e : Nat} : ∀ (kn : List (Nat × Bool)) {b : Bool}, (kn.filter fun p => p.1 != d).lookup e = some b → e ≠ d ∧ kn.lookup e = some b
  | [], _, h => by simp at h
  | (x, y) :: r, b, h => by
    simp only [List.filter_cons] at h
    by_cases hx : x = d
    · subst hx
      simp at h
      obtain ⟨h1, h2⟩ := lookup_filter r (by simpa using h)
      refine ⟨h1, ?_⟩
      simp only [List.lookup_cons]
      have : (e == x) = false := by simpa using h1
      rw [this]; exact h2
    · have hx' : (x != d) = true := by simpa using hx
      simp only [hx', if_true, List.lookup_cons] at h ⊢
      by_cases he : e = x
      · subst he; simp at h ⊢; exact ⟨hx, h⟩
      · have : (e == x) = false := by simpa using he
        rw [this] at h ⊢
        exact lookup_filter r h

theorem unkn_ok {s : SS} (h : s.ok) {dst : Option Tmp} {v : PV} {d : Nat} {b : Bool} (hk : (unkn dst s.kn).lookup d = some b) : (putF s.fr dst v).getD d .undef = .bool b := by
  cases dst with
  | none => exact h d b hk
  | some e =>
    obtain ⟨h1, h2⟩ := lookup_filter _ hk
    rw [getD_putF_ne (fun e1 => h1 (Option.some.inj e1).symm)]
    exact h d b h2

theorem SS.put_ok {s : SS} (h : s.ok) (dst : Option Tmp) (v : PV) (k : Option Bool) (H : List Blk) (hk : ∀ b, k = some b → v = .bool b) : (s.put dst v k H).ok := by
  intro d b hd
  unfold SS.put at hd ⊢
  dsimp only at hd ⊢
  split at hd
  · rename_i e b'
    have := hk b' rfl
    subst this
    split at hd
    · rename_i hl
      simp only [List.lookup_cons] at hd
      by_cases he : d = e
      · subst he
        simp at hd; subst hd
        exact getD_put_eq hl
      · have : (d == e) = false := by simpa using he
        rw [this] at hd
        exact unkn_ok h hd
    · exact unkn_ok h hd
  · exact unkn_ok h hd

theorem SS.learn_st {s : SS} {d : Nat} {b : Bool} (h : s.fr.getD d .undef = .bool b) : (s.learn d b).st = s.st := by
  have : s.fr.set d (.bool b) = s.fr := by
    apply List.ext_getElem (by simp)
    intro i h1 h2
    by_cases e : i = d
    · subst e
      have := h
      simp only [List.getD, List.getElem?_eq_getElem h2, Option.getD_some] at this
      simp [this]
    · rw [List.getElem_set_ne (Ne.symm e)]
  unfold SS.learn SS.st
  rw [this]

theorem SS.learn_ok {s : SS} (h : s.ok) {d : Nat} {b : Bool} (hd : s.fr.getD d .undef = .bool b) : (s.learn d b).ok := by
  have hfr : (s.learn d b).fr = s.fr := congrArg St.fr (SS.learn_st hd)
  intro e c he
  rw [hfr]
  simp only [SS.learn, List.lookup_cons] at he
  by_cases hed : e = d
  · subst hed; simp at he; subst he; exact hd
  · have : (e == d) = false := by simpa using hed
    rw [this] at he
    exact h e c he

/-! ### one operation -/

/-- A question to a slot. -/
def askS {α : Type} (s : SS) (d : Nat) (k : SS → Bool → Tr α) : Tr α :=
  match s.kn.lookup d with
  | some b => k s b
  | none => match s.fr.getD d .undef with
    | .bool c => .br c (k (s.learn d true) true) (k (s.learn d false) false)
    | _ => .fail

theorem askS_snd {α : Type} {s : SS} (h : s.ok) {d : Nat} {k : SS → Bool → Tr α} {Q : α → Prop} (hs : (askS s d k).sat Q) : ∃ s' b, s'.st = s.st ∧ s'.ok ∧ s.fr.getD d .undef = .bool b ∧ (k s' b).sat Q := by
  unfold askS at hs
  split at hs
  · rename_i b hb; exact ⟨s, b, rfl, h, h d b hb, hs⟩
  · split at hs
    · rename_i c hc
      cases c with
      | true => exact ⟨_, true, SS.learn_st hc, SS.learn_ok h hc, hc, hs.1 rfl⟩
      | false => exact ⟨_, false, SS.learn_st hc, SS.learn_ok h hc, hc, hs.2 rfl⟩
    · exact hs.elim

/-- A question to an operand. -/
def askO {α : Type} (s : SS) (x : Operand) (k : SS → Bool → Tr α) : Tr α :=
  match x with
  | .tmp t => askS s t k
  | .const (.bool b) => k s b
  | _ => .fail

theorem askO_snd {α : Type} {s : SS} (h : s.ok) {x : Operand} {k : SS → Bool → Tr α} {Q : α → Prop} (hs : (askO s x k).sat Q) : ∃ s' b, s'.st = s.st ∧ s'.ok ∧ evalO s.fr x = .bool b ∧ (k s' b).sat Q := by
  unfold askO at hs
  split at hs
  · exact askS_snd h hs
  · rename_i b; exact ⟨s, b, rfl, h, rfl, hs⟩
  · exact hs.elim

def ckOf (P : Program) (t : TypeId) : CK :=
  match P.underlying t with
  | some (.int k) => .int k
  | some .bool => .bool
  | some .string => .str
  | _ => .any

def cksOf (P : Program) : Nat → TypeId → List CK
  | 0, _ => []
  | n + 1, t => match P.underlying t with
    | some (.struct fs) => fs.toList.flatMap fun f => cksOf P n f.type
    | some (.array m e) => (List.replicate m (cksOf P n e)).flatten
    | _ => [ckOf P t]

/-- What calls answer, where it is to be shown at each call. -/
abbrev OrcQ := FuncId → List PV → Option PV

/-- What operations come to, where it is to be shown at each of them. -/
abbrev OrcE := Op → (Operand → PV) → List Blk → Option (PV × List Blk × Kd)

/-- What is told of the calls and operations of a piece of code: it is to be shown where it is met. -/
structure Hint where
  q : OrcQ := fun _ _ => none
  e : OrcE := fun _ _ _ => none

def dload (P : Program) (H : List Blk) (t : TypeId) (x : PV) : Option PV :=
  match aggT P t, szT P t, behind H x with
  | some b, some n, some cs => pick1 b n cs
  | _, _, _ => none

/-- What is to be shown at a call. -/
def CallQ (P : Program) (f : FuncId) (args : List PV) (y : PV) : Prop := PC P f args y ∧ ∀ x ∈ args, Pu x

/-- What is to be shown. -/
def opQ (P : Program) (E : TypeId → Bool) (H : List Blk) (f : Operand → PV) (o : Op) (y : PV) (H' : List Blk) (k : Kd) : Prop :=
  match o with
  | .lookup t m x ok => k = .rd ∧ H' = H ∧ dlookup P E H t (f m) (f x) ok = some y
  | .load t a => k = .rd ∧ H' = H ∧ dload P H t (f a) = some y
  | .slice t x lo hi mx => k = .rd ∧ H' = H ∧ dslice P H t (f x) (lo.map f) (hi.map f) (mx.map f) = some y
  | .indexAddr t x i => k = .any ∧ H' = H ∧ dindexAddr P t (f x) (f i) = some y
  | .store t a v => k = .st ∧ y = .undef ∧ dstore P H t (f a) (f v) = some H'
  | .mapUpdate t m x v => k = .st ∧ y = .undef ∧ dmapSet P E H t (f m) (f x) (f v) = some H'
  | .call { callee := .builtin .append, args, argTypes } => match args.toList, argTypes.toList with
    | [x, z], [sT, xT] => k = .st ∧ dappend P H sT xT (f x) (f z) = some (y, H')
    | _, _ => False
  | .call { callee := .builtin .copy, args, argTypes } => match args.toList, argTypes.toList with
    | [x, z], [dT, _] => k = .st ∧ dcopy P H dT (f x) (f z) = some (y, H')
    | _, _ => False
  | o => (k = .st ∧ deff P E H f o = some (y, H')) ∨ (k = .any ∧ H' = H ∧ dany P E f o = some y)

section
variable (P : Program) (E : TypeId → Bool) (call : Orc) (oq : Hint)

/-- One operation: its value, our blocks, the kind; what is known of the value. -/
def opS0 (s : SS) (o : Oper) : Tr (SS × Kd) :=
  match o.op with
  | .move x | .assign x => .leaf (s.put o.dst (evalO s.fr x) (kOf s.kn x) s.H, .any)
  | .pick c a b => askO s c fun s' v => .leaf (s'.put o.dst (evalO s'.fr (if v then a else b)) (kOf s'.kn (if v then a else b)) s'.H, .any)
  | .unOp .not t x => match kOf s.kn x with
    | some b => .leaf (s.put o.dst (.bool !b) (some !b) s.H, .any)
    | none => match dun .not (evalO s.fr x) with
      | some v => .leaf (s.put o.dst v none s.H, .any)
      | none => .fail
  | .indexAddr t x i => match P.underlying t, evalO s.fr x, evalO s.fr i with
    | some (.slice e), .lst xs _, .int _ n => .br (decide (0 ≤ n) && decide (n < (xs.length : Int)))
        (.el (xs.getD n.toNat []) (cksOf P 20 e) fun a b c d => match szT P e with
          | some sz => if (mkC (cksOf P 20 e) a b c d 0).length = sz then .leaf (s.put o.dst (.rptr (mkC (cksOf P 20 e) a b c d 0)) none s.H, .any) else .fail
          | none => .fail) .fail
    | some (.slice e), .row r off len sz _, .int _ n => match szT P e with
      | some sz' => if sz = sz' then .br (decide (0 ≤ n) && decide (n < (len : Int))) (.leaf (s.put o.dst (.ptr r (off + n.toNat * sz)) none s.H, .any)) .fail else .fail
      | none => .fail
    | some (.slice _), .nils, _ => .fail
    | _, _, _ => match den1 P E call s.st o with
      | some (v, H', k) => .leaf (s.put o.dst v none H', k)
      | none => .fail
  | .call _ => match dtarget P s.fr o.op with
    | some (f, args) => match oq.q f args with
      | some y => .need (CallQ P f args y) (.leaf (s.put o.dst y none s.H, .any))
      | none => match den1 P E call s.st o with
        | some (v, H', k) => .leaf (s.put o.dst v none H', k)
        | none => .fail
    | none => match den1 P E call s.st o with
      | some (v, H', k) => .leaf (s.put o.dst v none H', k)
      | none => .fail
  | _ => match den1 P E call s.st o with
    | some (v, H', k) => .leaf (s.put o.dst v none H', k)
    | none => .fail

def opS (s : SS) (o : Oper) : Tr (SS × Kd) :=
  match oq.e o.op (evalO s.fr) s.H with
  | some (y, H', k) => .need (opQ P E s.H (evalO s.fr) o.op y H' k) (.leaf (s.put o.dst y none H', k))
  | none => opS0 P E call oq s o

end

theorem SS.put_st (s : SS) (d : Option Tmp) (v : PV) (k : Option Bool) (H : List Blk) : (s.put d v k H).st = ⟨putF s.fr d v, H⟩ := rfl

theorem any_index {P : Program} {E : TypeId → Bool} {f : Operand → PV} (t : TypeId) (x i : Operand) : dany P E f (.indexAddr t x i) = dindexAddr P t (f x) (f i) := any_indexAddr t x i

theorem opS0_snd {P : Program} (cx : Cx P) {call : Orc} {oq : Hint} (hc : OrcS P call) {ops : Array Oper} {s : SS} (h : s.ok) {o : Oper} {Q : SS × Kd → Prop} (hw : dwant ops s.fr o = some true) (hs : (opS0 P cx.E call oq s o).sat Q) :
    ∃ s' k, StepT P ops o k s.st s'.st ∧ s'.ok ∧ Q (s', k) := by
  have anyStep : ∀ (s' : SS) (y : PV), s'.fr = putF s.fr o.dst y → s'.H = s.H → dany P cx.E (evalO s.fr) o.op = some y → StepT P ops o .any s.st s'.st := fun s' y h1 h2 h3 =>
    .inr ⟨hw, y, h1, h2, fun H => .any cx h3 H⟩
  have dflt : (match den1 P cx.E call s.st o with
      | some (v, H', k) => Tr.leaf (s.put o.dst v none H', k)
      | none => Tr.fail).sat Q → ∃ s' k, StepT P ops o k s.st s'.st ∧ s'.ok ∧ Q (s', k) := by
    intro hs
    split at hs
    · rename_i v H' k hd
      exact ⟨_, k, den1_snd cx hc hw hd, SS.put_ok h _ _ _ _ (fun b hb => by cases hb), hs⟩
    · exact hs.elim
  obtain ⟨dst, op, type, pos, after, guard⟩ := o
  unfold opS0 at hs
  dsimp only at hs anyStep dflt hw
  split at hs
  · rename_i x
    refine ⟨_, _, ?_, ?_, hs⟩
    · exact anyStep _ (evalO s.fr x) rfl rfl rfl
    · exact SS.put_ok h _ _ _ _ fun b hb => kOf_ok h hb
  · rename_i x
    refine ⟨_, _, ?_, ?_, hs⟩
    · exact anyStep _ (evalO s.fr x) rfl rfl rfl
    · exact SS.put_ok h _ _ _ _ fun b hb => kOf_ok h hb
  · rename_i c a b
    obtain ⟨s', v, hst, hok, hv, hs⟩ := askO_snd h hs
    have e1 : s'.fr = s.fr := congrArg St.fr hst
    have e2 : s'.H = s.H := congrArg St.H hst
    refine ⟨_, _, ?_, ?_, hs⟩
    · refine anyStep _ (evalO s.fr (if v then a else b)) ?_ e2 ?_
      · simp only [SS.put, e1]
      · rw [any_pick, hv]; cases v <;> rfl
    · exact SS.put_ok hok _ _ _ _ fun b hb => kOf_ok hok hb
  · rename_i t x
    split at hs
    · rename_i b hb
      refine ⟨_, _, ?_, ?_, hs⟩
      · refine anyStep _ (.bool !b) rfl rfl ?_
        rw [any_un, kOf_ok h hb]; rfl
      · exact SS.put_ok h _ _ _ _ (fun c hc => by rw [Option.some.inj hc])
    · split at hs
      · rename_i v hv
        refine ⟨_, _, ?_, ?_, hs⟩
        · exact anyStep _ v rfl rfl (by rw [any_un]; exact hv)
        · exact SS.put_ok h _ _ _ _ (fun b hb => by cases hb)
      · exact hs.elim
  · rename_i t x i
    split at hs
    · rename_i e xs tight k n hu hx hi
      obtain ⟨hs, hf⟩ := hs
      cases hb : decide (0 ≤ n) && decide (n < (xs.length : Int)) with
      | false => exact (hf hb).elim
      | true =>
        obtain ⟨a, b, c, d, hel, hs⟩ := hs hb
        simp only [Bool.and_eq_true, decide_eq_true_eq] at hb
        dsimp only at hs
        split at hs
        · rename_i sz hsz
          split at hs
          · rename_i hlen
            refine ⟨_, _, ?_, ?_, hs⟩
            · refine anyStep _ (.rptr (mkC (cksOf P 20 e) a b c d 0)) rfl rfl ?_
              rw [any_indexAddr, hx, hi]
              simp only [dindexAddr, hu, hsz, hb.1, hb.2, if_true, hel, hlen, and_self]
            · exact SS.put_ok h _ _ _ _ (fun b hb => by cases hb)
          · exact hs.elim
        · exact hs.elim
    · rename_i e r off len sz tight k n hu hx hi
      split at hs
      · rename_i sz' hsz
        split at hs
        · rename_i hse
          subst hse
          obtain ⟨hs, hf⟩ := hs
          cases hb : decide (0 ≤ n) && decide (n < (len : Int)) with
          | false => exact (hf hb).elim
          | true =>
            have hs := hs hb
            simp only [Bool.and_eq_true, decide_eq_true_eq] at hb
            refine ⟨_, _, ?_, ?_, hs⟩
            · refine anyStep _ (.ptr r (off + n.toNat * sz)) rfl rfl ?_
              rw [any_indexAddr, hx, hi]
              simp only [dindexAddr, hu, hsz, hb.1, hb.2, if_true, and_self]
            · exact SS.put_ok h _ _ _ _ (fun b hb => by cases hb)
        · exact hs.elim
      · exact hs.elim
    · exact hs.elim
    · exact dflt hs
  · split at hs
    · rename_i f args ht
      split at hs
      · rename_i y _
        obtain ⟨⟨hp, ha⟩, hs⟩ := hs
        exact ⟨s.put dst y none s.H, .any, .inr ⟨hw, y, rfl, rfl, fun H => .pure ht hp ha H⟩, SS.put_ok h _ _ _ _ (fun b hb => by cases hb), hs⟩
      · exact dflt hs
    · exact dflt hs
  · exact dflt hs

theorem opQ_snd {P : Program} (cx : Cx P) {ops : Array Oper} {s : St} {o : Oper} {y : PV} {H' : List Blk} {k : Kd} (hw : dwant ops s.fr o = some true) (h : opQ P cx.E s.H (evalO s.fr) o.op y H' k) :
    StepT P ops o k s ⟨putF s.fr o.dst y, H'⟩ := by
  refine .inr ⟨hw, y, rfl, ?_⟩
  obtain ⟨dst, op, type, pos, after, guard⟩ := o
  have gen : ∀ {z : PV} {G : List Blk}, deff P cx.E s.H (evalO s.fr) op = some (z, G) → OT P ops ⟨dst, op, type, pos, after, guard⟩ s.fr s.H z G := fun hd => .eff cx hd
  dsimp only at h ⊢
  unfold opQ at h
  split at h
  · obtain ⟨rfl, rfl, h⟩ := h
    exact ⟨rfl, gen (by simp only [deff, deff0, dread, h, Option.map_some])⟩
  · obtain ⟨rfl, rfl, h⟩ := h
    have h : dread P cx.E s.H (evalO s.fr) (.load _ _) = some y := h
    exact ⟨rfl, gen (by simp only [deff, deff0]; rw [h]; rfl)⟩
  · obtain ⟨rfl, rfl, h⟩ := h
    exact ⟨rfl, gen (by simp only [deff, deff0, dread, h, Option.map_some])⟩
  · obtain ⟨rfl, rfl, h⟩ := h
    exact ⟨rfl, fun H => .any cx (by rw [any_indexAddr]; exact h) H⟩
  · obtain ⟨rfl, rfl, h⟩ := h
    exact gen (by simp only [deff, deff0, h, Option.map_some])
  · obtain ⟨rfl, rfl, h⟩ := h
    exact gen (by simp only [deff, deff0, h, Option.map_some])
  · split at h
    · rename_i ha ht
      obtain ⟨rfl, h⟩ := h
      exact gen (by simp only [deff, deff0, ha, ht, h])
    · exact h.elim
  · split at h
    · rename_i ha ht
      obtain ⟨rfl, h⟩ := h
      exact gen (by simp only [deff, deff0, ha, ht, h])
    · exact h.elim
  · rcases h with ⟨rfl, h⟩ | ⟨rfl, rfl, h⟩
    · exact gen h
    · exact ⟨rfl, fun H => .any cx h H⟩

theorem opS_snd {P : Program} (cx : Cx P) {call : Orc} {oq : Hint} (hc : OrcS P call) {ops : Array Oper} {s : SS} (h : s.ok) {o : Oper} {Q : SS × Kd → Prop} (hw : dwant ops s.fr o = some true) (hs : (opS P cx.E call oq s o).sat Q) :
    ∃ s' k, StepT P ops o k s.st s'.st ∧ s'.ok ∧ Q (s', k) := by
  unfold opS at hs
  split at hs
  · obtain ⟨h1, hs⟩ := hs
    exact ⟨_, _, opQ_snd (s := s.st) cx hw h1, SS.put_ok h _ _ _ _ (fun b hb => by cases hb), hs⟩
  · exact opS0_snd cx hc h hw hs

/-! ### regions and code -/

section
variable (P : Program) (E : TypeId → Bool) (call : Orc) (oq : Hint)

def opsS (ops : Array Oper) : List Oper → SS → Tr (SS × List Kd)
  | [], s => .leaf (s, [])
  | o :: l, s =>
    let go (s : SS) : Tr (SS × List Kd) := (opS P E call oq s o).bind fun (s1, k) => (opsS ops l s1).bind fun (s2, ks) => .leaf (s2, k :: ks)
    let skip (s : SS) : Tr (SS × List Kd) := (opsS ops l (s.put o.dst (.tuple []) none s.H)).bind fun (s2, ks) => .leaf (s2, .any :: ks)
    match o.guard with
    | none => go s
    | some (j, b) => match (ops[j]?).bind (·.dst) with
      | some d => match s.fr.getD d .undef with
        | .tuple [] => skip s
        | _ => askS s d fun s' c => if c == b then go s' else skip s'
      | none => .fail

def codeS : Nat → Code → SS → Tr (Ex × SS)
  | 0, _, _ => .fail
  | n + 1, c, s => match c with
    | .skip => .leaf (.normal, s)
    | .region _ ops draw => (opsS P E call oq ops ops.toList s).bind fun (s1, ks) => if draw then (if drawOk ops ks then .leaf (.normal, s1) else .fail) else .leaf (.normal, s1)
    | .seq a b => (codeS n a s).bind fun (x, s1) => match x with
      | .normal => codeS n b s1
      | x => .leaf (x, s1)
    | .cond c x y => askO s c fun s' v => if v then codeS n x s' else codeS n y s'
    | .block id c => (codeS n c s).bind fun (x, s1) => match x with
      | .exit j => if j = id then .leaf (.normal, s1) else .leaf (.exit j, s1)
      | x => .leaf (x, s1)
    | .exit id => .leaf (.exit id, s)
    | .ret => .leaf (.ret, s)
    | _ => .fail

end

theorem opsS_snd {P : Program} (cx : Cx P) {call : Orc} {oq : Hint} (hc : OrcS P call) {ops : Array Oper} : ∀ (l : List Oper) {s : SS} (_ : s.ok) {Q : SS × List Kd → Prop}, (opsS P cx.E call oq ops l s).sat Q →
    ∃ s' ks, DR P ops l ks s.st s'.st ∧ s'.ok ∧ Q (s', ks)
  | [], s, h, Q, hs => ⟨s, [], .nil _, h, hs⟩
  | o :: l, s, h, Q, hs => by
    have go : ∀ s0 : SS, s0.st = s.st → s0.ok → dwant ops s.fr o = some true → ((opS P cx.E call oq s0 o).bind fun (s1, k) => (opsS P cx.E call oq ops l s1).bind fun (s2, ks) => Tr.leaf (s2, k :: ks)).sat Q →
        ∃ s' ks, DR P ops (o :: l) ks s.st s'.st ∧ s'.ok ∧ Q (s', ks) := by
      intro s0 e h0 hw hs
      have e1 : s0.fr = s.fr := congrArg St.fr e
      obtain ⟨s1, k, h1, h2, h3⟩ := opS_snd cx hc (ops := ops) h0 (by rw [e1]; exact hw) (Tr.sat_bind _ hs)
      obtain ⟨s2, ks, h4, h5, h6⟩ := opsS_snd cx hc l h2 (Tr.sat_bind _ h3)
      exact ⟨s2, k :: ks, .cons (e ▸ h1) h4, h5, h6⟩
    have skip : ∀ s0 : SS, s0.st = s.st → s0.ok → dwant ops s.fr o = some false → ((opsS P cx.E call oq ops l (s0.put o.dst (.tuple []) none s0.H)).bind fun (s2, ks) => Tr.leaf (s2, Kd.any :: ks)).sat Q →
        ∃ s' ks, DR P ops (o :: l) ks s.st s'.st ∧ s'.ok ∧ Q (s', ks) := by
      intro s0 e h0 hw hs
      obtain ⟨s2, ks, h4, h5, h6⟩ := opsS_snd cx hc l (SS.put_ok h0 o.dst (.tuple []) none s0.H (fun b hb => by cases hb)) (Tr.sat_bind _ hs)
      have e1 : s0.fr = s.fr := congrArg St.fr e
      have e2 : s0.H = s.H := congrArg St.H e
      rw [SS.put_st, e1, e2] at h4
      exact ⟨s2, .any :: ks, .cons (.inl ⟨hw, rfl⟩) h4, h5, h6⟩
    unfold opsS at hs
    dsimp only at hs
    split at hs
    · rename_i hg
      exact go s rfl h (by unfold dwant; rw [hg]) hs
    · rename_i j b hg
      split at hs
      · rename_i d hd
        split at hs
        · rename_i hv
          exact skip s rfl h (by simp only [dwant, hg, hd, hv]) hs
        · obtain ⟨s', c, hst, hok, hv, hs⟩ := askS_snd h hs
          have hw : dwant ops s.fr o = some (c == b) := by simp only [dwant, hg, hd, hv]
          cases hcb : (c == b) with
          | true => rw [hcb] at hs hw; exact go s' hst hok hw hs
          | false => rw [hcb] at hs hw; exact skip s' hst hok hw hs
      · exact hs.elim

theorem codeS_snd {P : Program} (cx : Cx P) {call : Orc} {oq : Hint} (hc : OrcS P call) : ∀ (n : Nat) (c : Code) {s : SS} (_ : s.ok) {Q : Ex × SS → Prop}, (codeS P cx.E call oq n c s).sat Q →
    W P c s.st fun x t => ∃ s', t = s'.st ∧ s'.ok ∧ Q (x, s')
  | 0, _, _, _, _, hs => hs.elim
  | n + 1, c, s, h, Q, hs => by
    have ih := codeS_snd (oq := oq) cx hc n
    cases c <;> simp only [codeS] at hs
    case skip => exact .skip ⟨s, rfl, h, hs⟩
    case exit id => exact .exit ⟨s, rfl, h, hs⟩
    case ret => exact .ret ⟨s, rfl, h, hs⟩
    case region id ops draw =>
      obtain ⟨s1, ks, h1, h2, h3⟩ := opsS_snd cx hc _ h (Tr.sat_bind _ hs)
      cases draw with
      | false => exact .region (.dr h1 ⟨s1, rfl, h2, h3⟩)
      | true =>
        simp only [if_true] at h3
        split at h3
        · rename_i hok; exact .draw cx hok h1 ⟨s1, rfl, h2, h3⟩
        · exact h3.elim
    case seq a b =>
      refine .sq' ((ih a h (Tr.sat_bind _ hs)).mono fun x t ⟨s1, e, hok, hq⟩ => ?_)
      subst e
      cases x with
      | normal => exact ih b hok hq
      | exit id => exact ⟨s1, rfl, hok, hq⟩
      | ret => exact ⟨s1, rfl, hok, hq⟩
    case cond c x y =>
      obtain ⟨s', v, hst, hok, hv, hs⟩ := askO_snd h hs
      rw [← hst]
      refine .cond (b := v) (by rw [hst]; exact hv) ?_
      cases v with
      | true => exact ih x hok hs
      | false => exact ih y hok hs
    case block id c =>
      refine .blk ((ih c h (Tr.sat_bind _ hs)).mono fun x t ⟨s1, e, hok, hq⟩ => ?_)
      subst e
      cases x with
      | normal => exact ⟨s1, rfl, hok, hq⟩
      | exit j =>
        dsimp only at hq ⊢
        split at hq
        · rename_i e; rw [if_pos e]; exact ⟨s1, rfl, hok, hq⟩
        · rename_i e; rw [if_neg e]; exact ⟨s1, rfl, hok, hq⟩
      | ret => exact ⟨s1, rfl, hok, hq⟩
    all_goals exact hs.elim

/-- Blocks that are spoken of no more. -/
def deadH (H : List Blk) : List Blk := H.map fun _ => .dead

/-- What a tree's ways end with, only the slots 'ls'; 'kh': and our blocks. -/
def Tr.cut (ls : List Nat) (kh : Bool) (t : Tr (Ex × SS)) : Tr (Ex × St) := t.bind fun (x, s) => .leaf (x, ⟨maskF ls 0 s.fr, if kh then s.H else deadH s.H⟩)

theorem SR.weaken {w : World} {ρ : Rl} {st st' : St} {a : Act} (hs : SR w ρ st a) (hl : st'.fr.length = st.fr.length) (hf : ∀ i, st'.fr.getD i .undef = st.fr.getD i .undef ∨ st'.fr.getD i .undef = .undef)
    (hHl : st'.H.length = st.H.length) (hH : ∀ r, st'.H.getD r .dead = st.H.getD r .dead ∨ st'.H.getD r .dead = .dead) : SR w ρ st' a ∧ Step w ρ st.H w ρ st'.H := by
  have live : ∀ r, st'.H.getD r .dead ≠ .dead → st'.H.getD r .dead = st.H.getD r .dead := fun r hd => (hH r).resolve_right hd
  refine ⟨⟨⟨hs.fr.defers, by rw [hl]; exact hs.fr.size, fun i => ?_⟩, ⟨fun r hr hd => ?_, fun r r' b sh sh' hr hr' hd hd' h1 h2 => ?_, fun r hr => hs.hp.none r (by omega), hs.hp.S, hs.hp.lt⟩⟩,
    ⟨Le.refl _ _, Nat.le_refl _, fun _ _ _ => rfl, fun b ⟨r, sh, hr, hd, h1⟩ => .inl ⟨r, sh, by omega, by rw [live r hd] at hd; exact hd, h1⟩, fun _ h => .inl h, by omega, rfl, rfl, rfl⟩⟩
  · rcases hf i with e | e
    · rw [e]; exact hs.fr.slot i
    · rw [e]; exact .undef _
  · have e := live r hd; rw [e]; exact hs.hp.blk r (by omega) (by rw [← e]; exact hd)
  · rw [live r hd] at hd; rw [live r' hd'] at hd'
    exact hs.hp.one r r' b sh sh' (by omega) (by omega) hd hd' h1 h2

theorem W.maskPost {P : Program} {c : Code} {st : St} {Q : Ex → St → Prop} (ls : List Nat) (kh : Bool) (h : W P c st fun x s => Q x ⟨maskF ls 0 s.fr, if kh then s.H else deadH s.H⟩) : W P c st Q := by
  intro w ρ a hs
  refine wp_mono (h w ρ a hs) ?_
  rintro e a' w' ⟨x, s, ρ', rfl, hQ, hs', hst⟩
  obtain ⟨h1, h2⟩ := maskF_spec (ls := ls) s.fr 0
  obtain ⟨h3, h4⟩ := SR.weaken (st' := ⟨maskF ls 0 s.fr, if kh then s.H else deadH s.H⟩) hs' h1 h2 (by split <;> simp [deadH]) (fun r => by
    cases kh with
    | true => exact .inl rfl
    | false =>
      right
      simp only [deadH, Bool.false_eq_true, if_false, List.getD, List.getElem?_map]
      cases s.H[r]? <;> rfl)
  exact ⟨x, _, ρ', rfl, hQ, h3, hst.trans h4⟩

/-- CODE BY ITS TREE. -/
theorem W.tree {P : Program} (cx : Cx P) {call : Orc} {oq : Hint} (hc : OrcS P call) (ls : List Nat) (kh : Bool) (n : Nat) {c : Code} {st : St} {Q : Ex → St → Prop} {t : Tr (Ex × St)} (ht : (codeS P cx.E call oq n c ⟨st.fr, [], st.H⟩).cut ls kh = t)
    (h : t.sat fun (x, s) => Q x s) : W P c st Q := by
  subst ht
  have h := Tr.sat_bind _ h
  refine .maskPost ls kh ((codeS_snd cx hc n c (s := ⟨st.fr, [], st.H⟩) (fun d b hd => by simp at hd) h).mono fun x t ⟨s', e, _, hq⟩ => ?_)
  subst e
  exact hq

end Go.MW
