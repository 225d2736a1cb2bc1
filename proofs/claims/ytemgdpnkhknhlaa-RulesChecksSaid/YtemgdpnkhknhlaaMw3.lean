/-
  OUR OWN: comparing, reckoning.
-/
import Derived.Test.YtemgdpnkhknhlaaMw2
import Derived.Laws.StructEq
namespace Go.MW

/-- What a seat tells of its struct types: those that may be compared field by field. -/
structure Cx (P : Program) where
  E : TypeId → Bool
  held : ∀ t, E t = true → P.stoodInHeld t = false
  guard : ∀ t, E t = true → P.eqGuardType P.depth t = false
  mixed : P.follows .mixedOrders = true

section
variable (P : Program) (E : TypeId → Bool)

def deqFs (eq : TypeId → PV → PV → Option Bool) (xs ys : List PV) : List Field → Option Bool
  | [] => some true
  | f :: fs =>
    if f.name ≠ "_" then
      match partOf P f.type xs f.offset, partOf P f.type ys f.offset with
      | some a, some b => match eq f.type a b with
        | some true => deqFs eq xs ys fs
        | some false => some false
        | none => none
      | _, _ => none
    else deqFs eq xs ys fs

def deqIn : Nat → TypeId → PV → PV → Option Bool
  | 0, _, _, _ => none
  | d + 1, t, x, y =>
    match P.underlying t with
    | some .bool => match x, y with
      | .bool a, .bool b => some (a == b)
      | _, _ => none
    | some (.int _) => match x, y with
      | .int k a, .int k' b => if k = k' then some (a == b) else none
      | _, _ => none
    | some .string => match x, y with
      | .str a, .str b => some (a.data.toList == b.data.toList)
      | _, _ => none
    | some (.slice _) => match x, y with
      | .nils, .nils => some true
      | .nils, .lst (_ :: _) _ => some false
      | .nils, .row .. => some false
      | .lst (_ :: _) _, .nils => some false
      | .row .., .nils => some false
      | _, _ => none
    | some (.map _ _) => match x, y with
      | .nilm, .nilm => some true
      | .nilm, .map _ => some false
      | .map _, .nilm => some false
      | _, _ => none
    | some (.pointer e) => match x, y with
      | .nilp, .nilp => some true
      | .nilp, .ptr .. => some false
      | .nilp, .rptr _ => some false
      | .ptr .., .nilp => some false
      | .ptr r a, .ptr r' b => if r = r' ∧ (szT P e).getD 0 ≠ 0 then some (a == b) else none
      | .rptr _, .nilp => some false
      | _, _ => none
    | some (.func _ _ _) => match x, y with
      | .nilf, .nilf => some true
      | .nilf, .func _ _ => some false
      | .func _ _, .nilf => some false
      | _, _ => none
    | some (.interface _) => match x, y with
      | .nili, .nili => some true
      | .nili, .iface _ _ => some false
      | .iface _ _, .nili => some false
      | _, _ => none
    | some (.struct fs) => if E t = true then match x, y with
        | .agg xs, .agg ys => deqFs P (deqIn d) xs ys fs.toList
        | _, _ => none
      else none
    | _ => none

end

theorem fieldsOf_struct {P : Program} {t : TypeId} {fs : Array Field} (h : P.underlying t = some (.struct fs)) : P.fieldsOf t = fs := by simp [Program.fieldsOf, h]

theorem agg_inv {w : World} {ρ : Rl} {cs : List PV} {v : Value} (h : VR w ρ (.agg cs) v) : ∃ vs, v = .agg vs ∧ vs.size = cs.length ∧ ∀ t, t < cs.length → VR w ρ (cs.getD t .undef) (vs.getD t Go.undef) := by
  cases h with
  | agg hl hv => exact ⟨_, rfl, hl, hv⟩

theorem deqFs_snd {P : Program} {w : World} {ρ : Rl} {d : Nat} {eq : TypeId → PV → PV → Option Bool}
    (heq : ∀ t x y u v b, VR w ρ x u → VR w ρ y v → eq t x y = some b → (Op.equalIn d t u v).run P w = .ok b w)
    {xs ys : List PV} {us vs : Array Value} (hxl : us.size = xs.length) (hx : ∀ t, t < xs.length → VR w ρ (xs.getD t .undef) (us.getD t Go.undef))
    (hyl : vs.size = ys.length) (hy : ∀ t, t < ys.length → VR w ρ (ys.getD t .undef) (vs.getD t Go.undef)) :
    ∀ (fs : List Field) (b : Bool), deqFs P eq xs ys fs = some b → (Op.eqFields d us vs fs).run P w = .ok b w
  | [], b, h => by simp [deqFs] at h; subst h; rfl
  | f :: fs, b, h => by
    unfold deqFs at h
    unfold Op.eqFields
    split at h
    · rename_i hn
      rw [if_pos hn]
      split at h
      · rename_i a c ha hc
        obtain ⟨u, hu, hua⟩ := part_snd (P := P) hxl hx ha
        obtain ⟨v, hv, hvc⟩ := part_snd (P := P) hyl hy hc
        split at h
        · rename_i he
          simp [hu, hv, heq _ _ _ _ _ _ hua hvc he, deqFs_snd heq hxl hx hyl hy fs b h]
        · rename_i he
          simp at h; subst h
          simp [hu, hv, heq _ _ _ _ _ _ hua hvc he]
        · cases h
      · cases h
    · rename_i hn
      rw [if_neg hn]
      exact deqFs_snd heq hxl hx hyl hy fs b h

theorem addr_beq (b s o1 o2 : Nat) : ((⟨b, s + o1, none⟩ : Addr) == ⟨b, s + o2, none⟩) = (o1 == o2) := by
  rw [Bool.eq_iff_iff]
  simp

set_option maxHeartbeats 1000000 in
theorem deqIn_snd {P : Program} (cx : Cx P) {w : World} {ρ : Rl} : ∀ (d : Nat) (t : TypeId) (x y : PV) (u v : Value) (b : Bool), VR w ρ x u → VR w ρ y v → deqIn P cx.E d t x y = some b →
    (Op.equalIn d t u v).run P w = .ok b w
  | 0, _, _, _, _, _, _, _, _, h => by simp [deqIn] at h
  | d + 1, t, x, y, u, v, b, hx, hy, h => by
    unfold deqIn at h
    split at h
    · rename_i hu
      split at h
      · cases hx; cases hy; simp at h; subst h; exact run_equalIn_bool' w d t _ _ hu
      · cases h
    · rename_i k0 hu
      split at h
      · cases hx; cases hy
        split at h
        · rename_i hk; subst hk; simp at h; subst h; exact run_equalIn_int w d t _ _ _ _ hu
        · cases h
      · cases h
    · rename_i hu
      split at h
      · cases hx; cases hy; obtain rfl := Option.some.inj h
        rw [run_equalIn_string w d t _ _ hu, ByteArray.toList_eq, ByteArray.toList_eq]
      · cases h
    · rename_i e hu
      split at h
      · cases hx; cases hy; simp at h; subst h; simp [Op.equalIn, run_underlying hu]
      · cases hx; cases hy; simp at h; subst h; simp [Op.equalIn, run_underlying hu]
      · cases hx; cases hy; simp at h; subst h; simp [Op.equalIn, run_underlying hu]
      · cases hx; cases hy; simp at h; subst h; simp [Op.equalIn, run_underlying hu]
      · cases hx; cases hy; simp at h; subst h; simp [Op.equalIn, run_underlying hu]
      · cases h
    · rename_i k0 e hu
      split at h
      · cases hx; cases hy; simp at h; subst h; simp [Op.equalIn, run_underlying hu]
      · cases hx; cases hy; simp at h; subst h; simp [Op.equalIn, run_underlying hu]
      · cases hx; cases hy; simp at h; subst h; simp [Op.equalIn, run_underlying hu]
      · cases h
    · rename_i e hu
      split at h
      · cases hx; cases hy; simp at h; subst h; simp [Op.equalIn, run_underlying hu, samePointer]
      · cases hx; cases hy; simp at h; subst h; simp [Op.equalIn, run_underlying hu, samePointer]
      · cases hx; cases hy; simp at h; subst h; simp [Op.equalIn, run_underlying hu, samePointer]
      · cases hx; cases hy; simp at h; subst h; simp [Op.equalIn, run_underlying hu, samePointer]
      · rename_i r1 o1 r2 o2
        split at h
        · rename_i hr
          obtain ⟨hr, hsz⟩ := hr
          obtain ⟨n, hn⟩ : ∃ n, szT P e = some n := by
            cases hs : szT P e with
            | none => rw [hs] at hsz; exact absurd rfl hsz
            | some n => exact ⟨n, rfl⟩
          rw [hn] at hsz
          have hz : n ≠ 0 := hsz
          cases hx with
          | ptr _ h1 =>
            cases hy with
            | ptr _ h2 =>
              subst hr
              rw [h1] at h2
              simp only [Option.some.injEq, Prod.mk.injEq] at h2
              obtain ⟨rfl, rfl⟩ := h2
              simp at h; subst h
              simp [Op.equalIn, run_underlying hu, samePointer, sameAddr, run_sizeOf' hn, hz, addr_beq]
        · cases h
      · cases hx; cases hy; simp at h; subst h; simp [Op.equalIn, run_underlying hu, samePointer]
      · cases h
    · rename_i e1 e2 e3 hu
      split at h
      · cases hx; cases hy; simp at h; subst h; simp [Op.equalIn, run_underlying hu]
      · cases hx; cases hy; simp at h; subst h; simp [Op.equalIn, run_underlying hu]
      · cases hx; cases hy; simp at h; subst h; simp [Op.equalIn, run_underlying hu]
      · cases h
    · rename_i e hu
      split at h
      · cases hx; cases hy; simp at h; subst h; simp [Op.equalIn, run_underlying hu]
      · cases hx; cases hy; simp at h; subst h; simp [Op.equalIn, run_underlying hu]
      · cases hx; cases hy; simp at h; subst h; simp [Op.equalIn, run_underlying hu]
      · cases h
    · rename_i fs hu
      split at h
      · rename_i hE
        split at h
        · rename_i xs ys
          obtain ⟨us, rfl, hxl, hx'⟩ := agg_inv hx
          obtain ⟨vs, rfl, hyl, hy'⟩ := agg_inv hy
          rw [run_equalIn_struct w d t us vs (by rw [fieldsOf_struct hu]; exact hu) (cx.held t hE), fieldsOf_struct hu]
          exact deqFs_snd (fun t x y u v b h1 h2 h3 => deqIn_snd cx d t x y u v b h1 h2 h3) hxl hx' hyl hy' _ _ h
        · cases h
      · cases h
    · cases h

theorem deqIn_undef {P : Program} {E : TypeId → Bool} (d : Nat) (t : TypeId) (y : PV) : deqIn P E d t .undef y = none := by
  cases d with
  | zero => rfl
  | succ d =>
    unfold deqIn
    split <;> first | rfl | (split <;> rfl)

theorem deqIn_undef' {P : Program} {E : TypeId → Bool} (d : Nat) (t : TypeId) (x : PV) : deqIn P E d t x .undef = none := by
  cases d with
  | zero => rfl
  | succ d =>
    unfold deqIn
    split
    case h_9 =>
      split
      · split
        · rename_i h; cases h
        · rfl
      · rfl
    all_goals first | rfl | (split <;> first | rfl | (rename_i h; cases h))

/-! ### numbers, strings -/

def dint (op : BinOp) (k : IntKind) (a b : Int) : Option PV :=
  match op with
  | .add => some (.int k (k.wrap (a + b)))
  | .sub => some (.int k (k.wrap (a - b)))
  | .mul => some (.int k (k.wrap (a * b)))
  | .quo => if b = 0 then none else some (.int k (k.wrap (a.tdiv b)))
  | .rem => if b = 0 then none else some (.int k (a.tmod b))
  | .and => some (.int k (bits .and k a b))
  | .or => some (.int k (bits .or k a b))
  | .xor => some (.int k (bits .xor k a b))
  | .andNot => some (.int k (bits .andNot k a b))
  | .eql => some (.bool (a == b))
  | .neq => some (.bool (a != b))
  | .lss => some (.bool (decide (a < b)))
  | .leq => some (.bool (decide (a ≤ b)))
  | .gtr => some (.bool (decide (b < a)))
  | .geq => some (.bool (decide (b ≤ a)))
  | _ => none

def dshift (op : BinOp) (k : IntKind) (a b : Int) : Option PV :=
  if b < 0 then none else
  match op with
  | .shl => some (.int k (k.wrap (a * 2 ^ min b.toNat k.bits)))
  | .shr => some (.int k (a.fdiv (2 ^ min b.toNat k.bits)))
  | _ => none

def dstr (op : BinOp) (x y : ByteArray) : Option PV :=
  match op with
  | .add => if x.size + y.size ≤ 4611686018427387904 then some (.str (x ++ y)) else none
  | .eql => some (.bool (x.data.toList == y.data.toList))
  | .neq => some (.bool (!(x.data.toList == y.data.toList)))
  | .lss => some (.bool (Op.bytesLess x.data.toList y.data.toList))
  | .leq => some (.bool (Op.bytesLess x.data.toList y.data.toList || x.data.toList == y.data.toList))
  | .gtr => some (.bool (!(Op.bytesLess x.data.toList y.data.toList || x.data.toList == y.data.toList)))
  | .geq => some (.bool (!(Op.bytesLess x.data.toList y.data.toList)))
  | _ => none

/-- A struct or nil among what is compared: what its guard asks. -/
def eqOk (E : TypeId → Bool) (t : TypeId) (cst : Bool) : PV → PV → Bool
  | .agg _, .agg _ => E t
  | .nili, .nili => cst
  | _, _ => true

def dbin (P : Program) (E : TypeId → Bool) (op : BinOp) (t : TypeId) (cst : Bool) (x y : PV) : Option PV :=
  match x, y with
  | .int k a, .int k' b => match op with
    | .shl => dshift .shl k a b
    | .shr => dshift .shr k a b
    | op => if k = k' then dint op k a b else none
  | .str a, .str b => dstr op a b
  | x, y => match op with
    | .eql => if eqOk E t cst x y then (deqIn P E 10000 t x y).map .bool else none
    | .neq => if eqOk E t cst x y then (deqIn P E 10000 t x y).map (fun b => .bool (!b)) else none
    | _ => none

def isCst : Operand → Bool
  | .const _ => true
  | _ => false

theorem run_runtime_ite {P : Program} {w : World} {α : Type} {c : Prop} [Decidable c] {x y : Sem α} (h : ¬ c) : (if c then x else y).run P w = y.run P w := by rw [if_neg h]

theorem dint_snd {P : Program} {w : World} {op : BinOp} {t : TypeId} {k : IntKind} {a b : Int} {x : PV} (h1 : op ≠ .shl) (h2 : op ≠ .shr) (h : dint op k a b = some x) :
    ∃ u, (binOp op t (.int k a) (.int k b)).run P w = .ok u w ∧ ∀ ρ, VR w ρ x u := by
  cases op <;> simp only [dint, Option.some.injEq, reduceCtorEq] at h <;> first | contradiction | skip
  case add => subst h; exact ⟨_, by simp [binOp_add, Op.intArith], fun _ => .int _ _⟩
  case sub => subst h; exact ⟨_, by simp [binOp_sub, Op.intArith], fun _ => .int _ _⟩
  case mul => subst h; exact ⟨_, by simp [binOp_mul, Op.intArith], fun _ => .int _ _⟩
  case quo =>
    split at h
    · cases h
    · rename_i hb; simp at h; subst h; exact ⟨_, by simp [binOp_quo, Op.intDiv, hb], fun _ => .int _ _⟩
  case rem =>
    split at h
    · cases h
    · rename_i hb; simp at h; subst h; exact ⟨_, by simp [binOp_rem, Op.intDiv, hb], fun _ => .int _ _⟩
  case and => subst h; exact ⟨_, by simp [binOp_and, intBits_and], fun _ => .int _ _⟩
  case or => subst h; exact ⟨_, by simp [binOp_or, intBits_or], fun _ => .int _ _⟩
  case xor => subst h; exact ⟨_, by simp [binOp_xor, intBits_xor], fun _ => .int _ _⟩
  case andNot => subst h; exact ⟨_, by simp [binOp_andNot, intBits_andNot], fun _ => .int _ _⟩
  case eql => subst h; exact ⟨_, by simp [binOp_eql], fun _ => .bool _⟩
  case neq => subst h; exact ⟨_, by simp [binOp_neq], fun _ => .bool _⟩
  case lss => subst h; exact ⟨_, by simp [binOp_lss], fun _ => .bool _⟩
  case leq => subst h; exact ⟨_, by simp [binOp_leq], fun _ => .bool _⟩
  case gtr => subst h; exact ⟨_, by simp [binOp_gtr], fun _ => .bool _⟩
  case geq => subst h; exact ⟨_, by simp [binOp_geq], fun _ => .bool _⟩

theorem dshift_snd {P : Program} {w : World} {op : BinOp} {t : TypeId} {k k' : IntKind} {a b : Int} {x : PV} (h : dshift op k a b = some x) :
    ∃ u, (binOp op t (.int k a) (.int k' b)).run P w = .ok u w ∧ ∀ ρ, VR w ρ x u := by
  unfold dshift at h
  split at h
  · cases h
  · rename_i hb
    cases op <;> simp only [Option.some.injEq, reduceCtorEq] at h <;> subst h
    · exact ⟨_, by rw [binOp_shl]; unfold Op.shift; rw [if_neg hb]; rfl, fun _ => .int _ _⟩
    · exact ⟨_, by rw [binOp_shr]; unfold Op.shift; rw [if_neg hb]; rfl, fun _ => .int _ _⟩

theorem binOp_string (op : BinOp) (t : TypeId) (a b : ByteArray) : binOp op t (.string a) (.string b) = Op.stringOp op a b := by cases op <;> rfl

theorem dstr_snd {P : Program} {w : World} {op : BinOp} {t : TypeId} {a b : ByteArray} {x : PV} (h : dstr op a b = some x) :
    ∃ u, (binOp op t (.string a) (.string b)).run P w = .ok u w ∧ ∀ ρ, VR w ρ x u := by
  rw [binOp_string]
  cases op <;> simp only [dstr, Option.some.injEq, reduceCtorEq] at h
  case add =>
    split at h
    · rename_i hs
      simp at h; subst h
      refine ⟨_, ?_, fun _ => .str _⟩
      have : ¬ (((a.size + b.size : Nat) : Int) > IntKind.i64.max) := by rw [IntKind.max_i64]; omega
      simp only [Op.stringOp]
      rw [if_neg this]; rfl
    · cases h
  all_goals
    subst h
    exact ⟨_, by simp only [Op.stringOp, ByteArray.toList_eq]; rfl, fun _ => .bool _⟩

theorem dbin_snd {P : Program} (cx : Cx P) {w : World} {ρ : Rl} {op : BinOp} {t : TypeId} {xo yo : Operand} {x y : PV} {u v : Value} (hx : VR w ρ x u) (hy : VR w ρ y v) {z : PV}
    (h : dbin P cx.E op t (isCst xo || isCst yo) x y = some z) :
    ∃ r, (do eqGuard op t xo yo u v; binOp op t u v : Sem Value).run P w = .ok r w ∧ VR w ρ z r := by
  unfold dbin at h
  split at h
  · rename_i k a k' b
    cases hx; cases hy
    have hg : eqGuard op t xo yo (.int k a) (.int k' b) = pure () := by cases op <;> rfl
    rw [hg]
    split at h
    · obtain ⟨r, hr, hv⟩ := dshift_snd (P := P) (w := w) (t := t) (k' := k') h; exact ⟨r, by simpa using hr, hv ρ⟩
    · obtain ⟨r, hr, hv⟩ := dshift_snd (P := P) (w := w) (t := t) (k' := k') h; exact ⟨r, by simpa using hr, hv ρ⟩
    · rename_i h1 h2
      split at h
      · rename_i hk; subst hk
        obtain ⟨r, hr, hv⟩ := dint_snd (P := P) (w := w) (t := t) h1 h2 h; exact ⟨r, by simpa using hr, hv ρ⟩
      · cases h
  · rename_i a b
    cases hx; cases hy
    have hg : eqGuard op t xo yo (.string a) (.string b) = pure () := by cases op <;> rfl
    rw [hg]
    obtain ⟨r, hr, hv⟩ := dstr_snd (P := P) (w := w) (t := t) h; exact ⟨r, by simpa using hr, hv ρ⟩
  · rename_i hni hns
    have key : ∀ b, eqOk cx.E t (isCst xo || isCst yo) x y = true → deqIn P cx.E 10000 t x y = some b →
        ∀ op : BinOp, (op = .eql ∨ op = .neq) → (eqGuard op t xo yo u v).run P w = .ok () w ∧ (Op.equal t u v).run P w = .ok b w := by
      intro b hok hd op hop
      refine ⟨?_, deqIn_snd cx 10000 t x y u v b hx hy hd⟩
      unfold eqGuard
      rw [if_neg (by rcases hop with rfl | rfl <;> simp)]
      split
      · cases hx with
        | undef => simp [deqIn_undef] at hd
        | nili =>
          cases hy with
          | undef => simp [deqIn_undef'] at hd
          | nili =>
            simp only [eqOk] at hok
            rw [if_pos]
            · rfl
            · cases xo <;> cases yo <;> simp_all [isCst]
      · cases hx with
        | undef => simp [deqIn_undef] at hd
        | agg =>
          cases hy with
          | undef => simp [deqIn_undef'] at hd
          | agg =>
            simp only [eqOk] at hok
            simp [cx.guard t hok]
      · rfl
    have hbin : ∀ b, (Op.equal t u v).run P w = .ok b w → deqIn P cx.E 10000 t x y = some b → (binOp .eql t u v).run P w = .ok (.bool b) w ∧ (binOp .neq t u v).run P w = .ok (.bool (!b)) w := by
      intro b hb hd
      have hne : ∀ c d : Value, u = c → v = d → True := fun _ _ _ _ => trivial
      cases hx <;> cases hy <;> first
        | (exact absurd rfl (hni _ _ _ _ rfl))
        | (exact absurd rfl (hns _ _ rfl))
        | (exfalso; exact hni _ _ _ _ rfl rfl)
        | (exfalso; exact hns _ _ rfl rfl)
        | (simp [binOp, hb]; done)
        | (simp [deqIn] at hd; split at hd <;> simp at hd; done)
    split at h
    · split at h
      · rename_i hok
        cases hd : deqIn P cx.E 10000 t x y with
        | none => simp [hd] at h
        | some b =>
          simp [hd] at h; subst h
          obtain ⟨h1, h2⟩ := key b hok hd .eql (.inl rfl)
          exact ⟨.bool b, by simp only [Sem.run_bind, h1, Result.andThen_ok, (hbin b h2 hd).1], .bool _⟩
      · cases h
    · split at h
      · rename_i hok
        cases hd : deqIn P cx.E 10000 t x y with
        | none => simp [hd] at h
        | some b =>
          simp [hd] at h; subst h
          obtain ⟨h1, h2⟩ := key b hok hd .neq (.inr rfl)
          exact ⟨.bool (!b), by simp only [Sem.run_bind, h1, Result.andThen_ok, (hbin b h2 hd).2], .bool _⟩
      · cases h
    · cases h

end Go.MW
