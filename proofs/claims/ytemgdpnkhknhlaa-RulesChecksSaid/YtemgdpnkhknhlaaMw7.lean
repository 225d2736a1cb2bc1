/-
  OUR OWN: all operations that only look, together.
-/
import Derived.Test.YtemgdpnkhknhlaaMw6
import Derived.Laws.Small
import Derived.Laws.Strings
namespace Go.MW

def dindex (P : Program) (t : TypeId) (x i : PV) : Option PV :=
  match i with
  | .int _ n =>
    if 0 ≤ n then
      match P.underlying t with
      | some .string => match x with
        | .str s => if h : n.toNat < s.size then some (.int .u8 (s[n.toNat]).toNat) else none
        | _ => none
      | some (.array len e) => match x with
        | .agg cs => if n < (len : Int) then match szT P e with
            | some sz => partOf P e cs (n.toNat * sz)
            | none => none
          else none
        | _ => none
      | _ => none
    else none
  | _ => none

theorem index_snd {P : Program} {w : World} {ρ : Rl} {t : TypeId} {x i : PV} {v j : Value} (hx : VR w ρ x v) (hi : VR w ρ i j) {y : PV} (h : dindex P t x i = some y) :
    ∃ u, (Instr.index t v j).run P w = .ok u w ∧ VR w ρ y u := by
  unfold dindex at h
  split at h
  · rename_i k n
    cases hi
    split at h
    · rename_i h0
      split at h
      · rename_i hu
        split at h
        · rename_i s
          cases hx
          split at h
          · rename_i hlt
            simp at h; subst h
            refine ⟨_, ?_, .int _ _⟩
            simp only [Instr.index, Sem.run_bind, asIntOf, Sem.run_pure, Result.andThen_ok, run_underlying hu, if_pos h0]
            have : s[n.toNat]? = some (s[n.toNat]) := by simp [hlt]
            rw [this]
            rfl
          · cases h
        · cases h
      · rename_i len e hu
        split at h
        · rename_i cs
          obtain ⟨vs, rfl, hA⟩ := agg_inv hx
          split at h
          · rename_i hlt
            split at h
            · rename_i sz hsz
              obtain ⟨u, hu1, hu2⟩ := part_snd (P := P) hA.1 hA.2 h
              refine ⟨u, ?_, hu2⟩
              simp only [Instr.index, Sem.run_bind, asIntOf, Sem.run_pure, Result.andThen_ok, run_underlying hu, if_pos (show 0 ≤ n ∧ n < (len : Int) from ⟨h0, hlt⟩), run_sizeOf' hsz, hu1]
            · cases h
          · cases h
        · cases h
      · cases h
    · cases h
  · cases h

def dun (op : UnOp) (x : PV) : Option PV :=
  match op, x with
  | .neg, .int k n => some (.int k (k.wrap (0 - n)))
  | .xor, .int k n => some (.int k (bits .xor k (if k.signed then -1 else k.max) n))
  | .not, .bool b => some (.bool (!b))
  | _, _ => none

theorem un_snd {P : Program} {w : World} {ρ : Rl} {op : UnOp} {x : PV} {v : Value} (hx : VR w ρ x v) {y : PV} (h : dun op x = some y) : ∃ u, (Op.unary op v).run P w = .ok u w ∧ VR w ρ y u := by
  unfold dun at h
  split at h
  · cases hx; simp at h; subst h; exact ⟨_, by simp [Op.unary, Op.intArith], .int _ _⟩
  · cases hx; simp at h; subst h; exact ⟨_, by simp only [Op.unary, intBits_xor]; rfl, .int _ _⟩
  · cases hx; simp at h; subst h; exact ⟨_, by simp [Op.unary], .bool _⟩
  · cases h

def dconv (P : Program) (s d : TypeId) (x : PV) : Option PV :=
  match P.underlying s, P.underlying d, x with
  | some _, some (.int k), .int _ n => some (.int k (k.wrap n))
  | some .string, some .string, .str b => some (.str b)
  | _, _, _ => none

theorem conv_snd {P : Program} {w : World} {ρ : Rl} {s d : TypeId} {x : PV} {v : Value} (hx : VR w ρ x v) {y : PV} (h : dconv P s d x = some y) : ∃ u, (convert s d v).run P w = .ok u w ∧ VR w ρ y u := by
  unfold dconv at h
  split at h
  · rename_i ds k kk n hs hd
    cases hx; simp at h; subst h
    exact ⟨_, by simp [convert, run_underlying hs, run_underlying hd, Conv.intToInt], .int _ _⟩
  · rename_i b hs hd
    cases hx; simp at h; subst h
    exact ⟨_, by simp [convert, run_underlying hs, run_underlying hd], .str _⟩
  · cases h

def dlen (P : Program) (H : List Blk) (t : TypeId) (x : PV) : Option PV :=
  match P.underlying t with
  | some .string => match x with
    | .str s => some (.int .i64 s.size)
    | _ => none
  | some (.slice _) => match x with
    | .nils => some (.int .i64 0)
    | .lst xs _ => some (.int .i64 xs.length)
    | .row _ _ n _ _ => some (.int .i64 n)
    | _ => none
  | some (.map _ _) => match x with
    | .nilm => some (.int .i64 0)
    | .map r => match H.getD r .dead with
      | .map es => some (.int .i64 es.length)
      | _ => none
    | _ => none
  | some (.array n _) => some (.int .i64 n)
  | _ => none

theorem len_snd {P : Program} {w : World} {ρ : Rl} {H : List Blk} (hH : HR w ρ H) {t ty : TypeId} {x : PV} {v : Value} (hx : VR w ρ x v) {y : PV} (h : dlen P H t x = some y) :
    ∃ u, (Builtin.len_ #[t] ty #[v]).run P w = .ok u w ∧ VR w ρ y u := by
  unfold dlen at h
  split at h
  · rename_i hu
    split at h
    · cases hx; simp at h; subst h; exact ⟨_, run_len_string w t ty _ hu, .int _ _⟩
    · cases h
  · rename_i e hu
    have hue : P.underlying t = some (.slice (P.elem t)) := by rw [elem_slice hu]; exact hu
    split at h
    · cases hx; simp at h; subst h; exact ⟨_, run_len_slice w t ty _ _ _ hue, .int _ _⟩
    · cases hx <;> (simp at h; subst h; exact ⟨_, run_len_slice w t ty _ _ _ hue, .int _ _⟩)
    · cases hx; simp at h; subst h; exact ⟨_, run_len_slice w t ty _ _ _ hue, .int _ _⟩
    · cases h
  · rename_i k e hu
    split at h
    · cases hx; simp at h; subst h
      exact ⟨.int .i64 0, by simp [Builtin.len_, run_underlying hu, goInt], .int _ _⟩
    · split at h
      · rename_i r es hes
        simp at h; subst h
        obtain ⟨b, ents, rfl, hw, hsz, _⟩ := map_of hH hes hx
        exact ⟨.int .i64 ents.size, by simp [Builtin.len_, run_underlying hu, run_getObj_map w b ents _ hw, goInt], by rw [hsz]; exact .int _ _⟩
      · cases h
    · cases h
  · rename_i n e hu
    simp at h; subst h
    refine ⟨.int .i64 n, ?_, .int _ _⟩
    have e : Builtin.len_ #[t] ty #[v] = (do
      match ← underlying t, v with
      | .string, .string s => pure (goInt s.size)
      | .array n _, _ => pure (goInt n)
      | .pointer arr, _ =>
        let .array n _ ← underlying arr | stuck "len: pointer to array expected"
        pure (goInt n)
      | .slice _, .slice _ n _ => pure (goInt n)
      | .map _ _, .map none | .chan _ _, .chan none => pure (goInt 0)
      | .map _ _, .map (some r) =>
        let .map entries _ ← getObj r | stuck "len: map expected"
        pure (goInt entries.size)
      | .chan _ _, .chan (some r) =>
        let .chan _ buf _ _ _ timer ← getObj r | stuck "len: channel expected"
        pure (goInt (if timer then 0 else buf.size))
      | _, _ => stuck "len: string, array, pointer to array, slice, map or channel expected") := rfl
    rw [e]
    simp only [Sem.run_bind, run_underlying hu, Result.andThen_ok]
    rfl
  · cases h

def dmin (x y : PV) : Option PV :=
  match x, y with
  | .int k a, .int k' b => if k = k' then some (.int k (if b < a then b else a)) else none
  | _, _ => none

def dmax (x y : PV) : Option PV :=
  match x, y with
  | .int k a, .int k' b => if k = k' then some (.int k (if a < b then b else a)) else none
  | _, _ => none

def dfold (f : PV → PV → Option PV) : PV → List PV → Option PV
  | x, [] => some x
  | x, y :: r => match f x y with
    | some z => dfold f z r
    | none => none

theorem min_snd {P : Program} {w : World} {ρ : Rl} : ∀ (ys : List PV) (vs : List Value) (x : PV) (u : Value) (z : PV), VR w ρ x u → vs.length = ys.length → (∀ i, i < ys.length → VR w ρ (ys.getD i .undef) (vs.getD i Go.undef)) →
    dfold dmin x ys = some z → ∃ r, (vs.foldlM Builtin.min2 u).run P w = .ok r w ∧ VR w ρ z r
  | [], [], x, u, z, hx, _, _, h => by simp [dfold] at h; subst h; exact ⟨u, rfl, hx⟩
  | [], _ :: _, _, _, _, _, hl, _, _ => by simp at hl
  | _ :: _, [], _, _, _, _, hl, _, _ => by simp at hl
  | y :: ys, v :: vs, x, u, z, hx, hl, hv, h => by
    have h0 : VR w ρ y v := by simpa using hv 0 (by simp)
    unfold dfold at h
    split at h
    · rename_i z' hz
      unfold dmin at hz
      split at hz
      · cases hx; cases h0
        split at hz
        · rename_i hk; subst hk
          simp at hz; subst hz
          obtain ⟨r, h1, h2⟩ := min_snd ys vs _ _ z (.int _ _) (by simpa using hl) (fun i hi => by simpa using hv (i + 1) (by simpa using hi)) h
          exact ⟨r, by simp only [List.foldlM_cons, Sem.run_bind, Builtin.min2, Sem.run_pure, Result.andThen_ok]; exact h1, h2⟩
        · cases hz
      · cases hz
    · cases h

theorem max_snd {P : Program} {w : World} {ρ : Rl} : ∀ (ys : List PV) (vs : List Value) (x : PV) (u : Value) (z : PV), VR w ρ x u → vs.length = ys.length → (∀ i, i < ys.length → VR w ρ (ys.getD i .undef) (vs.getD i Go.undef)) →
    dfold dmax x ys = some z → ∃ r, (vs.foldlM Builtin.max2 u).run P w = .ok r w ∧ VR w ρ z r
  | [], [], x, u, z, hx, _, _, h => by simp [dfold] at h; subst h; exact ⟨u, rfl, hx⟩
  | [], _ :: _, _, _, _, _, hl, _, _ => by simp at hl
  | _ :: _, [], _, _, _, _, hl, _, _ => by simp at hl
  | y :: ys, v :: vs, x, u, z, hx, hl, hv, h => by
    have h0 : VR w ρ y v := by simpa using hv 0 (by simp)
    unfold dfold at h
    split at h
    · rename_i z' hz
      unfold dmax at hz
      split at hz
      · cases hx; cases h0
        split at hz
        · rename_i hk; subst hk
          simp at hz; subst hz
          obtain ⟨r, h1, h2⟩ := max_snd ys vs _ _ z (.int _ _) (by simpa using hl) (fun i hi => by simpa using hv (i + 1) (by simpa using hi)) h
          exact ⟨r, by simp only [List.foldlM_cons, Sem.run_bind, Builtin.max2, Sem.run_pure, Result.andThen_ok]; exact h1, h2⟩
        · cases hz
      · cases hz
    · cases h

def dbuiltin (P : Program) (H : List Blk) (b : Builtin) (ts : Array TypeId) (args : List PV) : Option PV :=
  match b with
  | .len => match ts.toList, args with
    | [t], [x] => dlen P H t x
    | _, _ => none
  | .min => match args with
    | x :: r => dfold dmin x r
    | [] => none
  | .max => match args with
    | x :: r => dfold dmax x r
    | [] => none
  | _ => none

theorem AV.cons_inv {w : World} {ρ : Rl} {x : PV} {xs : List PV} {vs : Array Value} (h : AV w ρ (x :: xs) vs) : ∃ v r, vs = (v :: r).toArray ∧ VR w ρ x v ∧ r.length = xs.length ∧ ∀ i, i < xs.length → VR w ρ (xs.getD i .undef) (r.getD i Go.undef) := by
  obtain ⟨l⟩ := vs
  cases l with
  | nil => have := h.1; simp at this
  | cons v r =>
    refine ⟨v, r, rfl, ?_, by simpa using h.1, fun i hi => ?_⟩
    · simpa using h.2 0 (by simp)
    · simpa using h.2 (i + 1) (by simpa using hi)

theorem builtin_snd {P : Program} {w : World} {ρ : Rl} {H : List Blk} (hH : HR w ρ H) {b : Builtin} {ts : Array TypeId} {ty : TypeId} {cs : Array Bool} {args : List PV} {vs : Array Value} (hA : AV w ρ args vs) {y : PV}
    (h : dbuiltin P H b ts args = some y) : ∃ u, (builtin b ts ty cs vs).run P w = .ok (.value u) w ∧ VR w ρ y u := by
  unfold dbuiltin at h
  split at h
  · split at h
    · rename_i t x ht
      obtain ⟨v, r, rfl, hv, hr, _⟩ := hA.cons_inv
      obtain rfl : r = [] := by cases r; rfl; simp at hr
      obtain ⟨l⟩ := ts
      simp at ht; subst ht
      obtain ⟨u, hu1, hu2⟩ := len_snd (P := P) (ty := ty) hH hv h
      exact ⟨u, by simp only [builtin, Sem.run_bind, hu1, Result.andThen_ok, Sem.run_pure], hu2⟩
    · cases h
  · split at h
    · rename_i x r
      obtain ⟨v, r', rfl, hv, hr, hrv⟩ := hA.cons_inv
      obtain ⟨u, hu1, hu2⟩ := min_snd (P := P) r r' x v y hv hr hrv h
      exact ⟨u, by simp only [builtin, Builtin.min_, Sem.run_bind, hu1, Result.andThen_ok, Sem.run_pure], hu2⟩
    · cases h
  · split at h
    · rename_i x r
      obtain ⟨v, r', rfl, hv, hr, hrv⟩ := hA.cons_inv
      obtain ⟨u, hu1, hu2⟩ := max_snd (P := P) r r' x v y hv hr hrv h
      exact ⟨u, by simp only [builtin, Builtin.max_, Sem.run_bind, hu1, Result.andThen_ok, Sem.run_pure], hu2⟩
    · cases h
  · cases h

def dassert (P : Program) (x : PV) (asserted : TypeId) (ok : Bool) : Option PV :=
  match P.underlying asserted with
  | some (.interface _) => none
  | some _ => match x with
    | .iface t v => if t = asserted then some (if ok then .tuple [v, .bool true] else v) else none
    | _ => none
  | none => none

theorem assert_snd {P : Program} {w : World} {ρ : Rl} {x : PV} {v : Value} (hx : VR w ρ x v) {xt asserted : TypeId} {ok : Bool} {y : PV} (h : dassert P x asserted ok = some y) :
    ∃ u, (Instr.typeAssert v xt asserted ok).run P w = .ok u w ∧ VR w ρ y u := by
  unfold dassert at h
  split at h
  · cases h
  · rename_i d hd hu
    split at h
    · rename_i t x'
      split at h
      · rename_i ht; subst ht
        simp at h; subst h
        cases hx with
        | @iface _ _ v' hv =>
          refine ⟨if ok then .tuple #[v', .bool true] else v', ?_, ?_⟩
          · simp only [Instr.typeAssert, Sem.run_bind, run_underlying hu, Result.andThen_ok]
            cases d <;> first | (exact absurd rfl (hd _)) | (simp only [if_true]; rfl)
          · cases ok
            · simpa using hv
            · simpa using tuple2 hv (.bool true)
      · cases h
    · cases h
  · cases h

/-- ALL OPERATIONS THAT ONLY LOOK. -/
def dread (P : Program) (E : TypeId → Bool) (H : List Blk) (f : Operand → PV) (o : Op) : Option PV :=
  match o with
  | .move x | .assign x => some (f x)
  | .pick c a b => match f c with
    | .bool true => some (f a)
    | .bool false => some (f b)
    | _ => none
  | .build t parts => dbuild P t (parts.toList.map fun (i, x) => (i, f x))
  | .load t a => match aggT P t, szT P t, behind H (f a) with
    | some b, some n, some cs => pick1 b n cs
    | _, _, _ => none
  | .nilCheck x => match f x with
    | .ptr r off => some (.ptr r off)
    | .rptr cs => some (.rptr cs)
    | _ => none
  | .binOp op t x y _ => dbin P E op t (isCst x || isCst y) (f x) (f y)
  | .unOp op _ x => dun op (f x)
  | .convert s d x => dconv P s d (f x)
  | .makeInterface t x => match P.underlying t with
    | some (.interface _) => none
    | some _ => some (.iface t (f x))
    | none => none
  | .makeFunc fn first caps => if first.isEmpty then some (.func fn (caps.toList.map f)) else none
  | .slice t x lo hi mx => dslice P H t (f x) (lo.map f) (hi.map f) (mx.map f)
  | .fieldAddr s x i => dfieldAddr P s (f x) i
  | .field t x i => dfield P t (f x) i
  | .indexAddr t x i => dindexAddr P t (f x) (f i)
  | .index t x i => dindex P t (f x) (f i)
  | .lookup t m k ok => dlookup P E H t (f m) (f k) ok
  | .typeAssert x _ a ok => dassert P (f x) a ok
  | .extract t i => match f t with
    | .tuple vs => vs[i]?
    | _ => none
  | .call { callee := .builtin b, args, argTypes } => dbuiltin P H b argTypes (args.toList.map f)
  | _ => none

theorem OV.map {w : World} {ρ : Rl} {f : Operand → PV} {g : Operand → Value} (h : ∀ x, VR w ρ (f x) (g x)) (o : Option Operand) : OV w ρ (o.map f) (o.map g) := by
  cases o with
  | none => exact .none
  | some x => exact .some (h x)

theorem dread_snd {P : Program} (cx : Cx P) {w : World} {ρ : Rl} {H : List Blk} (hH : HR w ρ H) {f : Operand → PV} {g : Operand → Value} (hf : ∀ x, VR w ρ (f x) (g x)) {o : Oper} {y : PV}
    (h : dread P cx.E H f o.op = some y) : ∃ u, (execOp g o).run P w = .ok (.value u) w ∧ VR w ρ y u := by
  obtain ⟨dst, op, type, pos, after, guard⟩ := o
  have lift : ∀ {s : Sem Value} {u : Value}, s.run P w = .ok u w → (do pure (Next.value (← s)) : Sem Next).run P w = .ok (.value u) w := by
    intro s u hs
    simp only [Sem.run_bind, hs, Result.andThen_ok, Sem.run_pure]
  simp only [dread] at h
  split at h
  · rename_i x; simp at h; subst h; exact ⟨g x, rfl, hf x⟩
  · rename_i x; simp at h; subst h; exact ⟨g x, rfl, hf x⟩
  · rename_i c a b
    have hc := hf c
    split at h
    · rename_i e; rw [e] at hc; simp at h; subst h
      generalize hg : g c = gc at hc
      cases hc
      exact ⟨g a, by simp [execOp, hg, asBool], hf a⟩
    · rename_i e; rw [e] at hc; simp at h; subst h
      generalize hg : g c = gc at hc
      cases hc
      exact ⟨g b, by simp [execOp, hg, asBool], hf b⟩
    · cases h
  · rename_i t parts
    obtain ⟨u, h1, h2⟩ := build_snd (P := P) hf h
    exact ⟨u, lift h1, h2⟩
  · rename_i t a
    split at h
    · rename_i b n cs hb hn hbe
      obtain ⟨ad, had, hca⟩ := behind_cells hH (hf a) hbe
      obtain ⟨u, h1, h2⟩ := hca.load (P := P) hb hn h
      refine ⟨u, ?_, h2⟩
      simp only [execOp]
      exact lift (by rw [had]; simp only [Instr.loadAt, Instr.sureAddr, Sem.run_bind, Sem.run_pure, Result.andThen_ok, h1])
    · cases h
  · rename_i x
    have hx := hf x
    split at h
    · rename_i r off e; rw [e] at hx; simp at h; subst h
      generalize hg : g x = gx at hx
      cases hx with
      | @ptr _ b sh _ hβ => exact ⟨.pointer (some ⟨b, sh + off, none⟩), by simp [execOp, hg], .ptr off hβ⟩
    · rename_i e; rw [e] at hx; simp at h; subst h
      generalize hg : g x = gx at hx
      cases hx with
      | @rptr _ a vs h1 h2 h3 => exact ⟨.pointer (some a), by simp [execOp, hg], .rptr vs h1 h2 h3⟩
    · cases h
  · rename_i op t x y yt
    obtain ⟨u, h1, h2⟩ := dbin_snd cx (hf x) (hf y) h
    exact ⟨u, lift h1, h2⟩
  · rename_i op t x
    obtain ⟨u, h1, h2⟩ := un_snd (P := P) (hf x) h
    exact ⟨u, lift h1, h2⟩
  · rename_i s d x
    obtain ⟨u, h1, h2⟩ := conv_snd (P := P) (hf x) h
    exact ⟨u, lift h1, h2⟩
  · rename_i t x
    split at h
    · cases h
    · rename_i d hd hu
      simp at h; subst h
      refine ⟨.iface t (g x), lift ?_, .iface t (hf x)⟩
      simp only [Instr.makeInterface, Sem.run_bind, run_underlying hu, Result.andThen_ok]
      cases d <;> first | (exact absurd rfl (hd _)) | rfl
    · cases h
  · rename_i fn first caps
    split at h
    · rename_i he
      simp at h; subst h
      have hfirst : first = #[] := by simpa using he
      subst hfirst
      have hA := AV.map (w := w) (ρ := ρ) (xs := caps) hf
      exact ⟨.func fn #[] (caps.map g), lift (by simp [Instr.makeFunc]), .func fn hA.1 hA.2⟩
    · cases h
  · rename_i t x lo hi mx
    obtain ⟨u, h1, h2⟩ := slice_snd (P := P) hH (hf x) (.map hf lo) (.map hf hi) (.map hf mx) h
    exact ⟨u, lift h1, h2⟩
  · rename_i s x i
    obtain ⟨u, h1, h2⟩ := fieldAddr_snd (P := P) (hf x) h
    exact ⟨u, lift h1, h2⟩
  · rename_i t x i
    obtain ⟨u, h1, h2⟩ := field_snd (P := P) (hf x) h
    exact ⟨u, lift h1, h2⟩
  · rename_i t x i
    obtain ⟨u, h1, h2⟩ := indexAddr_snd (P := P) (hf x) (hf i) h
    exact ⟨u, lift h1, h2⟩
  · rename_i t x i
    obtain ⟨u, h1, h2⟩ := index_snd (P := P) (hf x) (hf i) h
    exact ⟨u, lift h1, h2⟩
  · rename_i t m k ok
    obtain ⟨u, h1, h2⟩ := lookup_snd cx hH (hf m) (hf k) h
    exact ⟨u, lift h1, h2⟩
  · rename_i x xt a ok
    obtain ⟨u, h1, h2⟩ := assert_snd (P := P) (xt := xt) (hf x) h
    exact ⟨u, lift h1, h2⟩
  · rename_i t i
    have ht := hf t
    split at h
    · rename_i vs e
      rw [e] at ht
      generalize hg : g t = gt at ht
      cases ht with
      | @tuple _ us hl hv =>
        have hi : i < vs.length := by
          rcases Nat.lt_or_ge i vs.length with h' | h'
          · exact h'
          · simp [List.getElem?_eq_none h'] at h
        refine ⟨us.getD i Go.undef, ?_, ?_⟩
        · have hi' : i < us.size := by omega
          simp only [execOp, hg]
          exact lift (by simp [Instr.extract, hi'])
        · have := hv i hi
          simp [List.getD, h] at this
          simpa using this
    · cases h
  · rename_i b args ts
    obtain ⟨u, h1, h2⟩ := builtin_snd (P := P) (ty := type) (cs := args.map fun | .const _ => true | _ => false) hH (AV.map (xs := args) hf) h
    refine ⟨u, ?_, h2⟩
    simp only [execOp, resolve, Sem.run_bind, Sem.run_pure, Result.andThen_ok, invoke]
    exact h1
  · cases h

end Go.MW
