/-
  OUR OWN: pointers seen as other pointers, bytes seen as a string, the entries of Go's library that do nothing.
-/
import Derived.Test.YtfieobmlocgcnaaDoorMw14
import Derived.Lib.UnsafeStr
import Derived.Laws.Externs
import Derived.KernelRfl
namespace Go.MW

/-! ### pointers -/

def dconvP (P : Program) (H : List Blk) (s d : TypeId) (x : PV) : Option PV :=
  match P.underlying s, P.underlying d, x with
  | some (.pointer _), some .unsafePointer, .nilp => some .nilp
  | some .unsafePointer, some (.pointer _), .nilp => some .nilp
  | some (.pointer t), some .unsafePointer, .ptr r off => match H.getD r .dead with
    | .cells cs _ => if off < cs.length ∧ (szT P t).getD 0 ≠ 0 then some (.ptr r off) else none
    | _ => none
  | some .unsafePointer, some (.pointer u), .ptr r off => match H.getD r .dead with
    | .cells cs (some (e, true)) => if (szT P u).isSome ∧ liesAt P P.depth e (cs.length / P.cellsOf e) off u 1 = true then some (.ptr r off) else none
    | _ => none
  | _, _, _ => none

theorem szT_some {P : Program} {t : TypeId} (h : (szT P t).getD 0 ≠ 0) : ∃ n, szT P t = some n ∧ n ≠ 0 := by
  cases hs : szT P t with
  | none => rw [hs] at h; exact absurd rfl h
  | some n => rw [hs] at h; exact ⟨n, rfl, h⟩

theorem convP_snd {P : Program} {w : World} {ρ : Rl} {H : List Blk} (hH : HR w ρ H) {s d : TypeId} {x : PV} {v : Value} (hx : VR w ρ x v) {y : PV} (h : dconvP P H s d x = some y) :
    ∃ u, (convert s d v).run P w = .ok u w ∧ VR w ρ y u := by
  unfold dconvP at h
  split at h
  · rename_i t hs hd
    cases hx; simp at h; subst h
    exact ⟨_, by simp [convert, run_underlying hs, run_underlying hd, Conv.unsafePointer], .nilp⟩
  · rename_i t hs hd
    cases hx; simp at h; subst h
    exact ⟨_, by simp [convert, run_underlying hs, run_underlying hd, Conv.unsafePointer], .nilp⟩
  · rename_i t r off hs hd
    split at h
    · rename_i cs tg hcs
      split at h
      · rename_i hc
        simp at h; subst h
        cases hx with
        | @ptr _ b sh _ hβ =>
          obtain ⟨hr, c, e, hcb, hsc, hS, hvs, htg⟩ := row_of hH hcs hβ
          obtain ⟨n, hn, hn0⟩ := szT_some hc.2
          have hsh : w.shape? b = some (e, c.size) := by simp [World.shape?, hcb]
          have hlt : ¬ c.size ≤ sh + off := by omega
          exact ⟨_, by simp [convert, run_underlying hs, run_underlying hd, Conv.unsafePointer, Conv.seenAt, viewAt, hsh, cellsIn, run_sizeOf' hn, hn0, hlt], .ptr off hβ⟩
      · cases h
    · cases h
  · rename_i u r off hs hd
    split at h
    · rename_i cs e hcs
      split at h
      · rename_i hc
        simp at h; subst h
        cases hx with
        | @ptr _ b sh _ hβ =>
          obtain ⟨hr, c, e0, hcb, hsc, hS, hvs, htg⟩ := row_of hH hcs hβ
          obtain ⟨rfl, rfl, hwh⟩ := htg
          have hcl : c.size = cs.length := hwh rfl
          have hsh : w.shape? b = some (e0, c.size) := by simp [World.shape?, hcb]
          obtain ⟨n, hn⟩ := Option.isSome_iff_exists.1 hc.1
          exact ⟨_, by simp [convert, run_underlying hs, run_underlying hd, Conv.unsafePointer, Conv.seenAt, viewAt, hsh, variablesAt, run_sizeOf' hn, hcl, hc.2], .ptr off hβ⟩
      · cases h
    · cases h
  · cases h

/-! ### bytes as a string -/

def byteOfPV : PV → Option UInt8
  | .int .u8 n => if 0 ≤ n ∧ n < 256 then some n.toNat.toUInt8 else none
  | _ => none

def bytesOfPV : List PV → Option (List UInt8)
  | [] => some []
  | x :: xs => match byteOfPV x, bytesOfPV xs with
    | some b, some bs => some (b :: bs)
    | _, _ => none

theorem bytesOfPV_spec : ∀ {xs : List PV} {l : List UInt8}, bytesOfPV xs = some l → l.length = xs.length ∧ ∀ (j : Nat) (x : UInt8), l[j]? = some x → xs.getD j .undef = .int .u8 x.toNat
  | [], l, h => by simp [bytesOfPV] at h; subst h; exact ⟨rfl, fun j x hj => by simp at hj⟩
  | y :: xs, l, h => by
    simp only [bytesOfPV] at h
    split at h
    · rename_i b bs hb hbs
      simp at h; subst h
      obtain ⟨h1, h2⟩ := bytesOfPV_spec hbs
      refine ⟨by simp [h1], fun j x hj => ?_⟩
      cases j with
      | zero =>
        simp at hj; subst hj
        simp only [List.getD_cons_zero]
        unfold byteOfPV at hb
        split at hb
        · rename_i n
          split at hb
          · rename_i hn
            simp at hb; subst hb
            have : n.toNat < 256 := by omega
            have e : (n.toNat.toUInt8).toNat = n.toNat := by simp [Nat.mod_eq_of_lt this]
            rw [e]
            congr 1
            omega
          · cases hb
        · cases hb
      | succ j => simpa using h2 j x (by simpa using hj)
    · cases h

def dstring (P : Program) (H : List Blk) (pt : TypeId) (p n : PV) : Option (PV × List Blk) :=
  match n with
  | .int .i64 m => if m = 0 then match p with
      | .nilp | .ptr _ _ => some (.str .empty, H)
      | _ => none
    else match p with
      | .ptr r 0 => match H.getD r .dead, P.underlying pt with
        | .cells cs (some (e, _)), some (.pointer e') => if e' = e ∧ P.cellsOf e = 1 ∧ 0 < m ∧ m ≤ cs.length ∧ m < 4611686018427387904 then
            match bytesOfPV (cs.take m.toNat) with
            | some l => some (.str ⟨l.toArray⟩, H.set r .dead)
            | none => none
          else none
        | _, _ => none
      | _ => none
  | _ => none

theorem string_snd {P : Program} {w : World} {ρ : Rl} {H : List Blk} (hH : HR w ρ H) {pt it ty : TypeId} {p n : PV} {pv nv : Value} (hp : VR w ρ p pv) (hn : VR w ρ n nv) {y : PV} {H' : List Blk}
    (h : dstring P H pt p n = some (y, H')) : ∃ w' u, (Builtin.unsafeString_ #[pt, it] ty #[pv, nv]).run P w = .ok u w' ∧ VR w' ρ y u ∧ HR w' ρ H' ∧ Step w ρ H w' ρ H' := by
  unfold dstring at h
  split at h
  · rename_i m
    cases hn
    split at h
    · rename_i hm; subst hm
      split at h
      · simp at h; obtain ⟨rfl, rfl⟩ := h
        cases hp
        exact ⟨w, _, Lib.run_unsafeString_none w pt it ty none, .str _, hH, Step.refl _ _ _⟩
      · simp at h; obtain ⟨rfl, rfl⟩ := h
        cases hp
        exact ⟨w, _, Lib.run_unsafeString_none w pt it ty _, .str _, hH, Step.refl _ _ _⟩
      · cases h
    · rename_i hm
      split at h
      · rename_i r
        split at h
        · rename_i cs e wh e' hcs hpt
          split at h
          · rename_i hc
            obtain ⟨rfl, hce, hm0, hmc, hm62⟩ := hc
            split at h
            · rename_i l hl
              simp at h; obtain ⟨rfl, rfl⟩ := h
              cases hp with
              | @ptr _ b sh _ hβ =>
                obtain ⟨hr, c, e0, hcb, hsc, hS, hvs, htg⟩ := row_of hH hcs hβ
                obtain ⟨rfl, rfl, _⟩ := htg
                obtain ⟨h1, h2⟩ := bytesOfPV_spec hl
                have hml : (l.length : Int) = m := by rw [h1]; simp; omega
                have hln : l.length ≤ cs.length := by omega
                have hsh : w.shape? b = some (e0, c.size) := by simp [World.shape?, hcb]
                have hrun := Lib.run_unsafeString_row (P := P) w pt it ty e0 hpt hce b c.size hsh l (by intro e; subst e; simp at hml; omega) (by omega) (by omega) (fun j x hj => by
                  have hjl : j < l.length := (List.getElem?_eq_some_iff.1 hj).1
                  have hv := hvs j (by omega)
                  have e1 : cs.getD j .undef = .int .u8 x.toNat := by
                    have := h2 j x hj
                    have e2 : (cs.take m.toNat).getD j .undef = cs.getD j .undef := by simp [List.getD, show j < m.toNat by omega]
                    rw [e2] at this; exact this
                  rw [e1, Nat.zero_add] at hv
                  rw [Addr.add_lit, Nat.zero_add]
                  have hjc : j < c.size := by omega
                  have : c.getD j Go.undef = .int .u8 x.toNat := by
                    generalize c.getD j Go.undef = z at hv
                    cases hv; rfl
                  simp [hjc] at this
                  simp [World.cell?, hcb, hjc, this])
                rw [hml] at hrun
                have hfr : (w.freeze ⟨b, 0, none⟩ l.length).heap[b]? = some (.cells c e0 (if (0 : Nat) == 0 then (0, 0 + l.length) else (min 0 0, max 0 (0 + l.length)))) := by
                  unfold World.freeze
                  rw [if_neg (by omega)]
                  simp only [Array.getElem?_modify, if_true, hcb, Option.map_some]
                have hoth : ∀ k, k ≠ b → (w.freeze ⟨b, 0, none⟩ l.length).heap[k]? = w.heap[k]? := by
                  intro k hk
                  unfold World.freeze
                  rw [if_neg (by omega)]
                  simp only [Array.getElem?_modify]
                  rw [if_neg (Ne.symm hk)]
                have hsize : (w.freeze ⟨b, 0, none⟩ l.length).heap.size = w.heap.size := by
                  unfold World.freeze
                  split <;> simp
                have hos : (w.freeze ⟨b, 0, none⟩ l.length).os = w.os := by unfold World.freeze; split <;> rfl
                have htp : (w.freeze ⟨b, 0, none⟩ l.length).tape = w.tape := by unfold World.freeze; split <;> rfl
                have hou : (w.freeze ⟨b, 0, none⟩ l.length).output = w.output := by unfold World.freeze; split <;> rfl
                obtain ⟨h3, h4⟩ := put_step (blk := .dead) hH hr (by rw [hcs]; simp) hβ hoth hsize (fun c1 e1 f1 q => by
                  rw [hcb] at q; simp at q; obtain ⟨rfl, rfl, rfl⟩ := q
                  exact ⟨_, _, _, hfr, rfl⟩) hos htp hou (fun _ => trivial)
                exact ⟨_, _, hrun, .str _, h3, h4⟩
            · cases h
          · cases h
        · cases h
      · cases h
  · cases h

def dsliceData (x : PV) : Option PV :=
  match x with
  | .nils => some .nilp
  | .row r off len _ _ => if 0 < len then some (.ptr r off) else none
  | _ => none

theorem sliceData_snd {P : Program} {w : World} {ρ : Rl} {x y : PV} {v : Value} (hx : VR w ρ x v) (ts : Array TypeId) (ty : TypeId) (h : dsliceData x = some y) :
    ∃ u, (Builtin.unsafeSliceData_ ts ty #[v]).run P w = .ok u w ∧ VR w ρ y u := by
  unfold dsliceData at h
  split at h
  · simp at h; subst h
    cases hx
    exact ⟨_, Lib.run_unsafeSliceData_nil w ts ty 0 0, .nilp⟩
  · split at h
    · rename_i hl
      simp at h; subst h
      cases hx with
      | @row _ b sh off len sz _ cap hβ hcap ht hroom => exact ⟨_, Lib.run_unsafeSliceData_row w ts ty _ _ _ (by omega), .ptr _ hβ⟩
    · cases h
  · cases h

/-! ### the library's entries -/

def isNoEscape (fn : Func) : Bool := fn.body.isNone && fn.name == "internal/abi.NoEscape" && fn.origin == ""

theorem findNoEscape {fn : Func} (h : isNoEscape fn = true) : (fn.name == "runtime.NumGoroutine") = false ∧ fn.body.isNone = true ∧ Extern.findNext fn = none ∧ Extern.find fn = some Extern.AbiNoEscape.same := by
  simp only [isNoEscape, Bool.and_eq_true, beq_iff_eq] at h
  obtain ⟨⟨h1, h2⟩, h3⟩ := h
  have e1 : Extern.allNextRows.lookup "internal/abi.NoEscape" = none := by kernel_rfl
  have e2 : Extern.allNextRows.lookup "" = none := by kernel_rfl
  have e3 : Extern.allGenericRows.lookup "internal/abi.NoEscape" = none := by kernel_rfl
  have e4 : Extern.allTypedRows.lookup "internal/abi.NoEscape" = none := by kernel_rfl
  have e5 : Extern.allRows.lookup "internal/abi.NoEscape" = some Extern.AbiNoEscape.same := by kernel_rfl
  refine ⟨by rw [h2]; decide, h1, ?_, ?_⟩
  · simp [Extern.findNext, h2, h3, e1, e2]
  · simp [Extern.find, h2, e3, e4, e5]

/-! ### all operations without a call of the program's own -/

def dmore (P : Program) (H : List Blk) (f : Operand → PV) (o : Op) : Option (PV × List Blk) :=
  match o with
  | .convert s d x => (dconvP P H s d (f x)).map fun v => (v, H)
  | .call { callee := .builtin .unsafeSliceData, args, .. } => match args.toList with
    | [x] => (dsliceData (f x)).map fun v => (v, H)
    | _ => none
  | .call { callee := .builtin .unsafeString, args, argTypes } => match args.toList, argTypes.toList with
    | [x, y], [pt, _] => dstring P H pt (f x) (f y)
    | _, _ => none
  | .call { callee := .value c, args, .. } => match f c, args.toList with
    | .func (.func g) [], [x] => match P.funcs[g]? with
      | some fn => if isNoEscape fn then some (f x, H) else none
      | none => none
    | _, _ => none
  | _ => none

theorem more_snd {P : Program} {w : World} {ρ : Rl} {H : List Blk} (hH : HR w ρ H) {f : Operand → PV} {g : Operand → Value} (hf : ∀ x, VR w ρ (f x) (g x)) {o : Oper} {y : PV} {H' : List Blk}
    (h : dmore P H f o.op = some (y, H')) : OpS P (execOp g o) w ρ H y H' := by
  obtain ⟨dst, op, type, pos, after, guard⟩ := o
  unfold dmore at h
  dsimp only at h
  split at h
  · rename_i s d x
    cases hd : dconvP P H s d (f x) with
    | none => simp [hd] at h
    | some v =>
      simp [hd] at h; obtain ⟨rfl, rfl⟩ := h
      obtain ⟨u, h1, h2⟩ := convP_snd (P := P) hH (hf x) hd
      exact ⟨w, ρ, .value u, u, by simp only [execOp, Sem.run_bind, h1, Result.andThen_ok, Sem.run_pure], .inl rfl, h2, hH, Step.refl _ _ _⟩
  · rename_i args ts
    split at h
    · rename_i x ha
      obtain ⟨al⟩ := args
      simp only at ha; subst ha
      cases hd : dsliceData (f x) with
      | none => simp [hd] at h
      | some v =>
        simp [hd] at h; obtain ⟨rfl, rfl⟩ := h
        obtain ⟨u, h1, h2⟩ := sliceData_snd (P := P) (hf x) ts type hd
        refine ⟨w, ρ, .value u, u, ?_, .inl rfl, h2, hH, Step.refl _ _ _⟩
        simp only [execOp, resolve, Sem.run_bind, Sem.run_pure, Result.andThen_ok, invoke, builtin, List.map_toArray, List.map_cons, List.map_nil, h1]
    · cases h
  · rename_i args ts
    split at h
    · rename_i x y pt it ha ht
      obtain ⟨al⟩ := args
      obtain ⟨tl⟩ := ts
      simp only at ha ht
      subst ha; subst ht
      obtain ⟨w', u, h1, h2, h3, h4⟩ := string_snd (it := it) (ty := type) hH (hf x) (hf y) h
      refine ⟨w', ρ, .value u, u, ?_, .inl rfl, h2, h3, h4⟩
      simp only [execOp, resolve, Sem.run_bind, Sem.run_pure, Result.andThen_ok, invoke, builtin, List.map_toArray, List.map_cons, List.map_nil, h1]
    · cases h
  · rename_i c args ts
    split at h
    · rename_i gf x e ha
      have hc := hf c
      rw [e] at hc
      obtain ⟨al⟩ := args
      simp only at ha; subst ha
      split at h
      · rename_i fn hfn
        split at h
        · rename_i hne
          simp at h; obtain ⟨rfl, rfl⟩ := h
          obtain ⟨h1, h2, h3, h4⟩ := findNoEscape hne
          generalize hg : g c = gc at hc
          cases hc with
          | @func _ _ vs hl hv =>
            have hvs : vs = #[] := by simpa using hl
            subst hvs
            refine ⟨w, ρ, .value (g x), g x, ?_, .inl rfl, hf x, hH, Step.refl _ _ _⟩
            have := run_callFunc_extern hfn h1 h2 h3 h4 #[g x] w
            have e1 : (Extern.AbiNoEscape.same #[g x]).run P w = .ok (g x) w := rfl
            simp only [e1, Result.andThen_ok] at this
            simp only [execOp, resolve, hg, Deferred.ofValue, Sem.run_bind, Sem.run_pure, Result.andThen_ok, invoke, Array.empty_append, List.map_toArray, List.map_cons, List.map_nil, Array.append_empty]
            exact this
        · cases h
      · cases h
    · cases h
  · cases h

def deff (P : Program) (E : TypeId → Bool) (H : List Blk) (f : Operand → PV) (o : Op) : Option (PV × List Blk) :=
  match deff0 P E H f o with
  | some r => some r
  | none => dmore P H f o

theorem deff_snd {P : Program} (cx : Cx P) {w : World} {ρ : Rl} {H : List Blk} (hH : HR w ρ H) {f : Operand → PV} {g : Operand → Value} (hf : ∀ x, VR w ρ (f x) (g x)) {o : Oper} {y : PV} {H' : List Blk}
    (h : deff P cx.E H f o.op = some (y, H')) : OpS P (execOp g o) w ρ H y H' := by
  unfold deff at h
  split at h
  · rename_i r hr
    simp at h; subst h
    exact deff0_snd cx hH hf hr
  · exact more_snd hH hf h

end Go.MW
