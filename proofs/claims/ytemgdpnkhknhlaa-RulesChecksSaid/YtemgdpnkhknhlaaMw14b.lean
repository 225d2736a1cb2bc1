/-
  OUR OWN: pointers seen as other pointers, bytes seen as a string, the entries of Go's library that do nothing.
-/
import Derived.Test.YtemgdpnkhknhlaaMw14
import Derived.Lib.UnsafeStr
import Derived.Laws.Externs
import Derived.KernelRfl
namespace Go.MW

/-! ### pointers -/

def dconvP (P : Program) (H : List Blk) (s d : TypeId) (x : PV) : Option PV :=
  match P.underlying s, P.underlying d, x with
  | some (.pointer _), some .unsafePointer, .nilp => some .nilp
  | some .unsafePointer, some (.pointer _), .nilp => some .nilp
  | some (.pointer t), some .unsafePointer, .ptr r off => match H.getD r .dead with
    | .cells cs _ => if off < cs.length ∧ (szT P t).getD 0 ≠ 0 then some (.ptr r off) else none
    | _ => none
  | some .unsafePointer, some (.pointer u), .ptr r off => match H.getD r .dead with
    | .cells cs (some (e, true)) => if (szT P u).isSome ∧ liesAt P P.depth e (cs.length / P.cellsOf e) off u 1 = true then some (.ptr r off) else none
    | _ => none
  | _, _, _ => none

theorem szT_some {P : Program} {t : TypeId} (h : (szT P t).getD 0 ≠ 0) : ∃ n, szT P t = some n ∧ n ≠ 0 := by
  cases hs : szT P t with
  | none => rw [hs] at h; exact absurd rfl h
  | some n => rw [hs] at h; exact ⟨n, rfl, h⟩

theorem convP_snd {P : Program} {w : World} {ρ : Rl} {H : List Blk} (hH : HR w ρ H) {s d : TypeId} {x : PV} {v : Value} (hx : VR w ρ x v) {y : PV} (h : dconvP P H s d x = some y) :
    ∃ u, (convert s d v).run P w = .ok u w ∧ VR w ρ y u := by
  unfold dconvP at h
  split at h
  · rename_i t hs hd
    cases hx; simp at h; subst h
    exact ⟨_, by simp [convert, run_underlying hs, run_underlying hd, Conv.unsafePointer], .nilp⟩
  · rename_i t hs hd
    cases hx; simp at h; subst h
    exact ⟨_, by simp [convert, run_underlying hs, run_underlying hd, Conv.unsafePointer], .nilp⟩
  · rename_i t r off hs hd
    split at h
    · rename_i cs tg hcs
      split at h
      · rename_i hc
        simp at h; subst h
        cases hx with
        | @ptr _ b sh _ hβ =>
          obtain ⟨hr, c, e, hcb, hsc, hS, hvs, htg⟩ := row_of hH hcs hβ
          obtain ⟨n, hn, hn0⟩ := szT_some hc.2
          have hsh : w.shape? b = some (e, c.size) := by simp [World.shape?, hcb]
          have hlt : ¬ c.size ≤ sh + off := by omega
          exact ⟨_, by simp [convert, run_underlying hs, run_underlying hd, Conv.unsafePointer, Conv.seenAt, viewAt, hsh, cellsIn, run_sizeOf' hn, hn0, hlt], .ptr off hβ⟩
      · cases h
    · cases h
  · rename_i u r off hs hd
    split at h
    · rename_i cs e hcs
      split at h
      · rename_i hc
        simp at h; subst h
        cases hx with
        | @ptr _ b sh _ hβ =>
          obtain ⟨hr, c, e0, hcb, hsc, hS, hvs, htg⟩ := row_of hH hcs hβ
          obtain ⟨rfl, rfl, hwh⟩ := htg
          have hcl : c.size = cs.length := hwh rfl
          have hsh : w.shape? b = some (e0, c.size) := by simp [World.shape?, hcb]
          obtain ⟨n, hn⟩ := Option.isSome_iff_exists.1 hc.1
          exact ⟨_, by simp [convert, run_underlying hs, run_underlying hd, Conv.unsafePointer, Conv.seenAt, viewAt, hsh, variablesAt, run_sizeOf' hn, hcl, hc.2], .ptr off hβ⟩
      · cases h
    · cases h
  · cases h

/-! ### bytes as a string -/

def byteOfPV : PV → Option UInt8
  | .int .u8 n => if 0 ≤ n ∧ n < 256 then some n.toNat.toUInt8 else none
  | _ => none

def bytesOfPV : List PV → Option (List UInt8)
  | [] => some []
  | x :: xs => match byteOfPV x, bytesOfPV xs with
    | some b, some bs => some (b :: bs)
    | _, _ => none

theorem bytesOfPV_spec : ∀ {xs : List PV} {l : List UInt8}, bytesOfPV xs = some l → l.length = xs.length ∧ ∀ (j : Nat) (x : UInt8), l[j]? = some x → xs.getD j .undef = .int .u8 x.toNat
  | [], l, h => by simp [bytesOfPV] at h; subst h; exact ⟨rfl, fun j x hj => by simp at hj⟩
  | y :: xs, l, h => by
    simp only [bytesOfPV] at h
    split at h
    · rename_i b bs hb hbs
      simp at h; subst h
      obtain ⟨h1, h2⟩ := bytesOfPV_spec hbs
      refine ⟨by simp [h1], fun j x hj => ?_⟩
      cases j with
      | zero =>
        simp at hj; subst hj
        simp only [List.getD_cons_zero]
        unfold byteOfPV at hb
        split at hb
        · rename_i n
          split at hb
          · rename_i hn
            simp at hb; subst hb
            have : n.toNat < 256 := by omega
            have e : (n.toNat.toUInt8).toNat = n.toNat := by simp [Nat.mod_eq_of_lt this]
            rw [e]
            congr 1
            omega
          · cases hb
        · cases hb
      | succ j => simpa using h2 j x (by simpa using hj)
    · cases h

def dstring (P : Program) (H : List Blk) (pt : TypeId) (p n : PV) : Option (PV × List Blk) :=
  match n with
  | .int .i64 m => if m = 0 then match p with
      | .nilp | .ptr _ _ => some (.str .empty, H)
      | _ => none
    else match p with
      | .ptr r 0 => match H.getD r .dead, P.underlying pt with
        | .cells cs (some (e, _)), some (.pointer e') => if e' = e ∧ P.cellsOf e = 1 ∧ 0 < m ∧ m ≤ cs.length ∧ m < 4611686018427387904 then
            match bytesOfPV (cs.take m.toNat) with
            | some l => some (.str ⟨l.toArray⟩, H.set r .dead)
            | none => none
          else none
        | _, _ => none
      | _ => none
  | _ => none

theorem string_snd {P : Program} {w : World} {ρ : Rl} {H : List Blk} (hH : HR w ρ H) {pt it ty : TypeId} {p n : PV} {pv nv : Value} (hp : VR w ρ p pv) (hn : VR w ρ n nv) {y : PV} {H' : List Blk}
    (h : dstring P H pt p n = some (y, H')) : ∃ w' u, (Builtin.unsafeString_ #[pt, it] ty #[pv, nv]).run P w = .ok u w' ∧ VR w' ρ y u ∧ HR w' ρ H' ∧ Step w ρ H w' ρ H' := by
  unfold dstring at h
  split at h
  · rename_i m
    cases hn
    split at h
    · rename_i hm; subst hm
      split at h
      · simp at h; obtain ⟨rfl, rfl⟩ := h
        cases hp
        exact ⟨w, _, Lib.run_unsafeString_none w pt it ty none, .str _, hH, Step.refl _ _ _⟩
      · simp at h; obtain ⟨rfl, rfl⟩ := h
        cases hp
        exact ⟨w, _, Lib.run_unsafeString_none w pt it ty _, .str _, hH, Step.refl _ _ _⟩
      · cases h
    · rename_i hm
      split at h
      · rename_i r
        split at h
        · rename_i cs e wh e' hcs hpt
          split at h
          · rename_i hc
            obtain ⟨rfl, hce, hm0, hmc, hm62⟩ := hc
            split at h
            · rename_i l hl
              simp at h; obtain ⟨rfl, rfl⟩ := h
              cases hp with
              | @ptr _ b sh _ hβ =>
                obtain ⟨hr, c, e0, hcb, hsc, hS, hvs, htg⟩ := row_of hH hcs hβ
                obtain ⟨rfl, rfl, _⟩ := htg
                obtain ⟨h1, h2⟩ := bytesOfPV_spec hl
                have hml : (l.length : Int) = m := by rw [h1]; simp; omega
                have hln : l.length ≤ cs.length := by omega
                have hsh : w.shape? b = some (e0, c.size) := by simp [World.shape?, hcb]
                have hrun := Lib.run_unsafeString_row (P := P) w pt it ty e0 hpt hce b c.size hsh l (by intro e; subst e; simp at hml; omega) (by omega) (by omega) (fun j x hj => by
                  have hjl : j < l.length := (List.getElem?_eq_some_iff.1 hj).1
                  have hv := hvs j (by omega)
                  have e1 : cs.getD j .undef = .int .u8 x.toNat := by
                    have := h2 j x hj
                    have e2 : (cs.take m.toNat).getD j .undef = cs.getD j .undef := by simp [List.getD, show j < m.toNat by omega]
                    rw [e2] at this; exact this
                  rw [e1, Nat.zero_add] at hv
                  rw [Addr.add_lit, Nat.zero_add]
                  have hjc : j < c.size := by omega
                  have : c.getD j Go.undef = .int .u8 x.toNat := by
                    generalize c.getD j Go.undef = z at hv
                    cases hv; rfl
                  simp [hjc] at this
                  simp [World.cell?, hcb, hjc, this])
                rw [hml] at hrun
                have hfr : (w.freeze ⟨b, 0, none⟩ l.length).heap[b]? = some (.cells c e0 (if (0 : Nat) == 0 then (0, 0 + l.length) else (min 0 0, max 0 (0 + l.length)))) := by
                  unfold World.freeze
                  rw [if_neg (by omega)]
                  simp only [Array.getElem?_modify, if_true, hcb, Option.map_some]
                have hoth : ∀ k, k ≠ b → (w.freeze ⟨b, 0, none⟩ l.length).heap[k]? = w.heap[k]? := by
                  intro k hk
                  unfold World.freeze
                  rw [if_neg (by omega)]
                  simp only [Array.getElem?_modify]
                  rw [if_neg (Ne.symm hk)]
                have hsize : (w.freeze ⟨b, 0, none⟩ l.length).heap.size = w.heap.size := by
                  unfold World.freeze
                  split <;> simp
                have hos : (w.freeze ⟨b, 0, none⟩ l.length).os = w.os := by unfold World.freeze; split <;> rfl
                have htp : (w.freeze ⟨b, 0, none⟩ l.length).tape = w.tape := by unfold World.freeze; split <;> rfl
                have hou : (w.freeze ⟨b, 0, none⟩ l.length).output = w.output := by unfold World.freeze; split <;> rfl
                obtain ⟨h3, h4⟩ := put_step (blk := .dead) hH hr (by rw [hcs]; simp) hβ hoth hsize (fun c1 e1 f1 q => by
                  rw [hcb] at q; simp at q; obtain ⟨rfl, rfl, rfl⟩ := q
                  exact ⟨_, _, _, hfr, rfl⟩) hos htp hou (fun _ => trivial)
                exact ⟨_, _, hrun, .str _, h3, h4⟩
            · cases h
          · cases h
        · cases h
      · cases h
  · cases h

def dsliceData (x : PV) : Option PV :=
  match x with
  | .nils => some .nilp
  | .row r off len _ _ => if 0 < len then some (.ptr r off) else none
  | _ => none

theorem sliceData_snd {P : Program} {w : World} {ρ : Rl} {x y : PV} {v : Value} (hx : VR w ρ x v) (ts : Array TypeId) (ty : TypeId) (h : dsliceData x = some y) :
    ∃ u, (Builtin.unsafeSliceData_ ts ty #[v]).run P w = .ok u w ∧ VR w ρ y u := by
  unfold dsliceData at h
  split at h
  · simp at h; subst h
    cases hx
    exact ⟨_, Lib.run_unsafeSliceData_nil w ts ty 0 0, .nilp⟩
  · split at h
    · rename_i hl
      simp at h; subst h
      cases hx with
      | @row _ b sh off len sz _ cap hβ hcap ht hroom => exact ⟨_, Lib.run_unsafeSliceData_row w ts ty _ _ _ (by omega), .ptr _ hβ⟩
    · cases h
  · cases h

/-! ### the library's entries -/

def isNoEscape (fn : Func) : Bool := fn.body.isNone && fn.name == "internal/abi.NoEscape" && fn.origin == ""

theorem findNoEscape {fn : Func} (h : isNoEscape fn = true) : (fn.name == "runtime.NumGoroutine") = false ∧ fn.body.isNone = true ∧ Extern.findNext fn = none ∧ Extern.find fn = some Extern.AbiNoEscape.same := by
  simp only [isNoEscape, Bool.and_eq_true, beq_iff_eq] at h
  obtain ⟨⟨h1, h2⟩, h3⟩ := h
  have e1 : Extern.allNextRows.lookup "internal/abi.NoEscape" = none := by kernel_rfl
  have e2 : Extern.allNextRows.lookup "" = none := by kernel_rfl
  have e3 : Extern.allGenericRows.lookup "internal/abi.NoEscape" = none := by kernel_rfl
  have e4 : Extern.allTypedRows.lookup "internal/abi.NoEscape" = none := by kernel_rfl
  have e5 : Extern.allRows.lookup "internal/abi.NoEscape" = some Extern.AbiNoEscape.same := by kernel_rfl
  refine ⟨by rw [h2]; decide, h1, ?_, ?_⟩
  · simp [Extern.findNext, h2, h3, e1, e2]
  · simp [Extern.find, h2, e3, e4, e5]

/-! ### the next entry of a map -/

/-- The entries that have not come yet. -/
def leftI (n : Nat) (seen : List Nat) : List Nat := (List.range n).filter fun i => !seen.contains i

theorem run_setObj_iter {P : Program} {w : World} {b : Nat} {m : Option Nat} {s l : Nat} {seen : Array Nat} (o : Obj) (h : w.heap[b]? = some (.mapIter m s seen l)) : (setObj b o).run P w = .ok () { w with heap := w.heap.setIfInBounds b o } := by
  simp [setObj, Sem.run, h]

theorem next_snd {P : Program} {w : World} {ρ : Rl} {H : List Blk} (hH : HR w ρ H) {r m since last : Nat} {seen : List Nat} {es : List (PV × PV)} (hit : H.getD r .dead = .iter (some m) since seen last) (hes : H.getD m .dead = .map es)
    (hs : since = es.length) (hl : since ≤ last) {v : Value} (hv : VR w ρ (.iter r) v) (ty : TypeId) :
    (leftI es.length seen = [] ∧ (Instr.next v false ty).run P w = .ok (.tuple #[.bool false]) w) ∨
    ∃ i w' u, i ∈ leftI es.length seen ∧ (Instr.next v false ty).run P w = .ok u w' ∧ VR w' ρ (.tuple [.bool true, (es.getD i default).1, (es.getD i default).2]) u ∧
      HR w' ρ (H.set r (.iter (some m) since (seen ++ [i]) es.length)) ∧ Step w ρ H w' ρ (H.set r (.iter (some m) since (seen ++ [i]) es.length)) := by
  obtain ⟨b, rfl, hw, hm, hβ, hr, hS⟩ := iter_of hH hit hv
  obtain ⟨mb, hmβ, hmv⟩ := map_at hH hes
  obtain ⟨mb', ents, hmv', hwm, hsz, hE, hborn, _, hmβ', _⟩ := map_of hH hes hmv
  simp at hmv'; subst hmv'
  have hw : w.heap[b]? = some (.mapIter (some mb) since seen.toArray last) := by simpa [hmβ] using hw
  have hb : ∀ i (h : i < ents.size), ents[i].born = i := by
    intro i h
    have := hborn i (by omega)
    simpa [h] using this
  have hold : ∀ x ∈ ents.toList, x.born < since := by
    intro x hx
    obtain ⟨i, hi, rfl⟩ := List.getElem_of_mem hx
    have hi' : i < ents.size := by simpa using hi
    have : ents.toList[i].born = i := by simpa using hb i hi'
    omega
  simp only [Instr.next, Sem.run_bind, run_getObj_iter hw, Result.andThen_ok, run_getObj_map w mb ents _ hwm, next_test_false seen.toArray ents since last hold hl, Bool.false_eq_true, if_false]
  have hmem : ∀ x ∈ (Array.filter (fun e => !seen.toArray.contains e.born) ents).toList, x.born < since ∧ ∃ i, i < ents.size ∧ x = ents.getD i default ∧ x.born = i ∧ i ∉ seen := by
    intro x hx
    simp only [Array.toList_filter, List.mem_filter] at hx
    obtain ⟨i, hi, he⟩ := List.getElem_of_mem hx.1
    have hi' : i < ents.size := by simpa using hi
    subst he
    have h1 : ents.toList[i].born = i := by simpa using hb i hi'
    refine ⟨hold _ hx.1, i, hi', by simp [hi'], h1, ?_⟩
    have h2 := hx.2
    rw [h1] at h2
    simpa using h2
  have hempty : (Array.filter (fun e => !seen.toArray.contains e.born) ents).size = 0 → leftI es.length seen = [] := by
    intro h0
    unfold leftI
    rw [List.filter_eq_nil_iff]
    intro i hi
    have hi' : i < ents.size := by have := List.mem_range.1 hi; omega
    intro hc
    have : ents[i] ∈ Array.filter (fun e => !seen.toArray.contains e.born) ents := by
      rw [Array.mem_filter]
      exact ⟨Array.getElem_mem hi', by rw [hb i hi']; simpa using hc⟩
    have h1 : Array.filter (fun e => !seen.toArray.contains e.born) ents = #[] := Array.eq_empty_of_size_eq_zero h0
    rw [h1] at this
    simp at this
  generalize Array.filter (fun e => !seen.toArray.contains e.born) ents = L at hmem hempty ⊢
  have e1 : L.filter (fun x => decide (x.born < since)) = L := Array.filter_eq_self.2 (fun x hx => by simpa using (hmem x (by simpa using hx)).1)
  have e2 : L.filter (fun x => decide (x.born ≥ since)) = #[] := by
    rw [Array.filter_eq_empty_iff]
    intro x hx
    have := (hmem x (by simpa using hx)).1
    simp
    omega
  simp only [e1, e2, Array.append_empty]
  by_cases h0 : L.size = 0
  · left
    refine ⟨hempty h0, ?_⟩
    have : L = #[] := Array.eq_empty_of_size_eq_zero h0
    subst this
    simp [choose, Sem.run, Question.forced]
  · right
    have hne : L.isEmpty = false := by simp [Array.isEmpty, h0]
    simp only [hne, Bool.false_eq_true, if_false, Array.empty_append, Array.size_map]
    have hch : ∃ (j : Nat) (w1 : World), j < L.size ∧ w1.heap = w.heap ∧ w1.os = w.os ∧ w1.tape = w.tape ∧ w1.output = w.output ∧ (choose (Question.mapNext L.size)).run P w = .ok j w1 := by
      by_cases hf : L.size ≤ 1
      · exact ⟨0, w, by omega, rfl, rfl, rfl, rfl, by simp [choose, Sem.run, Question.forced, hf]⟩
      · exact ⟨_, w.drew, Nat.mod_lt _ (by omega), rfl, rfl, rfl, rfl, by
          simp only [choose, Sem.run, Question.forced, decide_eq_true_eq, hf, if_false, Question.cut]
          rfl⟩
    obtain ⟨j, w1, hj, hh1, ho1, ht1, hu1, hrun⟩ := hch
    obtain ⟨hlt, i, hi, he, hbi, hns⟩ := hmem L[j] (by simp)
    have hw1 : w1.heap[b]? = some (.mapIter (some mb) since seen.toArray last) := by rw [hh1]; exact hw
    have hbs : b < w1.heap.size := (Array.getElem?_eq_some_iff.1 hw1).1
    obtain ⟨h1, h2⟩ := put_step (w' := { w1 with heap := w1.heap.setIfInBounds b (.mapIter (some mb) since (seen.toArray.push i) es.length) }) hH hr (by rw [hit]; simp) hβ
      (fun k hk => by simp [Array.getElem?_setIfInBounds_ne (Ne.symm hk), hh1]) (by simp [hh1]) (fun c e f hc => by rw [hw] at hc; cases hc) ho1 ht1 hu1
      (blk := .iter (some m) since (seen ++ [i]) es.length) (fun hle => ⟨hS, rfl, by simp [hmβ, hbs], fun r' hr' => by cases hr'; exact ⟨_, hmβ⟩⟩)
    have hent := ents_at hE (by omega : i < es.length)
    refine ⟨i, _, .tuple #[.bool true, L[j].key, L[j].val], ?_, ?_, ?_, h1, h2⟩
    · unfold leftI
      rw [List.mem_filter]
      exact ⟨List.mem_range.2 (by omega), by simpa using hns⟩
    · simp only [hrun, Array.getElem?_map, Array.getElem?_eq_getElem hj, Option.map_some, Sem.run_bind, run_setObj_iter _ hw1, Result.andThen_ok, hbi]
      rfl
    · rw [he]
      refine .tuple rfl fun t ht => ?_
      match t, ht with
      | 0, _ => exact .bool _
      | 1, _ => exact hent.1.mono h2.le
      | 2, _ => exact hent.2.mono h2.le

/-- The next entry, where it is one alone. -/
def dnext (H : List Blk) (x : PV) (isStr : Bool) : Option (PV × List Blk) :=
  if isStr then none else match x with
  | .iter r => match H.getD r .dead with
    | .iter none _ _ _ => some (.tuple [.bool false], H)
    | .iter (some m) since seen last => match H.getD m .dead with
      | .map es => if since = es.length ∧ since ≤ last then match leftI es.length seen with
          | [] => some (.tuple [.bool false], H)
          | [i] => some (.tuple [.bool true, (es.getD i default).1, (es.getD i default).2], H.set r (.iter (some m) since (seen ++ [i]) es.length))
          | _ => none
        else none
      | _ => none
    | _ => none
  | _ => none

theorem dnext_snd {P : Program} {w : World} {ρ : Rl} {H : List Blk} (hH : HR w ρ H) {x : PV} {v : Value} (hx : VR w ρ x v) {isStr : Bool} {y : PV} {H' : List Blk} (ty : TypeId) (h : dnext H x isStr = some (y, H')) :
    ∃ w' u, (Instr.next v isStr ty).run P w = .ok u w' ∧ VR w' ρ y u ∧ HR w' ρ H' ∧ Step w ρ H w' ρ H' := by
  have no : VR w ρ (.tuple [.bool false]) (.tuple #[.bool false]) := .tuple rfl fun t ht => by
    match t, ht with
    | 0, _ => exact .bool _
  unfold dnext at h
  split at h
  · cases h
  · rename_i hs
    simp only [Bool.not_eq_true] at hs
    subst hs
    split at h
    · rename_i r
      split at h
      · rename_i since seen last hit
        simp only [Option.some.injEq, Prod.mk.injEq] at h; obtain ⟨rfl, rfl⟩ := h
        obtain ⟨b, rfl, hw, _⟩ := iter_of hH hit hx
        exact ⟨w, _, by simp only [Instr.next, Sem.run_bind, run_getObj_iter (show w.heap[b]? = some (.mapIter none since seen.toArray last) from hw), Result.andThen_ok]; rfl, no, hH, Step.refl _ _ _⟩
      · rename_i m since seen last hit
        split at h
        · rename_i es hes
          split at h
          · rename_i hc
            have hn := next_snd (P := P) hH hit hes hc.1 hc.2 hx ty
            split at h
            · rename_i hle
              simp only [Option.some.injEq, Prod.mk.injEq] at h; obtain ⟨rfl, rfl⟩ := h
              rcases hn with ⟨_, hr⟩ | ⟨i, w', u, hi, _⟩
              · exact ⟨w, _, hr, no, hH, Step.refl _ _ _⟩
              · rw [hle] at hi; simp at hi
            · rename_i i0 hle
              simp only [Option.some.injEq, Prod.mk.injEq] at h; obtain ⟨rfl, rfl⟩ := h
              rcases hn with ⟨h0, _⟩ | ⟨i, w', u, hi, h1, h2, h3, h4⟩
              · rw [hle] at h0; cases h0
              · rw [hle] at hi
                obtain rfl : i = i0 := by simpa using hi
                exact ⟨w', u, h1, h2, h3, h4⟩
            · cases h
          · cases h
        · cases h
      · cases h
    · cases h

/-! ### all operations without a call of the program's own -/

def dmore (P : Program) (H : List Blk) (f : Operand → PV) (o : Op) : Option (PV × List Blk) :=
  match o with
  | .convert s d x => (dconvP P H s d (f x)).map fun v => (v, H)
  | .next it b => dnext H (f it) b
  | .call { callee := .builtin .unsafeSliceData, args, .. } => match args.toList with
    | [x] => (dsliceData (f x)).map fun v => (v, H)
    | _ => none
  | .call { callee := .builtin .unsafeString, args, argTypes } => match args.toList, argTypes.toList with
    | [x, y], [pt, _] => dstring P H pt (f x) (f y)
    | _, _ => none
  | .call { callee := .value c, args, .. } => match f c, args.toList with
    | .func (.func g) [], [x] => match P.funcs[g]? with
      | some fn => if isNoEscape fn then some (f x, H) else none
      | none => none
    | _, _ => none
  | _ => none

theorem more_snd {P : Program} {w : World} {ρ : Rl} {H : List Blk} (hH : HR w ρ H) {f : Operand → PV} {g : Operand → Value} (hf : ∀ x, VR w ρ (f x) (g x)) {o : Oper} {y : PV} {H' : List Blk}
    (h : dmore P H f o.op = some (y, H')) : OpS P (execOp g o) w ρ H y H' := by
  obtain ⟨dst, op, type, pos, after, guard⟩ := o
  unfold dmore at h
  dsimp only at h
  split at h
  · rename_i s d x
    cases hd : dconvP P H s d (f x) with
    | none => simp [hd] at h
    | some v =>
      simp [hd] at h; obtain ⟨rfl, rfl⟩ := h
      obtain ⟨u, h1, h2⟩ := convP_snd (P := P) hH (hf x) hd
      exact ⟨w, ρ, .value u, u, by simp only [execOp, Sem.run_bind, h1, Result.andThen_ok, Sem.run_pure], .inl rfl, h2, hH, Step.refl _ _ _⟩
  · rename_i it b
    obtain ⟨w', u, h1, h2, h3, h4⟩ := dnext_snd (P := P) hH (hf it) type h
    exact ⟨w', ρ, .value u, u, by simp only [execOp, Sem.run_bind, h1, Result.andThen_ok, Sem.run_pure], .inl rfl, h2, h3, h4⟩
  · rename_i args ts
    split at h
    · rename_i x ha
      obtain ⟨al⟩ := args
      simp only at ha; subst ha
      cases hd : dsliceData (f x) with
      | none => simp [hd] at h
      | some v =>
        simp [hd] at h; obtain ⟨rfl, rfl⟩ := h
        obtain ⟨u, h1, h2⟩ := sliceData_snd (P := P) (hf x) ts type hd
        refine ⟨w, ρ, .value u, u, ?_, .inl rfl, h2, hH, Step.refl _ _ _⟩
        simp only [execOp, resolve, Sem.run_bind, Sem.run_pure, Result.andThen_ok, invoke, builtin, List.map_toArray, List.map_cons, List.map_nil, h1]
    · cases h
  · rename_i args ts
    split at h
    · rename_i x y pt it ha ht
      obtain ⟨al⟩ := args
      obtain ⟨tl⟩ := ts
      simp only at ha ht
      subst ha; subst ht
      obtain ⟨w', u, h1, h2, h3, h4⟩ := string_snd (it := it) (ty := type) hH (hf x) (hf y) h
      refine ⟨w', ρ, .value u, u, ?_, .inl rfl, h2, h3, h4⟩
      simp only [execOp, resolve, Sem.run_bind, Sem.run_pure, Result.andThen_ok, invoke, builtin, List.map_toArray, List.map_cons, List.map_nil, h1]
    · cases h
  · rename_i c args ts
    split at h
    · rename_i gf x e ha
      have hc := hf c
      rw [e] at hc
      obtain ⟨al⟩ := args
      simp only at ha; subst ha
      split at h
      · rename_i fn hfn
        split at h
        · rename_i hne
          simp at h; obtain ⟨rfl, rfl⟩ := h
          obtain ⟨h1, h2, h3, h4⟩ := findNoEscape hne
          generalize hg : g c = gc at hc
          cases hc with
          | @func _ _ vs hl hv =>
            have hvs : vs = #[] := by simpa using hl
            subst hvs
            refine ⟨w, ρ, .value (g x), g x, ?_, .inl rfl, hf x, hH, Step.refl _ _ _⟩
            have := run_callFunc_extern hfn h1 h2 h3 h4 #[g x] w
            have e1 : (Extern.AbiNoEscape.same #[g x]).run P w = .ok (g x) w := rfl
            simp only [e1, Result.andThen_ok] at this
            simp only [execOp, resolve, hg, Deferred.ofValue, Sem.run_bind, Sem.run_pure, Result.andThen_ok, invoke, Array.empty_append, List.map_toArray, List.map_cons, List.map_nil, Array.append_empty]
            exact this
        · cases h
      · cases h
    · cases h
  · cases h

def deff (P : Program) (E : TypeId → Bool) (H : List Blk) (f : Operand → PV) (o : Op) : Option (PV × List Blk) :=
  match deff0 P E H f o with
  | some r => some r
  | none => dmore P H f o

theorem deff_snd {P : Program} (cx : Cx P) {w : World} {ρ : Rl} {H : List Blk} (hH : HR w ρ H) {f : Operand → PV} {g : Operand → Value} (hf : ∀ x, VR w ρ (f x) (g x)) {o : Oper} {y : PV} {H' : List Blk}
    (h : deff P cx.E H f o.op = some (y, H')) : OpS P (execOp g o) w ρ H y H' := by
  unfold deff at h
  split at h
  · rename_i r hr
    simp at h; subst h
    exact deff0_snd cx hH hf hr
  · exact more_snd hH hf h

end Go.MW
