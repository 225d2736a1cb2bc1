/-
  OUR OWN: operations that write: stores, maps, append, copy.
-/
import Derived.Test.YtemgdpnkhknhlaaMw9
namespace Go.MW

theorem getD_splice {α : Type} (d : α) (cs : List α) (off : Nat) (new : List α) (h : off + new.length ≤ cs.length) (t : Nat) :
    (cs.take off ++ new ++ cs.drop (off + new.length)).getD t d = if off ≤ t ∧ t < off + new.length then new.getD (t - off) d else cs.getD t d := by
  simp only [List.getD]
  by_cases h1 : t < off
  · rw [if_neg (by omega), List.append_assoc, List.getElem?_append_left (by simp; omega)]
    simp [h1]
  · by_cases h2 : t < off + new.length
    · rw [if_pos ⟨by omega, h2⟩, List.append_assoc, List.getElem?_append_right (by simp; omega)]
      have : (List.take off cs).length = off := by simp; omega
      rw [this, List.getElem?_append_left (by omega)]
    · rw [if_neg (by omega), List.getElem?_append_right (by simp; omega)]
      have : (List.take off cs ++ new).length = off + new.length := by simp; omega
      rw [this, List.getElem?_drop]
      congr 2; omega

/-- The row of cells that a number of cells is put into. -/
def spliced (c : Array Value) (o : Nat) (vs : List Value) : Array Value := (c.toList.take o ++ vs ++ c.toList.drop (o + vs.length)).toArray

theorem size_spliced (c : Array Value) (o : Nat) (vs : List Value) (h : o + vs.length ≤ c.size) : (spliced c o vs).size = c.size := by
  simp [spliced]; omega

theorem getD_spliced (c : Array Value) (o : Nat) (vs : List Value) (h : o + vs.length ≤ c.size) (t : Nat) :
    (spliced c o vs).getD t Go.undef = if o ≤ t ∧ t < o + vs.length then vs.getD (t - o) Go.undef else c.getD t Go.undef := by
  have := getD_splice Go.undef c.toList o vs (by simpa using h) t
  have e1 : (spliced c o vs).getD t Go.undef = (c.toList.take o ++ vs ++ c.toList.drop (o + vs.length)).getD t Go.undef := by simp [spliced]
  rw [e1, this]
  congr 1
  simp

theorem row_of {w : World} {ρ : Rl} {H : List Blk} (hH : HR w ρ H) {r : Nat} {cs : List PV} {tg : Option (TypeId × Bool)} (h : H.getD r .dead = .cells cs tg) {b sh : Nat} (hβ : ρ.β r = some (b, sh)) :
    r < H.length ∧ ∃ c e, w.heap[b]? = some (.cells c e (0, 0)) ∧ sh + cs.length ≤ c.size ∧ ¬ ρ.S b ∧ (∀ t, t < cs.length → VR w ρ (cs.getD t .undef) (c.getD (sh + t) Go.undef)) ∧ TagOk tg e sh c.size cs.length := by
  have hr : r < H.length := by
    rcases Nat.lt_or_ge r H.length with h' | h'
    · exact h'
    · simp [List.getD, List.getElem?_eq_none h'] at h
  obtain ⟨b', sh', hβ', hb⟩ := hH.blk r hr (by rw [h]; simp)
  rw [hβ] at hβ'; simp at hβ'; obtain ⟨rfl, rfl⟩ := hβ'
  rw [h] at hb
  obtain ⟨hS, c, e, hc, hs, hv, htg⟩ := hb
  exact ⟨hr, c, e, hc, hs, hS, hv, htg⟩

theorem setRow_other' (w : World) (b k : Nat) (c : Array Value) (h : k ≠ b) : (w.setRow b c).heap[k]? = w.heap[k]? := by
  simp only [World.setRow, Array.getElem?_modify]
  rw [if_neg (Ne.symm h)]

/-- Cells of an own block are written. -/
theorem cells_put {w : World} {ρ : Rl} {H : List Blk} (hH : HR w ρ H) {r b sh : Nat} {cs : List PV} {tg : Option (TypeId × Bool)} (h : H.getD r .dead = .cells cs tg) (hβ : ρ.β r = some (b, sh)) {c : Array Value} {e : TypeId}
    (hc : w.heap[b]? = some (.cells c e (0, 0))) {off : Nat} {new : List PV} {vs : Array Value} (hA : AV w ρ new vs) (hfit : off + new.length ≤ cs.length) :
    HR (w.setRow b (spliced c (sh + off) vs.toList)) ρ (H.set r (.cells (setRange cs off new) tg)) ∧ Step w ρ H (w.setRow b (spliced c (sh + off) vs.toList)) ρ (H.set r (.cells (setRange cs off new) tg)) := by
  obtain ⟨hr, c', e', hc', hs, hS, hv, htg⟩ := row_of hH h hβ
  rw [hc] at hc'; simp at hc'; obtain ⟨rfl, rfl⟩ := hc'
  have hl : vs.toList.length = new.length := by simpa using hA.1
  have hfit2 : sh + off + vs.toList.length ≤ c.size := by omega
  have hset := setRow_heap w b c (spliced c (sh + off) vs.toList) e (0, 0) hc
  refine put_step hH hr (by rw [h]; simp) hβ (fun k hk => setRow_other' w b k _ hk) (by simp) (fun c1 e1 f1 h1 => ?_) rfl rfl rfl (fun hle => ?_)
  · rw [hc] at h1; simp at h1; obtain ⟨rfl, rfl, rfl⟩ := h1
    exact ⟨_, _, _, hset, size_spliced _ _ _ hfit2⟩
  · refine ⟨hS, _, _, hset, by rw [length_setRange _ _ _ hfit, size_spliced _ _ _ hfit2]; exact hs, fun t ht => ?_, by rw [length_setRange _ _ _ hfit, size_spliced _ _ _ hfit2]; exact htg⟩
    rw [length_setRange _ _ _ hfit] at ht
    rw [getD_setRange _ _ _ hfit, getD_spliced _ _ _ hfit2, hl]
    by_cases hin : off ≤ t ∧ t < off + new.length
    · rw [if_pos hin, if_pos (by omega)]
      have := (hA.2 (t - off) (by omega)).mono hle
      have e2 : sh + t - (sh + off) = t - off := by omega
      rw [e2]
      have e3 : vs.toList.getD (t - off) Go.undef = vs.getD (t - off) Go.undef := by simp
      rw [e3]; exact this
    · rw [if_neg hin, if_neg (by omega)]
      exact (hv t ht).mono hle

theorem oneCell_all {w : World} {ρ : Rl} {new : List PV} {vs : Array Value} (hA : AV w ρ new vs) (h : new.all oneCell = true) : ∀ v ∈ vs.toList, v.oneCell' = true := by
  intro v hv
  obtain ⟨i, hi, he⟩ := List.getElem_of_mem hv
  have hi' : i < new.length := by rw [← hA.1]; simpa using hi
  have h1 := hA.2 i hi'
  have e1 : vs.getD i Go.undef = v := by
    have : i < vs.size := by simpa using hi
    simp [this]; simpa using he
  rw [e1] at h1
  refine oneCell_snd h1 ?_
  have : new.getD i .undef ∈ new := by simp [List.getD, hi']
  exact List.all_eq_true.1 h _ this

def dstore (P : Program) (H : List Blk) (t : TypeId) (x v : PV) : Option (List Blk) :=
  match x with
  | .ptr r off => match H.getD r .dead with
    | .cells cs tg => match szT P t, cellsPV v with
      | some n, some new => if new.length = n ∧ off + new.length ≤ cs.length ∧ new.all oneCell = true then some (H.set r (.cells (setRange cs off new) tg)) else none
      | _, _ => none
    | _ => none
  | _ => none

theorem store_snd {P : Program} {w : World} {ρ : Rl} {H : List Blk} (hH : HR w ρ H) {t : TypeId} {x v : PV} {xv vv : Value} (hx : VR w ρ x xv) (hv : VR w ρ v vv) {H' : List Blk} (h : dstore P H t x v = some H') :
    ∃ w', (Instr.storeAt t xv vv).run P w = .ok () w' ∧ HR w' ρ H' ∧ Step w ρ H w' ρ H' := by
  unfold dstore at h
  split at h
  · rename_i r off
    split at h
    · rename_i cs hcs
      split at h
      · rename_i n new hn hnew
        split at h
        · rename_i hc
          obtain ⟨hlen, hfit, hone⟩ := hc
          simp at h; subst h
          cases hx with
          | @ptr _ b sh _ hβ =>
            obtain ⟨hr, c, e, hcb, hs, hS, hvs⟩ := row_of hH hcs hβ
            have hA := cellsPV_snd hv hnew
            obtain ⟨h1, h2⟩ := cells_put hH hcs hβ hcb hA hfit
            refine ⟨_, ?_, h1, h2⟩
            have hsz : vv.cells.size = n := by rw [hA.1, hlen]
            have hl : vv.cells.toList.length = new.length := by simpa using hA.1
            simp only [Instr.storeAt, Instr.sureAddr, Sem.run_bind, Sem.run_pure, Result.andThen_ok, storeVar, run_sizeOf' hn]
            rw [if_neg (by omega)]
            have := run_storeCells_at (P := P) b (sh + off) e vv.cells.toList 0 c w hcb (by omega) (oneCell_all hA hone)
            simp only [Nat.add_zero] at this
            exact this
        · cases h
      · cases h
    · cases h
  · cases h

/-! ### maps -/

def dsame1 : PV → PV → Bool
  | .int k a, .int k' b => decide (k = k') && a == b
  | .bool a, .bool b => a == b
  | .str a, .str b => a.data.toList == b.data.toList
  | _, _ => false

def dsame : PV → PV → Bool
  | .agg xs, .agg ys => xs.length == ys.length && (List.range xs.length).all fun i => dsame1 (xs.getD i .undef) (ys.getD i .undef)
  | x, y => dsame1 x y

theorem same1_snd {w : World} {ρ : Rl} {x y : PV} {u v : Value} (hx : VR w ρ x u) (hy : VR w ρ y v) (h : dsame1 x y = true) (n : Nat) : Instr.sameBits n u v = true := by
  unfold dsame1 at h
  split at h
  · cases hx; cases hy
    simp at h
    obtain ⟨rfl, rfl⟩ := h
    cases n <;> simp [Instr.sameBits]
  · cases hx; cases hy
    simp at h; subst h
    cases n <;> simp [Instr.sameBits]
  · rename_i a b
    cases hx; cases hy
    have hab : (a == b) = true := by rw [beq_toListBytes, ByteArray.toList_eq, ByteArray.toList_eq]; exact h
    cases n <;> simpa [Instr.sameBits] using hab
  · cases h

theorem same_snd {w : World} {ρ : Rl} {x y : PV} {u v : Value} (hx : VR w ρ x u) (hy : VR w ρ y v) (h : dsame x y = true) (n : Nat) : Instr.sameBits (n + 1) u v = true := by
  unfold dsame at h
  split at h
  · rename_i xs ys
    obtain ⟨us, rfl, hxl, hxv⟩ := agg_inv hx
    obtain ⟨vs, rfl, hyl, hyv⟩ := agg_inv hy
    simp only [Bool.and_eq_true, beq_iff_eq] at h
    simp only [Instr.sameBits, Bool.and_eq_true, beq_iff_eq]
    refine ⟨by omega, ?_⟩
    rw [List.all_eq_true]
    rintro ⟨p, q⟩ hpq
    obtain ⟨i, hi, he⟩ := List.getElem_of_mem hpq
    simp only [List.getElem_zip, Prod.mk.injEq] at he
    rw [List.length_zip] at hi
    have hi1 : i < us.size := by simp at hi; omega
    have hi2 : i < vs.size := by simp at hi; omega
    have h1 := hxv i (by omega)
    have h2 := hyv i (by omega)
    have h3 := (List.all_eq_true.1 h.2) i (by simp; omega)
    have e1 : us.getD i Go.undef = p := by simp [hi1]; simpa using he.1
    have e2 : vs.getD i Go.undef = q := by simp [hi2]; simpa using he.2
    rw [e1] at h1; rw [e2] at h2
    exact same1_snd h1 h2 h3 n
  · exact same1_snd hx hy h (n + 1)

theorem stays_snd {P : Program} {w : World} {ρ : Rl} {x y : PV} {u v : Value} (hx : VR w ρ x u) (hy : VR w ρ y v) (h : dsame x y = true) : (Instr.keyThatStays u v).run P w = .ok v w := by
  unfold Instr.keyThatStays
  rw [if_pos (same_snd hx hy h 9999)]
  rfl

/-- An own map is written. -/
theorem map_put {w : World} {ρ : Rl} {H : List Blk} (hH : HR w ρ H) {r b : Nat} {es es' : List (PV × PV)} (h : H.getD r .dead = .map es) (hβ : ρ.β r = some (b, 0)) {ents ents' : Array MapEntry} {clock clock' : Nat}
    (hw : w.heap[b]? = some (.map ents clock)) (hclock : clock' = es'.length) (hsz : ents'.size = es'.length)
    (hv : ∀ i, i < es'.length → VR w ρ (es'.getD i default).1 (ents'.getD i default).key ∧ VR w ρ (es'.getD i default).2 (ents'.getD i default).val ∧ (ents'.getD i default).born = i) :
    HR { w with heap := w.heap.setIfInBounds b (.map ents' clock') } ρ (H.set r (.map es')) ∧ Step w ρ H { w with heap := w.heap.setIfInBounds b (.map ents' clock') } ρ (H.set r (.map es')) := by
  have hr : r < H.length := by
    rcases Nat.lt_or_ge r H.length with h' | h'
    · exact h'
    · simp [List.getD, List.getElem?_eq_none h'] at h
  have hb : b < w.heap.size := (Array.getElem?_eq_some_iff.1 hw).1
  obtain ⟨b', sh', hβ', hbr⟩ := hH.blk r hr (by rw [h]; simp)
  rw [hβ] at hβ'; simp at hβ'; obtain ⟨rfl, rfl⟩ := hβ'
  have hS := hbr.noS (by rw [h]; simp)
  refine put_step (w' := { w with heap := w.heap.setIfInBounds b (.map ents' clock') }) hH hr (by rw [h]; simp) hβ (fun k hk => by simp [Array.getElem?_setIfInBounds_ne (Ne.symm hk)]) (by simp) (fun c e f h1 => by rw [hw] at h1; cases h1) rfl rfl rfl (fun hle => ?_)
  refine ⟨hS, rfl, ents', ?_, hsz, fun i hi => ⟨(hv i hi).1.mono hle, (hv i hi).2.1.mono hle, (hv i hi).2.2⟩⟩
  simp [hb, hclock]

def dmapSet (P : Program) (E : TypeId → Bool) (H : List Blk) (t : TypeId) (m k v : PV) : Option (List Blk) :=
  match P.underlying t with
  | some (.map kt _) => if (P.underlying kt).isSome && dchk P 10000 kt k then
      match m with
      | .map r => match H.getD r .dead with
        | .map es => match dfind P E kt k es 0 with
          | some (some i) => if dsame (es.getD i default).1 k then some (H.set r (.map (es.set i (k, v)))) else none
          | some none => some (H.set r (.map (es ++ [(k, v)])))
          | none => none
        | _ => none
      | _ => none
    else none
  | _ => none

theorem ents_at {w : World} {ρ : Rl} {es : List (PV × PV)} {ents : Array MapEntry} (hE : EntsR w ρ es ents.toList) {i : Nat} (hi : i < es.length) :
    VR w ρ (es.getD i default).1 (ents.getD i default).key ∧ VR w ρ (es.getD i default).2 (ents.getD i default).val := by
  have := hE.2 i hi
  have e : ents.toList.getD i default = ents.getD i default := by simp
  rw [e] at this
  exact this

theorem mapSet_snd {P : Program} (cx : Cx P) {w : World} {ρ : Rl} {H : List Blk} (hH : HR w ρ H) {t : TypeId} {m k v : PV} {mv kv vv : Value} (hm : VR w ρ m mv) (hk : VR w ρ k kv) (hv : VR w ρ v vv) {H' : List Blk}
    (h : dmapSet P cx.E H t m k v = some H') : ∃ w', (Instr.mapUpdate t mv kv vv).run P w = .ok () w' ∧ HR w' ρ H' ∧ Step w ρ H w' ρ H' := by
  unfold dmapSet at h
  split at h
  · rename_i kt et hu
    split at h
    · rename_i hc
      simp only [Bool.and_eq_true] at hc
      split at h
      · rename_i r
        split at h
        · rename_i es hes
          obtain ⟨b, ents, rfl, hw, hsz, hE, hborn, hS, hβ, hr⟩ := map_of hH hes hm
          have hchk := dchk_snd (P := P) false 10000 kt k kv hk hc.2
          split at h
          · rename_i i hf
            split at h
            · rename_i hs
              simp at h; subst h
              obtain ⟨h1, h2⟩ := findKey_snd cx hk hE hf hc.1
              have hi := h2 i rfl
              have hi' : i < ents.size := by omega
              have hold := ents_at hE hi
              have hstay := stays_snd (P := P) hold.1 hk hs
              obtain ⟨h3, h4⟩ := map_put (es' := es.set i (k, v)) (ents' := ents.modify i fun e => { e with key := kv, val := vv }) (clock' := es.length) hH hes hβ hw (by simp) (by simp [hsz]) (fun j hj => by
                simp at hj
                by_cases e : j = i
                · subst e
                  simp only [List.getD, List.getElem?_set_self hj, Option.getD_some]
                  have e2 : (ents.modify j fun e => { e with key := kv, val := vv }).getD j default = { ents.getD j default with key := kv, val := vv } := by
                    simp [hi', Array.getElem_modify]
                  rw [e2]
                  exact ⟨hk, hv, hborn j hj⟩
                · have hj' : j < ents.size := by omega
                  have e2 : (ents.modify i fun e => { e with key := kv, val := vv }).getD j default = ents.getD j default := by
                    simp [hj', Array.getElem_modify, Ne.symm e]
                  rw [e2]
                  simp only [List.getD, List.getElem?_set_ne (Ne.symm e)]
                  have := ents_at hE hj
                  simp only [List.getD] at this
                  exact ⟨this.1, this.2, hborn j hj⟩)
              refine ⟨_, ?_, h3, h4⟩
              have ekey : ((ents[i]?).map (·.key)).getD kv = (ents.getD i default).key := by simp [hi']
              simp only [Instr.mapUpdate, Sem.run_bind, run_underlying hu, Result.andThen_ok, run_getObj_map w b ents _ hw, hchk, h1, Option.map_some, ekey, hstay]
              exact MapKept.run_setObj_map _ hw
            · cases h
          · rename_i hf
            simp at h; subst h
            obtain ⟨h1, h2⟩ := findKey_snd cx hk hE hf hc.1
            obtain ⟨h3, h4⟩ := map_put (es' := es ++ [(k, v)]) (ents' := ents.push { key := kv, val := vv, born := es.length }) (clock' := es.length + 1) hH hes hβ hw (by simp) (by simp [hsz]) (fun j hj => by
              simp at hj
              by_cases e : j = es.length
              · subst e
                have e1 : (es ++ [(k, v)]).getD es.length default = (k, v) := by simp [List.getD]
                have e2 : (ents.push { key := kv, val := vv, born := es.length }).getD es.length default = { key := kv, val := vv, born := es.length } := by simp [← hsz]
                rw [e1, e2]
                exact ⟨hk, hv, rfl⟩
              · have hj' : j < es.length := by omega
                have hj2 : j < ents.size := by omega
                have e1 : (es ++ [(k, v)]).getD j default = es.getD j default := by simp [List.getD, List.getElem?_append_left hj']
                have e2 : (ents.push { key := kv, val := vv, born := es.length }).getD j default = ents.getD j default := by
                  simp [hj2, show j < ents.size + 1 by omega, Array.getElem_push_lt hj2]
                rw [e1, e2]
                exact ⟨(ents_at hE hj').1, (ents_at hE hj').2, hborn j hj'⟩)
            refine ⟨_, ?_, h3, h4⟩
            simp only [Instr.mapUpdate, Sem.run_bind, run_underlying hu, Result.andThen_ok, run_getObj_map w b ents _ hw, hchk, h1, Option.map_none]
            exact MapKept.run_setObj_map _ hw
          · cases h
        · cases h
      · cases h
    · cases h
  · cases h

def dmapEntry (P : Program) (E : TypeId → Bool) (H : List Blk) (t : TypeId) (m k : PV) : Option (PV × List Blk) :=
  match P.underlying t with
  | some (.map kt et) => if (P.underlying kt).isSome && dchk P 10000 kt k then
      match m with
      | .map r => match H.getD r .dead with
        | .map es => match dfind P E kt k es 0 with
          | some (some i) => if dsame (es.getD i default).1 k then some (.tuple [(es.getD i default).2, .int .i64 i], H.set r (.map (es.set i (k, (es.getD i default).2)))) else none
          | some none => match zeroPV P et with
            | some z => some (.tuple [z, .int .i64 es.length], H.set r (.map (es ++ [(k, z)])))
            | none => none
          | none => none
        | _ => none
      | _ => none
    else none
  | _ => none

theorem mapEntry_snd {P : Program} (cx : Cx P) {w : World} {ρ : Rl} {H : List Blk} (hH : HR w ρ H) {t : TypeId} {m k : PV} {mv kv : Value} (hm : VR w ρ m mv) (hk : VR w ρ k kv) {y : PV} {H' : List Blk}
    (h : dmapEntry P cx.E H t m k = some (y, H')) : ∃ w' u, (Instr.mapEntry t mv kv).run P w = .ok u w' ∧ VR w' ρ y u ∧ HR w' ρ H' ∧ Step w ρ H w' ρ H' := by
  unfold dmapEntry at h
  split at h
  · rename_i kt et hu
    split at h
    · rename_i hc
      simp only [Bool.and_eq_true] at hc
      split at h
      · rename_i r
        split at h
        · rename_i es hes
          obtain ⟨b, ents, rfl, hw, hsz, hE, hborn, hS, hβ, hr⟩ := map_of hH hes hm
          have hchk := dchk_snd (P := P) false 10000 kt k kv hk hc.2
          split at h
          · rename_i i hf
            split at h
            · rename_i hs
              simp only [Option.some.injEq, Prod.mk.injEq] at h; obtain ⟨rfl, rfl⟩ := h
              obtain ⟨h1, h2⟩ := findKey_snd cx hk hE hf hc.1
              have hi := h2 i rfl
              have hi' : i < ents.size := by omega
              have hold := ents_at hE hi
              have hstay := stays_snd (P := P) hold.1 hk hs
              obtain ⟨h3, h4⟩ := map_put (es' := es.set i (k, (es.getD i default).2)) (ents' := ents.modify i fun e => { e with key := kv }) (clock' := es.length) hH hes hβ hw (by simp) (by simp [hsz]) (fun j hj => by
                simp at hj
                by_cases e : j = i
                · subst e
                  simp only [List.getD, List.getElem?_set_self hj, Option.getD_some]
                  have e2 : (ents.modify j fun e => { e with key := kv }).getD j default = { ents.getD j default with key := kv } := by
                    simp [hi', Array.getElem_modify]
                  rw [e2]
                  have := hold.2
                  simp only [List.getD] at this
                  exact ⟨hk, this, hborn j hj⟩
                · have hj' : j < ents.size := by omega
                  have e2 : (ents.modify i fun e => { e with key := kv }).getD j default = ents.getD j default := by
                    simp [hj', Array.getElem_modify, Ne.symm e]
                  rw [e2]
                  simp only [List.getD, List.getElem?_set_ne (Ne.symm e)]
                  have := ents_at hE hj
                  simp only [List.getD] at this
                  exact ⟨this.1, this.2, hborn j hj⟩)
              refine ⟨_, .tuple #[(ents.getD i default).val, goInt i], ?_, tuple2 (hold.2.mono h4.le) (.int _ _), h3, h4⟩
              have ekey : ((ents[i]?).map (·.key)).getD kv = (ents.getD i default).key := by simp [hi']
              have ebn : ((ents[i]?).map (fun x => (x.born : Int))).getD 0 = (i : Int) := by have := hborn i hi; simp [hi'] at this ⊢; omega
              have evl : (ents.toList.getD i default).val = (ents.getD i default).val := by simp
              simp only [Instr.mapEntry, Sem.run_bind, run_underlying hu, Result.andThen_ok, run_getObj_map w b ents _ hw, hchk, h1, Option.map_some, ekey, hstay, evl]
              rw [MapKept.run_setObj_map _ hw]
              simp only [Result.andThen_ok, ebn, Sem.run_pure]
            · cases h
          · rename_i hf
            split at h
            · rename_i z hz
              obtain ⟨zv, hzr, hzv⟩ := zero_snd (w := w) (ρ := ρ) hz
              simp only [Option.some.injEq, Prod.mk.injEq] at h; obtain ⟨rfl, rfl⟩ := h
              obtain ⟨h1, h2⟩ := findKey_snd cx hk hE hf hc.1
              obtain ⟨h3, h4⟩ := map_put (es' := es ++ [(k, z)]) (ents' := ents.push { key := kv, val := zv, born := es.length }) (clock' := es.length + 1) hH hes hβ hw (by simp) (by simp [hsz]) (fun j hj => by
                simp at hj
                by_cases e : j = es.length
                · subst e
                  have e1 : (es ++ [(k, z)]).getD es.length default = (k, z) := by simp [List.getD]
                  have e2 : (ents.push { key := kv, val := zv, born := es.length }).getD es.length default = { key := kv, val := zv, born := es.length } := by simp [← hsz]
                  rw [e1, e2]
                  exact ⟨hk, hzv, rfl⟩
                · have hj' : j < es.length := by omega
                  have hj2 : j < ents.size := by omega
                  have e1 : (es ++ [(k, z)]).getD j default = es.getD j default := by simp [List.getD, List.getElem?_append_left hj']
                  have e2 : (ents.push { key := kv, val := zv, born := es.length }).getD j default = ents.getD j default := by
                    simp [hj2, show j < ents.size + 1 by omega, Array.getElem_push_lt hj2]
                  rw [e1, e2]
                  exact ⟨(ents_at hE hj').1, (ents_at hE hj').2, hborn j hj'⟩)
              refine ⟨_, .tuple #[zv, goInt es.length], ?_, tuple2 (hzv.mono h4.le) (.int _ _), h3, h4⟩
              simp only [Instr.mapEntry, Sem.run_bind, run_underlying hu, Result.andThen_ok, run_getObj_map w b ents _ hw, hchk, h1, Option.map_none, hzr]
              rw [MapKept.run_setObj_map _ hw]
              simp only [Result.andThen_ok, Sem.run_pure]
            · cases h
          · cases h
        · cases h
      · cases h
    · cases h
  · cases h

def dentryStore (H : List Blk) (m s v : PV) : Option (List Blk) :=
  match m, s with
  | .map r, .int _ n => match H.getD r .dead with
    | .map es => if 0 ≤ n ∧ n < (es.length : Int) then some (H.set r (.map (es.set n.toNat ((es.getD n.toNat default).1, v)))) else none
    | _ => none
  | _, _ => none

theorem entryStore_snd {P : Program} {w : World} {ρ : Rl} {H : List Blk} (hH : HR w ρ H) {t : TypeId} {m s v : PV} {mv sv vv : Value} (hm : VR w ρ m mv) (hs : VR w ρ s sv) (hv : VR w ρ v vv) {H' : List Blk}
    (h : dentryStore H m s v = some H') : ∃ w', (Instr.entryStore t mv sv vv).run P w = .ok () w' ∧ HR w' ρ H' ∧ Step w ρ H w' ρ H' := by
  unfold dentryStore at h
  split at h
  · rename_i r k n
    split at h
    · rename_i es hes
      split at h
      · rename_i hc
        simp at h; subst h
        cases hs
        obtain ⟨b, ents, rfl, hw, hsz, hE, hborn, hS, hβ, hr⟩ := map_of hH hes hm
        obtain ⟨i, rfl⟩ := Int.eq_ofNat_of_zero_le hc.1
        have hi : i < es.length := by omega
        have hi' : i < ents.size := by omega
        simp only [Int.toNat_natCast]
        obtain ⟨h3, h4⟩ := map_put (es' := es.set i ((es.getD i default).1, v)) (ents' := ents.modify i fun e => { e with val := vv }) (clock' := es.length) hH hes hβ hw (by simp) (by simp [hsz]) (fun j hj => by
          simp at hj
          by_cases e : j = i
          · subst e
            simp only [List.getD, List.getElem?_set_self hj, Option.getD_some]
            have e2 : (ents.modify j fun e => { e with val := vv }).getD j default = { ents.getD j default with val := vv } := by
              simp [hi', Array.getElem_modify]
            rw [e2]
            have := (ents_at hE hj).1
            simp only [List.getD] at this
            exact ⟨this, hv, hborn j hj⟩
          · have hj' : j < ents.size := by omega
            have e2 : (ents.modify i fun e => { e with val := vv }).getD j default = ents.getD j default := by
              simp [hj', Array.getElem_modify, Ne.symm e]
            rw [e2]
            simp only [List.getD, List.getElem?_set_ne (Ne.symm e)]
            have := ents_at hE hj
            simp only [List.getD] at this
            exact ⟨this.1, this.2, hborn j hj⟩)
        refine ⟨_, ?_, h3, h4⟩
        have hfind : ents.findIdx? (fun e => (e.born : Int) == (i : Int)) = some i := by
          rw [Array.findIdx?_eq_some_iff_getElem]
          refine ⟨hi', ?_, fun j hj => ?_⟩
          · have := hborn i hi; simp [hi'] at this; simp [this]
          · have hj' : j < ents.size := by omega
            have := hborn j (by omega)
            simp [hj'] at this
            simp [this]; omega
        simp only [Instr.entryStore, Sem.run_bind, run_getObj_map w b ents _ hw, Result.andThen_ok, asInt, asIntOf, Sem.run_pure, hfind]
        exact MapKept.run_setObj_map _ hw
      · cases h
    · cases h
  · cases h

end Go.MW
