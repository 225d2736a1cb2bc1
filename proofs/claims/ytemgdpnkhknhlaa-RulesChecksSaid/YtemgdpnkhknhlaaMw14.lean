/-
  OUR OWN: the entry of a step, a string's bytes; all operations without a call, together: 'deff0'.
-/
import Derived.Test.YtemgdpnkhknhlaaMw13
namespace Go.MW

def dentry (H : List Blk) (x : PV) : Option PV :=
  match x with
  | .iter r => match H.getD r .dead with
    | .iter (some m) _ seen last => match seen.getLast?, H.getD m .dead with
      | some i, .map es => if i < es.length ∧ last = es.length then some (.tuple [(es.getD i default).1, (es.getD i default).2]) else none
      | _, _ => none
    | _ => none
  | _ => none

theorem iter_of {w : World} {ρ : Rl} {H : List Blk} (hH : HR w ρ H) {r : Nat} {m : Option Nat} {since last : Nat} {seen : List Nat} (h : H.getD r .dead = .iter m since seen last) {v : Value} (hv : VR w ρ (.iter r) v) :
    ∃ b, v = .pointer (some ⟨b, 0, none⟩) ∧ w.heap[b]? = some (.mapIter (m.bind fun r => (ρ.β r).map (·.1)) since seen.toArray last) ∧ (∀ r, m = some r → ∃ p, ρ.β r = some p) ∧ ρ.β r = some (b, 0) ∧ r < H.length ∧ ¬ ρ.S b := by
  have hr : r < H.length := by
    rcases Nat.lt_or_ge r H.length with h' | h'
    · exact h'
    · simp [List.getD, List.getElem?_eq_none h'] at h
  cases hv with
  | @iter _ b sh hβ =>
    obtain ⟨b', sh', hβ', hb⟩ := hH.blk r hr (by rw [h]; simp)
    rw [hβ] at hβ'; simp at hβ'; obtain ⟨rfl, rfl⟩ := hβ'
    rw [h] at hb
    obtain ⟨hS, rfl, hw, hm⟩ := hb
    exact ⟨b, rfl, hw, hm, hβ, hr, hS⟩

theorem map_at {w : World} {ρ : Rl} {H : List Blk} (hH : HR w ρ H) {r : Nat} {es : List (PV × PV)} (h : H.getD r .dead = .map es) : ∃ b, ρ.β r = some (b, 0) ∧ VR w ρ (.map r) (.map (some b)) := by
  have hr : r < H.length := by
    rcases Nat.lt_or_ge r H.length with h' | h'
    · exact h'
    · simp [List.getD, List.getElem?_eq_none h'] at h
  obtain ⟨b, sh, hβ, hb⟩ := hH.blk r hr (by rw [h]; simp)
  rw [h] at hb
  obtain ⟨hS, rfl, _⟩ := hb
  exact ⟨b, hβ, .map hβ⟩

theorem run_getObj_iter {P : Program} {w : World} {b : Nat} {m : Option Nat} {s l : Nat} {seen : Array Nat} (h : w.heap[b]? = some (.mapIter m s seen l)) : (getObj b).run P w = .ok (.mapIter m s seen l) w := by
  simp [getObj, Sem.run, h]

theorem entry_snd {P : Program} {w : World} {ρ : Rl} {H : List Blk} (hH : HR w ρ H) {x : PV} {v : Value} (hx : VR w ρ x v) {y : PV} (h : dentry H x = some y) :
    ∃ u, (Instr.entry v).run P w = .ok u w ∧ VR w ρ y u := by
  unfold dentry at h
  split at h
  · rename_i r
    split at h
    · rename_i m since seen last hit
      split at h
      · rename_i i es hlast hes
        split at h
        · rename_i hc
          obtain ⟨hi, rfl⟩ := hc
          simp only [Option.some.injEq] at h; subst h
          obtain ⟨b, rfl, hw, hm, hβ, hr, hS⟩ := iter_of hH hit hx
          obtain ⟨mb, hmβ, hmv⟩ := map_at hH hes
          obtain ⟨mb', ents, hmv', hwm, hsz, hE, hborn, _, hmβ', _⟩ := map_of hH hes hmv
          simp at hmv'; subst hmv'
          simp [hmβ] at hw
          have hent := ents_at hE hi
          have hi' : i < ents.size := by omega
          refine ⟨.tuple #[(ents.getD i default).key, (ents.getD i default).val], ?_, tuple2 hent.1 hent.2⟩
          have hback : seen.toArray.back? = some i := by simpa using hlast
          have hfind : ents.find? (fun e => e.born == i) = some (ents.getD i default) := by
            rw [Array.find?_eq_some_iff_getElem]
            refine ⟨?_, i, hi', ?_, fun j hj => ?_⟩
            · have := hborn i hi; rw [this]; simp
            · simp [hi']
            · have hj' : j < ents.size := by omega
              have := hborn j (by omega)
              simp [hj'] at this
              simp [this]; omega
          simp only [Instr.entry, Sem.run_bind, run_getObj_iter hw, Result.andThen_ok, hback, run_getObj_map w mb ents _ hwm]
          simp only [bne_self_eq_false, Bool.false_eq_true, if_false, hfind, Sem.run_pure]
        · cases h
      · cases h
    · cases h
  · cases h

/-! ### a string's bytes: a new block that is never written -/

theorem stable_new {w w' : World} {ρ : Rl} {H : List Blk} (hH : HR w ρ H) {o : Obj} (hw : w'.heap = w.heap.push o) (hos : w'.os = w.os) (htape : w'.tape = w.tape) (hout : w'.output = w.output) :
    HR w' { S := fun b => ρ.S b ∨ b = w.heap.size, β := ρ.β } H ∧ Step w ρ H w' { S := fun b => ρ.S b ∨ b = w.heap.size, β := ρ.β } H := by
  have hold : ∀ k, k < w.heap.size → w'.heap[k]? = w.heap[k]? := by
    intro k hk; rw [hw, Array.getElem?_push, if_neg (by omega)]
  have hsize : w'.heap.size = w.heap.size + 1 := by rw [hw]; simp
  have hle : Le w ρ w' { S := fun b => ρ.S b ∨ b = w.heap.size, β := ρ.β } := ⟨fun b h => .inl h, fun b h => hold b (hH.S b h), fun _ _ h => h, fun b c e f h => by
    have : b < w.heap.size := (Array.getElem?_eq_some_iff.1 h).1
    exact ⟨c, e, f, by rw [hold b this]; exact h, rfl⟩⟩
  refine ⟨⟨fun r hr hd => ?_, hH.one, hH.none, fun b hb => ?_, fun r b sh h => by have := hH.lt r b sh h; omega⟩,
    ⟨hle, by omega, fun b hb _ => hold b hb, fun b hb => .inl hb, fun b hb => ?_, Nat.le_refl _, hos, htape, hout⟩⟩
  · obtain ⟨b, sh, h1, h2⟩ := hH.blk r hr hd
    have hb := hH.lt _ _ _ h1
    exact ⟨b, sh, h1, h2.mono hle (hold b hb) (fun hh => hh.elim (h2.noS hd) (fun e => by omega))⟩
  · rcases hb with hb | hb
    · have := hH.S b hb; omega
    · omega
  · rcases hb with hb | hb
    · exact .inl hb
    · exact .inr (.inr (by omega))

def bytesPV (s : ByteArray) : List (List PV) := s.data.toList.map fun b => [.int .u8 b.toNat]

def dconvB (P : Program) (s d : TypeId) (x : PV) : Option PV :=
  match P.underlying s, P.underlying d, x with
  | some .string, some (.slice e), .str b => match P.underlying e with
    | some (.int .u8) => some (.lst (bytesPV b) false)
    | _ => none
  | _, _, _ => none

theorem bytes_get (d : Array UInt8) (k : Nat) (t : Nat) (h : t < d.size) :
    ((d.map fun (b : UInt8) => Value.int .u8 (b.toNat : Int)) ++ Array.replicate k (Value.int .u8 0)).getD t Go.undef = Value.int .u8 ((d.toList.getD t 0).toNat : Int) := by
  rw [Array.getD_eq_getD_getElem?, Array.getElem?_append_left (by simpa using h)]
  simp [List.getD, h]

theorem bytes_getPV (d : Array UInt8) (t : Nat) (h : t < d.size) : (d.toList.map fun (b : UInt8) => [PV.int .u8 (b.toNat : Int)]).getD t [] = [PV.int .u8 ((d.toList.getD t 0).toNat : Int)] := by
  simp [List.getD, h]

theorem convB_snd {P : Program} {w : World} {ρ : Rl} {H : List Blk} (hH : HR w ρ H) {s d : TypeId} {x : PV} {v : Value} (hx : VR w ρ x v) {y : PV} (h : dconvB P s d x = some y) :
    ∃ w' ρ' u, (convert s d v).run P w = .ok u w' ∧ VR w' ρ' y u ∧ HR w' ρ' H ∧ Step w ρ H w' ρ' H := by
  unfold dconvB at h
  split at h
  · rename_i e b hs hd
    split at h
    · rename_i he
      simp at h; subst h
      cases hx
      let cap := b.size + w.tape w.drawn (.appendCap b.size 0 e) % (2 ^ 63 - b.size)
      let c : Array Value := (b.data.map fun b => Value.int .u8 b.toNat) ++ Array.replicate (cap - b.size) (.int .u8 0)
      let w1 : World := w.drew.alloc (.cells c e)
      let w' : World := w1.freeze { block := w.heap.size, off := c.size } 1
      have hw1 : w1.heap[w.heap.size]? = some (.cells c e (0, 0)) := heap_alloc_new w.drew _
      have hw' : w'.heap = w.heap.push (.cells c e (c.size, c.size + 1)) := by
        have hfz : w'.heap = w1.heap.modify w.heap.size fun
            | .cells c elem (lo, hi) => .cells c elem (if lo == hi then (c.size, c.size + 1) else (min lo c.size, max hi (c.size + 1)))
            | o => o := by
          show (World.freeze w1 { block := w.heap.size, off := c.size } 1).heap = _
          unfold World.freeze
          rw [if_neg (by decide)]
          apply Array.ext_getElem?
          intro i
          simp only [Array.getElem?_modify]
          by_cases hi : w.heap.size = i
          · subst hi
            simp only [if_true, hw1, Option.map_some]
          · simp only [if_neg hi]
        rw [hfz]
        apply Array.ext_getElem?
        intro i
        rw [Array.getElem?_modify]
        by_cases hi : w.heap.size = i
        · subst hi
          rw [if_pos rfl, hw1]
          simp
        · rw [if_neg hi]
          show (w.heap.push _)[i]? = _
          rw [Array.getElem?_push, Array.getElem?_push, if_neg (Ne.symm hi), if_neg (Ne.symm hi)]
      obtain ⟨h1, h2⟩ := stable_new hH (w' := w') hw' rfl rfl rfl
      have hcs : b.size = b.data.toList.length := by rw [Array.length_toList]; rfl
      have hcell : ∀ t, t < b.size → w'.cell? ((⟨w.heap.size, 0, none⟩ : Addr).add t) = some (c.getD t Go.undef) := by
        intro t ht
        have hb2 : w'.heap[w.heap.size]? = some (.cells c e (c.size, c.size + 1)) := by rw [hw']; simp
        have htc : t < c.size := by
          have : c.size = b.data.size + (cap - b.size) := by simp [c]
          have : b.data.size = b.size := rfl
          omega
        rw [Addr.add_lit]
        simp only [Nat.zero_add, World.cell?, hb2]
        simp only [Option.isSome_none, Bool.false_eq_true, if_false]
        rw [Array.getElem?_eq_getElem htc, Array.getD_eq_getD_getElem?, Array.getElem?_eq_getElem htc]
        rfl
      have hget : ∀ t, t < b.size → c.getD t Go.undef = .int .u8 ((b.data.toList.getD t 0).toNat) := by
        intro t ht
        exact bytes_get b.data _ t ht
      have hlen : (bytesPV b).length = b.size := by unfold bytesPV; rw [List.length_map, hcs]
      refine ⟨w', _, .slice (some ⟨w.heap.size, 0, none⟩) b.size cap, ?_, ?_, h1, h2⟩
      · have hrun : (Conv.stringToBytes e b).run P w = .ok (.slice (some ⟨w.heap.size, 0, none⟩) b.size cap) w' := by
          simp only [Conv.stringToBytes, Sem.run_bind, run_choose, Question.forced, Bool.false_eq_true, if_false, Result.andThen_ok, Question.cut, World.drew_eq, newRow, run_newObj, Sem.run_pure, markStringish]
          have hshape : World.shape? w1 w.heap.size = some (e, c.size) := by simp [World.shape?, hw1]
          simp only [run_shape]
          show ((Result.ok (World.shape? w1 w.heap.size) w1).andThen _).andThen _ = _
          rw [hshape]
          rfl
        simp only [convert, Sem.run_bind, run_underlying hs, run_underlying hd, Result.andThen_ok, run_underlying he, hrun]
      · have := VR.lst (w := w') (ρ := { S := fun b => ρ.S b ∨ b = w.heap.size, β := ρ.β }) (xs := bytesPV b) (tight := false) (a := ⟨w.heap.size, 0, none⟩) (cap := cap) (sz := 1) (fun t => c.getD t Go.undef)
          (fun _ => .inr rfl) (by rw [hlen]; exact Nat.le_add_right _ _) (fun h => by cases h) (fun i hi => by
            rw [hlen] at hi
            unfold bytesPV
            rw [bytes_getPV b.data i hi]
            rfl) (fun t ht => by rw [hlen] at ht; exact hcell t (by omega)) (fun i hi j hj => by
            rw [hlen] at hi
            have hj0 : j = 0 := by omega
            subst hj0
            have e1 : ((bytesPV b).getD i []).getD 0 .undef = .int .u8 ((b.data.toList.getD i 0).toNat) := by
              unfold bytesPV
              rw [bytes_getPV b.data i hi]
              rfl
            rw [e1, Nat.mul_one, Nat.add_zero, hget i hi]
            exact .int _ _)
        rw [hlen] at this
        exact this
    · cases h
  · cases h

/-! ### all operations without a call -/

def deff0 (P : Program) (E : TypeId → Bool) (H : List Blk) (f : Operand → PV) (o : Op) : Option (PV × List Blk) :=
  match o with
  | .alloc _ | .box _ _ | .buildSlice _ _ _ | .makeMap _ _ | .makeSlice _ _ _ | .range _ _ => (dnew P H f o).map fun (b, nv) => (nv.at H.length, H ++ [b])
  | .store t a v => (dstore P H t (f a) (f v)).map fun h => (.undef, h)
  | .mapUpdate t m k v | .insert t m k v => (dmapSet P E H t (f m) (f k) (f v)).map fun h => (.undef, h)
  | .mapEntry t m k => dmapEntry P E H t (f m) (f k)
  | .entryStore _ m s v => (dentryStore H (f m) (f s) (f v)).map fun h => (.undef, h)
  | .entry it => (dentry H (f it)).map fun v => (v, H)
  | .convert s d x => match dconvB P s d (f x) with
    | some v => some (v, H)
    | none => (dconv P s d (f x)).map fun v => (v, H)
  | .call { callee := .builtin .append, args, argTypes } => match args.toList, argTypes.toList with
    | [x, y], [sT, xT] => dappend P H sT xT (f x) (f y)
    | _, _ => none
  | .call { callee := .builtin .copy, args, argTypes } => match args.toList, argTypes.toList with
    | [x, y], [dT, _] => dcopy P H dT (f x) (f y)
    | _, _ => none
  | .call { callee := .builtin .clear, args, argTypes } => match args.toList, argTypes.toList with
    | [x], [t] => (dclear P H t (f x)).map fun h => (.undef, h)
    | _, _ => none
  | o => (dread P E H f o).map fun v => (v, H)

theorem deff0_snd {P : Program} (cx : Cx P) {w : World} {ρ : Rl} {H : List Blk} (hH : HR w ρ H) {f : Operand → PV} {g : Operand → Value} (hf : ∀ x, VR w ρ (f x) (g x)) {o : Oper} {y : PV} {H' : List Blk}
    (h : deff0 P cx.E H f o.op = some (y, H')) : OpS P (execOp g o) w ρ H y H' := by
  have hread : ∀ (o : Oper), (dread P cx.E H f o.op).map (fun v => (v, H)) = some (y, H') → OpS P (execOp g o) w ρ H y H' := by
    intro o h
    cases hr : dread P cx.E H f o.op with
    | none => simp [hr] at h
    | some v =>
      simp [hr] at h; obtain ⟨rfl, rfl⟩ := h
      exact OpS.read hH (dread_snd cx hH hf hr)
  have hnew : ∀ (o : Oper), (dnew P H f o.op).map (fun (b, nv) => (nv.at H.length, H ++ [b])) = some (y, H') → OpS P (execOp g o) w ρ H y H' := by
    intro o h
    cases hr : dnew P H f o.op with
    | none => simp [hr] at h
    | some p =>
      obtain ⟨b, nv⟩ := p
      simp [hr] at h; obtain ⟨rfl, rfl⟩ := h
      exact NewS.op hH (dnew_snd hH hf hr)
  have lift : ∀ {s : Sem Value} {w' : World} {u : Value}, s.run P w = .ok u w' → (do pure (Next.value (← s)) : Sem Next).run P w = .ok (.value u) w' := by
    intro s w' u hs
    simp only [Sem.run_bind, hs, Result.andThen_ok, Sem.run_pure]
  have liftU : ∀ {s : Sem Unit} {w' : World}, s.run P w = .ok () w' → (do s; pure Next.skip : Sem Next).run P w = .ok .skip w' := by
    intro s w' hs
    simp only [Sem.run_bind, hs, Result.andThen_ok, Sem.run_pure]
  have unitS : ∀ {s : Sem Unit} {h' : List Blk}, (∃ w', s.run P w = .ok () w' ∧ HR w' ρ h' ∧ Step w ρ H w' ρ h') → OpS P (do s; pure Next.skip) w ρ H .undef h' := by
    rintro s h' ⟨w', h1, h2, h3⟩
    exact ⟨w', ρ, .skip, Go.undef, liftU h1, .inr ⟨rfl, rfl⟩, .undef _, h2, h3⟩
  obtain ⟨dst, op, type, pos, after, guard⟩ := o
  unfold deff0 at h
  dsimp only at h
  split at h
  · exact hnew _ h
  · exact hnew _ h
  · exact hnew _ h
  · exact hnew _ h
  · exact hnew _ h
  · exact hnew _ h
  · rename_i t a v
    cases hd : dstore P H t (f a) (f v) with
    | none => simp [hd] at h
    | some h' =>
      simp [hd] at h; obtain ⟨rfl, rfl⟩ := h
      exact unitS (store_snd hH (hf a) (hf v) hd)
  · rename_i t m k v
    cases hd : dmapSet P cx.E H t (f m) (f k) (f v) with
    | none => simp [hd] at h
    | some h' =>
      simp [hd] at h; obtain ⟨rfl, rfl⟩ := h
      exact unitS (mapSet_snd cx hH (hf m) (hf k) (hf v) hd)
  · rename_i t m k v
    cases hd : dmapSet P cx.E H t (f m) (f k) (f v) with
    | none => simp [hd] at h
    | some h' =>
      simp [hd] at h; obtain ⟨rfl, rfl⟩ := h
      exact unitS (mapSet_snd cx hH (hf m) (hf k) (hf v) hd)
  · rename_i t m k
    obtain ⟨w', u, h1, h2, h3, h4⟩ := mapEntry_snd cx hH (hf m) (hf k) h
    exact ⟨w', ρ, .value u, u, lift h1, .inl rfl, h2, h3, h4⟩
  · rename_i t m s v
    cases hd : dentryStore H (f m) (f s) (f v) with
    | none => simp [hd] at h
    | some h' =>
      simp [hd] at h; obtain ⟨rfl, rfl⟩ := h
      exact unitS (entryStore_snd hH (hf m) (hf s) (hf v) hd)
  · rename_i it
    cases hd : dentry H (f it) with
    | none => simp [hd] at h
    | some v =>
      simp [hd] at h; obtain ⟨rfl, rfl⟩ := h
      obtain ⟨u, h1, h2⟩ := entry_snd (P := P) hH (hf it) hd
      exact ⟨w, ρ, .value u, u, lift h1, .inl rfl, h2, hH, Step.refl _ _ _⟩
  · rename_i s d x
    split at h
    · rename_i v hd
      simp at h; obtain ⟨rfl, rfl⟩ := h
      obtain ⟨w', ρ', u, h1, h2, h3, h4⟩ := convB_snd (P := P) hH (hf x) hd
      exact ⟨w', ρ', .value u, u, lift h1, .inl rfl, h2, h3, h4⟩
    · cases hd : dconv P s d (f x) with
      | none => simp [hd] at h
      | some v =>
        simp [hd] at h; obtain ⟨rfl, rfl⟩ := h
        obtain ⟨u, h1, h2⟩ := conv_snd (P := P) (hf x) hd
        exact ⟨w, ρ, .value u, u, lift h1, .inl rfl, h2, hH, Step.refl _ _ _⟩
  · rename_i args ts
    split at h
    · rename_i x y sT xT ha ht
      obtain ⟨al⟩ := args
      obtain ⟨tl⟩ := ts
      simp only at ha ht
      subst ha; subst ht
      obtain ⟨w', ρ', u, h1, h2, h3, h4⟩ := append_snd (ty := type) hH (hf x) (hf y) h
      refine ⟨w', ρ', .value u, u, ?_, .inl rfl, h2, h3, h4⟩
      simp only [execOp, resolve, Sem.run_bind, Sem.run_pure, Result.andThen_ok, invoke, builtin, List.map_toArray, List.map_cons, List.map_nil, h1]
    · cases h
  · rename_i args ts
    split at h
    · rename_i x y dT sT ha ht
      obtain ⟨al⟩ := args
      obtain ⟨tl⟩ := ts
      simp only at ha ht
      subst ha; subst ht
      obtain ⟨w', u, h1, h2, h3, h4⟩ := copy_snd (sT := sT) (ty := type) hH (hf x) (hf y) h
      refine ⟨w', ρ, .value u, u, ?_, .inl rfl, h2, h3, h4⟩
      simp only [execOp, resolve, Sem.run_bind, Sem.run_pure, Result.andThen_ok, invoke, builtin, List.map_toArray, List.map_cons, List.map_nil, h1]
    · cases h
  · rename_i args ts
    split at h
    · rename_i x t ha ht
      obtain ⟨al⟩ := args
      obtain ⟨tl⟩ := ts
      simp only at ha ht
      subst ha; subst ht
      cases hd : dclear P H t (f x) with
      | none => simp [hd] at h
      | some h' =>
        simp [hd] at h; obtain ⟨rfl, rfl⟩ := h
        obtain ⟨w', u, h1, h2, h3⟩ := clear_snd (P := P) (ty := type) hH (hf x) hd
        refine ⟨w', ρ, .value u, u, ?_, .inl rfl, .undef _, h2, h3⟩
        simp only [execOp, resolve, Sem.run_bind, Sem.run_pure, Result.andThen_ok, invoke, builtin, List.map_toArray, List.map_cons, List.map_nil, h1]
    · cases h
  · exact hread _ h

end Go.MW
