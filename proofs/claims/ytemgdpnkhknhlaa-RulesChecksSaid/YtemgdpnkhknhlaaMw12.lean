/-
  OUR OWN: append and copy, sound.
-/
import Derived.Test.YtemgdpnkhknhlaaMw11
namespace Go.MW

/-- A block that we no longer speak of. -/
theorem kill_step {w : World} {ρ : Rl} {H : List Blk} (hH : HR w ρ H) (r : Nat) : HR w ρ (H.set r .dead) ∧ Step w ρ H w ρ (H.set r .dead) := by
  have live : ∀ x, (H.set r .dead).getD x .dead ≠ .dead → x ≠ r ∧ (H.set r .dead).getD x .dead = H.getD x .dead := by
    intro x hx
    by_cases e : x = r
    · subst e
      exfalso; apply hx
      by_cases hl : x < H.length
      · exact getD_set_self H x .dead hl
      · simp [List.getD, List.getElem?_eq_none (show (H.set x .dead).length ≤ x by simp; omega)]
    · exact ⟨e, getD_set_ne H .dead e⟩
  refine ⟨⟨fun x hx hd => ?_, fun x y b s s' hx hy hd hd' h1 h2 => ?_, fun x hx => hH.none x (by simpa using hx), hH.S, hH.lt⟩,
    ⟨Le.refl _ _, Nat.le_refl _, fun _ _ _ => rfl, ?_, fun _ h => .inl h, by simp, rfl, rfl, rfl⟩⟩
  · obtain ⟨e, he⟩ := live x hd
    rw [he] at hd ⊢
    exact hH.blk x (by simpa using hx) hd
  · obtain ⟨e, he⟩ := live x hd
    obtain ⟨e', he'⟩ := live y hd'
    rw [he] at hd; rw [he'] at hd'
    exact hH.one x y b s s' (by simpa using hx) (by simpa using hy) hd hd' h1 h2
  · rintro b ⟨x, s, hx, hd, h1⟩
    obtain ⟨e, he⟩ := live x hd
    rw [he] at hd
    exact .inl ⟨x, s, by simpa using hx, hd, h1⟩

/-- An own block is written, and goes on under a new number. -/
theorem renum_step {w w' : World} {ρ : Rl} {H : List Blk} (hH : HR w ρ H) {r b sh sh' : Nat} (hr : r < H.length) (hd : H.getD r .dead ≠ .dead) (hβ : ρ.β r = some (b, sh))
    (hold : ∀ k, k ≠ b → w'.heap[k]? = w.heap[k]?) (hsize : w'.heap.size = w.heap.size)
    (hrow : ∀ (c : Array Value) (e : TypeId) (f : Nat × Nat), w.heap[b]? = some (Obj.cells c e f) → ∃ (c2 : Array Value) (e2 : TypeId) (f2 : Nat × Nat), w'.heap[b]? = some (Obj.cells c2 e2 f2) ∧ c2.size = c.size)
    (hos : w'.os = w.os) (htape : w'.tape = w.tape) (hout : w'.output = w.output) {blk : Blk} (hb : Le w ρ w' (ρ.ext H.length (b, sh')) → BR w' (ρ.ext H.length (b, sh')) b sh' blk) :
    HR w' (ρ.ext H.length (b, sh')) (H.set r .dead ++ [blk]) ∧ Step w ρ H w' (ρ.ext H.length (b, sh')) (H.set r .dead ++ [blk]) := by
  obtain ⟨b', s0, hβ', hbr⟩ := hH.blk r hr hd
  rw [hβ] at hβ'; simp at hβ'; obtain ⟨rfl, rfl⟩ := hβ'
  have hnS := hbr.noS hd
  have hnone : ρ.β H.length = none := hH.none _ (Nat.le_refl _)
  have hle : Le w ρ w' (ρ.ext H.length (b, sh')) := ⟨fun _ h => h, fun k hk => hold k (by rintro rfl; exact hnS hk), ext_le hnone, fun k c e f h => by
    by_cases e' : k = b
    · subst e'; exact hrow c e f h
    · exact ⟨c, e, f, by rw [hold k e']; exact h, rfl⟩⟩
  have hOwn : Own ρ H b := ⟨r, sh, hr, hd, hβ⟩
  have hlen : (H.set r .dead ++ [blk]).length = H.length + 1 := by simp
  have hnew : (H.set r .dead ++ [blk]).getD H.length .dead = blk := by
    have := getD_append_self (H.set r .dead) blk
    rwa [List.length_set] at this
  have hlive : ∀ x, x < H.length → (H.set r .dead ++ [blk]).getD x .dead ≠ .dead → x ≠ r ∧ (H.set r .dead ++ [blk]).getD x .dead = H.getD x .dead := by
    intro x hx hdx
    rw [getD_append_lt _ _ (by simpa using hx)] at hdx ⊢
    by_cases e : x = r
    · subst e; exfalso; exact hdx (getD_set_self H x .dead hr)
    · exact ⟨e, getD_set_ne H .dead e⟩
  have hblt : b < w.heap.size := hH.lt _ _ _ hβ
  refine ⟨⟨?_, ?_, ?_, ?_, ?_⟩, ⟨hle, by omega, fun k _ ho => hold k (by rintro rfl; exact ho hOwn), ?_, fun _ h => .inl h, by rw [hlen]; omega, hos, htape, hout⟩⟩
  · intro x hx hdx
    rw [hlen] at hx
    by_cases e : x = H.length
    · subst e; rw [hnew]; exact ⟨b, sh', ext_self _ _ _, hb hle⟩
    · have hx' : x < H.length := by omega
      obtain ⟨h1, h2⟩ := hlive x hx' hdx
      rw [h2] at hdx ⊢
      obtain ⟨b1, s1, hβ1, hbr1⟩ := hH.blk x hx' hdx
      have hne : b1 ≠ b := by
        rintro rfl
        exact h1 (hH.one x r b1 s1 sh hx' hr hdx hd hβ1 hβ)
      exact ⟨b1, s1, hle.β _ _ hβ1, hbr1.mono hle (hold b1 hne) (hbr1.noS hdx)⟩
  · intro x y k s1 s2 hx hy hdx hdy h1 h2
    rw [hlen] at hx hy
    by_cases ex : x = H.length
    · by_cases ey : y = H.length
      · omega
      · have hy' : y < H.length := by omega
        obtain ⟨h3, h4⟩ := hlive y hy' hdy
        rw [h4] at hdy
        simp only [Rl.ext, if_pos ex, Option.some.injEq, Prod.mk.injEq] at h1
        simp only [Rl.ext, if_neg ey] at h2
        rw [← h1.1] at h2
        exact absurd (hH.one y r b s2 sh hy' hr hdy hd h2 hβ) h3
    · have hx' : x < H.length := by omega
      obtain ⟨h3, h4⟩ := hlive x hx' hdx
      rw [h4] at hdx
      simp only [Rl.ext, if_neg ex] at h1
      by_cases ey : y = H.length
      · simp only [Rl.ext, if_pos ey, Option.some.injEq, Prod.mk.injEq] at h2
        rw [← h2.1] at h1
        exact absurd (hH.one x r b s1 sh hx' hr hdx hd h1 hβ) h3
      · have hy' : y < H.length := by omega
        obtain ⟨h5, h6⟩ := hlive y hy' hdy
        rw [h6] at hdy
        simp only [Rl.ext, if_neg ey] at h2
        exact hH.one x y k s1 s2 hx' hy' hdx hdy h1 h2
  · intro x hx
    rw [hlen] at hx
    simp only [Rl.ext, if_neg (show x ≠ H.length by omega)]
    exact hH.none x (by omega)
  · intro k hk; have := hH.S k hk; omega
  · intro x k s h
    by_cases e : x = H.length
    · simp only [Rl.ext, if_pos e, Option.some.injEq, Prod.mk.injEq] at h; omega
    · simp only [Rl.ext, if_neg e] at h; have := hH.lt _ _ _ h; omega
  · rintro k ⟨x, s, hx, hdx, h1⟩
    left
    rw [hlen] at hx
    by_cases e : x = H.length
    · simp only [Rl.ext, if_pos e, Option.some.injEq, Prod.mk.injEq] at h1
      rw [← h1.1]; exact hOwn
    · have hx' : x < H.length := by omega
      obtain ⟨h3, h4⟩ := hlive x hx' hdx
      rw [h4] at hdx
      simp only [Rl.ext, if_neg e] at h1
      exact ⟨x, s, hx', hdx, h1⟩

theorem HR.drew {w : World} {ρ : Rl} {H : List Blk} (h : HR w ρ H) : HR w.drew ρ H :=
  have hle : Le w ρ w.drew ρ := ⟨fun _ h => h, fun _ _ => rfl, fun _ _ h => h, fun _ c e f h => ⟨c, e, f, h, rfl⟩⟩
  ⟨fun r hr hd => by obtain ⟨b, sh, h1, h2⟩ := h.blk r hr hd; exact ⟨b, sh, h1, h2.mono hle rfl (h2.noS hd)⟩, h.one, h.none, h.S, h.lt⟩

theorem VR.drew {w : World} {ρ : Rl} {x : PV} {v : Value} (h : VR w ρ x v) : VR w.drew ρ x v :=
  VR.mono (show Le w ρ w.drew ρ from ⟨fun _ h => h, fun _ _ => rfl, fun _ _ h => h, fun _ c e f h => ⟨c, e, f, h, rfl⟩⟩) h

/-! ### append -/

/-- What the machine's append does with whatever it is given, where it must grow. -/
theorem append_grow_run {P : Program} {w : World} {sT xT ty e : TypeId} {i : TypeInfo} {d : TypeDesc} {zv : Value} (hu : P.underlying sT = some (.slice e)) (hxT : P.underlying xT = some d) (hd : ∀ k, d ≠ .int k)
    (hi : P.info? e = some i) (hz : i.zero = some zv) {base : Option Addr} {sLen sCap n : Nat} {x : Value} {old new : Array Value}
    (hlen : (Builtin.lenOf x).run P w = .ok n w) (hold : (Builtin.firstCells i.size sLen (.slice base sLen sCap)).run P w.drew = .ok old w.drew) (hnew : (Builtin.firstCells i.size n x).run P w.drew = .ok new w.drew)
    (hgrow : sCap < sLen + n) (hbytes : (sLen + n) * i.bytes ≤ 140737488355328) (h63 : sLen + n ≤ 4611686018427387904) :
    ∃ cap rest, sLen + n ≤ cap ∧ rest.size = (cap - (sLen + n)) * zv.cells.size ∧
      (Builtin.append_ #[sT, xT] ty #[.slice base sLen sCap, x]).run P w = .ok (.slice (some ⟨w.heap.size, 0, none⟩) (sLen + n) cap) (w.drew.alloc (.cells (old ++ new ++ rest) e)) := by
  refine ⟨(sLen + n) + w.tape w.drawn (.appendCap (sLen + n) sCap e) % (2 ^ 63 - (sLen + n)), Builtin.zeroCells zv.cells (((sLen + n) + w.tape w.drawn (.appendCap (sLen + n) sCap e) % (2 ^ 63 - (sLen + n))) - (sLen + n)), by omega, by simp [Builtin.zeroCells], ?_⟩
  have hfit := growslice_fits hgrow hbytes
  have e1 : (#[sT, xT] : Array TypeId)[0]? = some sT := rfl
  have e2 : (#[sT, xT] : Array TypeId)[1]? = some xT := rfl
  have e3 : (#[Value.slice base sLen sCap, x] : Array Value)[0]? = some (.slice base sLen sCap) := rfl
  have e4 : (#[Value.slice base sLen sCap, x] : Array Value)[1]? = some x := rfl
  have hsize : (sizeOf e).run P w = .ok i.size w := run_sizeOf' (by simp [szT, hi]) w
  have htype : ∀ w, (typeInfo e).run P w = .ok i w := fun w => by simp [typeInfo, hi]
  have hzero : (zeroValue e).run P w.drew = .ok zv w.drew := by simp [zeroValue, typeInfo, hi, hz]
  simp only [Builtin.append_, e1, e2, e3, e4, Sem.run_bind, run_underlying hu, Result.andThen_ok, hsize, run_underlying hxT, Sem.run_pure]
  simp only [Sem.run_bind, Bool.false_eq_true, if_false, hlen, Result.andThen_ok]
  rw [if_neg (show ¬ (sLen + n ≤ sCap) by omega)]
  simp only [Sem.run_bind, htype, Result.andThen_ok]
  rw [if_neg (show ¬ (((sLen + n : Nat) : Int) > IntKind.i64.max ∧ (False ∨ i.bytes = 0)) by rw [IntKind.max_i64]; omega)]
  simp only [Sem.run_bind, htype, Result.andThen_ok]
  rw [if_neg (show ¬ (Builtin.nextslicecap (sLen + n) sCap * i.bytes > 2 ^ 48) by omega)]
  simp only [Sem.run_bind, run_choose, Question.forced, Bool.false_eq_true, if_false, Result.andThen_ok, Question.cut, World.drew_eq, htype, run_askRoom, hold, Bool.not_false, if_true, hnew, hzero, newRow, run_newObj, Sem.run_pure]
  rfl

theorem append_room_run {P : Program} {w : World} {sT xT ty e : TypeId} {d : TypeDesc} {sz : Nat} (hu : P.underlying sT = some (.slice e)) (hxT : P.underlying xT = some d) (hd : ∀ k, d ≠ .int k) (hsz : szT P e = some sz)
    {base : Option Addr} {sLen sCap n : Nat} {x : Value} {new : Array Value} (hlen : (Builtin.lenOf x).run P w = .ok n w) (hnew : (Builtin.firstCells sz n x).run P w = .ok new w) (hroom : sLen + n ≤ sCap) :
    (Builtin.append_ #[sT, xT] ty #[.slice base sLen sCap, x]).run P w =
      (match base with | some a => (storeCells (a.add (sLen * sz)) new.toList).run P w | none => .ok () w).andThen fun _ w' => .ok (.slice base (sLen + n) sCap) w' := by
  have e1 : (#[sT, xT] : Array TypeId)[0]? = some sT := rfl
  have e2 : (#[sT, xT] : Array TypeId)[1]? = some xT := rfl
  have e3 : (#[Value.slice base sLen sCap, x] : Array Value)[0]? = some (.slice base sLen sCap) := rfl
  have e4 : (#[Value.slice base sLen sCap, x] : Array Value)[1]? = some x := rfl
  simp only [Builtin.append_, e1, e2, e3, e4, Sem.run_bind, run_underlying hu, Result.andThen_ok, run_sizeOf' hsz, run_underlying hxT, Sem.run_pure]
  simp only [Sem.run_bind, Bool.false_eq_true, if_false, hlen, Result.andThen_ok]
  rw [if_pos hroom]
  simp only [Bool.not_false, if_true, Sem.run_bind, hnew, Result.andThen_ok]
  cases base with
  | none => rfl
  | some a => simp only [Sem.run_bind]; rfl

def isIntT (P : Program) (t : TypeId) : Option Bool :=
  match P.underlying t with
  | some (.int _) => some true
  | some _ => some false
  | none => none

/-- The tag of an appended row. -/
def growTag (H : List Blk) (r off : Nat) (tight : Bool) (e : TypeId) : Option (TypeId × Bool) :=
  if tight then some (e, false) else match H.getD r .dead with
    | .cells _ (some (t, _)) => if t = e ∧ off = 0 then some (e, false) else none
    | _ => none

theorem growTag_or (H : List Blk) (r off : Nat) (tight : Bool) (e : TypeId) : growTag H r off tight e = none ∨ growTag H r off tight e = some (e, false) := by
  unfold growTag
  split
  · exact .inr rfl
  · split
    · split
      · exact .inr rfl
      · exact .inl rfl
    · exact .inl rfl

theorem growTag_keep {H : List Blk} {r off : Nat} {e e0 : TypeId} {cs : List PV} {tg : Option (TypeId × Bool)} (h : H.getD r .dead = .cells cs tg) {sh n k n' k' : Nat} (htg : TagOk tg e0 sh n k) : TagOk (growTag H r off false e) e0 (sh + off) n' k' := by
  unfold growTag
  simp only [Bool.false_eq_true, if_false, h]
  split
  · rename_i t b heq
    cases heq
    split
    · rename_i e1; obtain ⟨rfl, rfl⟩ := e1; exact ⟨htg.1, htg.2.1, fun h => by cases h⟩
    · trivial
  · trivial

def dappend (P : Program) (H : List Blk) (sT xT : TypeId) (x y : PV) : Option (PV × List Blk) :=
  match P.underlying sT with
  | some (.slice e) => match P.info? e, isIntT P xT with
    | some i, some false => match dsrc H i.size y, i.zero with
      | some (m, new), some zv =>
        if m = 0 then match x with
          | .nils => some (.nils, H)
          | .lst xs t => some (.lst xs t, H)
          | .row r off len sz t => some (.row r off len sz t, H)
          | _ => none
        else match x with
          | .nils => if m * i.bytes ≤ 140737488355328 ∧ m ≤ 4611686018427387904 ∧ zv.cells.size = i.size then some (.row H.length 0 m i.size false, H ++ [.cells new (some (e, false))]) else none
          | .lst xs true => match dsrc H i.size (.lst xs true) with
            | some (len, old) => if (len + m) * i.bytes ≤ 140737488355328 ∧ len + m ≤ 4611686018427387904 ∧ zv.cells.size = i.size then some (.row H.length 0 (len + m) i.size false, H ++ [.cells (old ++ new) (some (e, false))]) else none
            | none => none
          | .row r off len sz tight => match dsrc H i.size (.row r off len sz tight) with
            | some (len', old) => if (len' + m) * i.bytes ≤ 140737488355328 ∧ len' + m ≤ 4611686018427387904 ∧ zv.cells.size = i.size ∧ new.all oneCell = true then
                some (.row H.length 0 (len' + m) i.size false, (if tight then H else H.set r .dead) ++ [.cells (old ++ new) (growTag H r off tight e)])
              else none
            | none => none
          | _ => none
      | _, _ => none
    | _, _ => none
  | _ => none

theorem AV.append {w : World} {ρ : Rl} {a b : List PV} {u v : Array Value} (h : AV w ρ a u) (k : AV w ρ b v) : AV w ρ (a ++ b) (u ++ v) := by
  refine ⟨by simp [h.1, k.1], fun t ht => ?_⟩
  have h1 := h.1
  have k1 := k.1
  by_cases hl : t < a.length
  · have e1 : (a ++ b).getD t .undef = a.getD t .undef := by simp [List.getD, List.getElem?_append_left hl]
    have e2 : (u ++ v).getD t Go.undef = u.getD t Go.undef := by
      have : t < u.size := by omega
      have h2 : t < u.size + v.size := by omega
      simp [this, h2]
    rw [e1, e2]; exact h.2 t hl
  · have hl2 : t - a.length < b.length := by simp at ht; omega
    have e1 : (a ++ b).getD t .undef = b.getD (t - a.length) .undef := by simp [List.getD, List.getElem?_append_right (Nat.le_of_not_lt hl)]
    have e2 : (u ++ v).getD t Go.undef = v.getD (t - a.length) Go.undef := by
      have h6 : t - a.length < v.size := by omega
      simp [Array.getElem?_append, h1, hl, h6]
    rw [e1, e2]; exact k.2 _ hl2


theorem isIntT_false {P : Program} {t : TypeId} (h : isIntT P t = some false) : ∃ d, P.underlying t = some d ∧ ∀ k, d ≠ .int k := by
  unfold isIntT at h
  split at h
  · cases h
  · rename_i d hd hu
    exact ⟨d, hu, fun k e => by subst e; exact hd k rfl⟩
  · cases h

theorem zero_of_info {P : Program} {e : TypeId} {i : TypeInfo} (hi : P.info? e = some i) : szT P e = some i.size := by simp [szT, hi]

/-- A new row with spare room behind it. -/
theorem grown_new {w : World} {ρ : Rl} {H : List Blk} (hH : HR w ρ H) {cs : List PV} {vs rest : Array Value} (hA : AV w ρ cs vs) (e : TypeId) {tg : Option (TypeId × Bool)} (htg : tg = none ∨ tg = some (e, false)) {len sz cap : Nat} (hlen : cs.length = len * sz) (hcap : len ≤ cap)
    (hrest : rest.size = (cap - len) * sz) :
    HR (w.drew.alloc (.cells (vs ++ rest) e)) (ρ.ext H.length (w.heap.size, 0)) (H ++ [.cells cs tg]) ∧ Step w ρ H (w.drew.alloc (.cells (vs ++ rest) e)) (ρ.ext H.length (w.heap.size, 0)) (H ++ [.cells cs tg]) ∧
      VR (w.drew.alloc (.cells (vs ++ rest) e)) (ρ.ext H.length (w.heap.size, 0)) (.row H.length 0 len sz false) (.slice (some ⟨w.heap.size, 0, none⟩) len cap) := by
  have hA' : AV w.drew ρ cs vs := ⟨hA.1, fun t ht => (hA.2 t ht).drew⟩
  have hb := (new_cells hH.drew hA' (vs ++ rest) (fun t ht => by
    simp [Array.getElem?_append, ht]) (by simp) e (tg := tg) (by rcases htg with rfl | rfl; exact trivial; exact ⟨rfl, rfl, fun h => by cases h⟩)).1
  obtain ⟨h1, h2⟩ := new_step hH (w' := w.drew.alloc (.cells (vs ++ rest) e)) (o := .cells (vs ++ rest) e) rfl rfl rfl rfl hb
  refine ⟨h1, h2, .row (sh := 0) 0 len sz (ext_self _ _ _) hcap (fun h => by cases h) ⟨vs ++ rest, e, (0, 0), heap_alloc_new w.drew _, ?_⟩⟩
  simp only [Array.size_append, hA.1, hlen, hrest]
  have : len * sz + (cap - len) * sz = cap * sz := by rw [← Nat.add_mul]; congr 1; omega
  omega

theorem append_snd {P : Program} {w : World} {ρ : Rl} {H : List Blk} (hH : HR w ρ H) {sT xT ty : TypeId} {x y z : PV} {u v : Value} {H' : List Blk} (hx : VR w ρ x u) (hy : VR w ρ y v)
    (h : dappend P H sT xT x y = some (z, H')) : ∃ w' ρ' r, (Builtin.append_ #[sT, xT] ty #[u, v]).run P w = .ok r w' ∧ VR w' ρ' z r ∧ HR w' ρ' H' ∧ Step w ρ H w' ρ' H' := by
  unfold dappend at h
  split at h
  · rename_i e hu
    split at h
    · rename_i i hi hxT
      obtain ⟨d, hd1, hd2⟩ := isIntT_false hxT
      have hsz := zero_of_info hi
      split at h
      · rename_i m new zv hsrc hz
        obtain ⟨hlen, hnl, ⟨nv, hn1, hn2⟩, _⟩ := src_snd (P := P) hH hy hsrc
        obtain ⟨hlen', _, ⟨nvd, hnd1, hnd2⟩, _⟩ := src_snd (P := P) hH.drew hy.drew hsrc
        have hndA : AV w ρ new nvd := ⟨hnd2.1, fun t ht => (hnd2.2 t ht).mono (show Le w.drew ρ w ρ from ⟨fun _ h => h, fun _ _ => rfl, fun _ _ h => h, fun _ c e f h => ⟨c, e, f, h, rfl⟩⟩)⟩
        split at h
        · rename_i hm; subst hm
          have hnv : nv.toList = [] := by
            have := hn2.1
            rw [hnl, Nat.zero_mul] at this
            exact List.eq_nil_of_length_eq_zero (by simpa using this)
          have room : ∀ (base : Option Addr) (sLen sCap : Nat), sLen ≤ sCap → (Builtin.append_ #[sT, xT] ty #[.slice base sLen sCap, v]).run P w = .ok (.slice base sLen sCap) w := by
            intro base sLen sCap hc
            rw [append_room_run hu hd1 hd2 hsz hlen hn1 (by omega), hnv]
            cases base <;> simp [storeCells]
          split at h
          · simp at h; obtain ⟨rfl, rfl⟩ := h
            cases hx
            exact ⟨w, ρ, _, room _ _ _ (Nat.le_refl _), .nils, hH, Step.refl _ _ _⟩
          · simp only [Option.some.injEq, Prod.mk.injEq] at h; obtain ⟨rfl, rfl⟩ := h
            cases hx with
            | lst0 => exact ⟨w, ρ, _, room _ _ _ (Nat.le_refl _), .lst0 _, hH, Step.refl _ _ _⟩
            | lst vs h1 h2 h3 h4 h5 h6 => exact ⟨w, ρ, _, room _ _ _ h2, .lst vs h1 h2 h3 h4 h5 h6, hH, Step.refl _ _ _⟩
          · simp only [Option.some.injEq, Prod.mk.injEq] at h; obtain ⟨rfl, rfl⟩ := h
            cases hx with
            | @row _ b sh _ _ _ _ cap h1 h2 h3 h4 => exact ⟨w, ρ, _, room _ _ _ h2, .row _ _ _ h1 h2 h3 h4, hH, Step.refl _ _ _⟩
          · cases h
        · rename_i hm
          split at h
          · split at h
            · rename_i hc
              simp only [Option.some.injEq, Prod.mk.injEq] at h; obtain ⟨rfl, rfl⟩ := h
              cases hx
              obtain ⟨cap, rest, hcap, hrest, hrun⟩ := append_grow_run (ty := ty) (base := none) (sLen := 0) (sCap := 0) (old := #[]) hu hd1 hd2 hi hz hlen rfl hnd1 (by omega) (by rw [Nat.zero_add]; exact hc.1) (by omega)
              obtain ⟨h1, h2, h3⟩ := grown_new hH (cs := new) (vs := nvd) (rest := rest) (len := m) (sz := i.size) (cap := cap) hndA e (.inr rfl) hnl (by omega) (by rw [hrest, hc.2.2, Nat.zero_add])
              rw [Nat.zero_add] at hrun
              exact ⟨_, _, _, by rw [hrun, Array.empty_append], h3, h1, h2⟩
            · cases h
          · rename_i xs
            split at h
            · rename_i len old hold
              split at h
              · rename_i hc
                simp only [Option.some.injEq, Prod.mk.injEq] at h; obtain ⟨rfl, rfl⟩ := h
                obtain ⟨ho1, hol, ⟨ov, ho2, ho3⟩, _⟩ := src_snd (P := P) hH.drew hx.drew hold
                have hoA : AV w ρ old ov := ⟨ho3.1, fun t ht => (ho3.2 t ht).mono (show Le w.drew ρ w ρ from ⟨fun _ h => h, fun _ _ => rfl, fun _ _ h => h, fun _ c e f h => ⟨c, e, f, h, rfl⟩⟩)⟩
                have hlx : len = xs.length := by
                  unfold dsrc at hold
                  simp only at hold
                  split at hold
                  · simp at hold; exact hold.1.symm
                  · cases hold
                cases hx with
                | lst0 =>
                  subst hlx
                  obtain ⟨cap, rest, hcap, hrest, hrun⟩ := append_grow_run (ty := ty) (base := none) (sLen := 0) (sCap := 0) (old := ov) hu hd1 hd2 hi hz hlen ho2 hnd1 (by omega) hc.1 hc.2.1
                  obtain ⟨h1, h2, h3⟩ := grown_new hH (cs := old ++ new) (vs := ov ++ nvd) (rest := rest) (len := 0 + m) (sz := i.size) (cap := cap) (hoA.append hndA) e (.inr rfl)
                    (by rw [List.length_append, hol, hnl, Nat.add_mul]; rfl) hcap (by rw [hrest, hc.2.2])
                  exact ⟨_, _, _, hrun, h3, h1, h2⟩
                | @lst _ _ a cap0 sz0 vs q1 q2 q3 q4 q5 q6 =>
                  have hcap0 : cap0 = len := by rw [hlx]; exact q3 rfl
                  subst hlx
                  obtain ⟨cap, rest, hcap, hrest, hrun⟩ := append_grow_run (ty := ty) (base := some a) (sLen := xs.length) (sCap := cap0) (old := ov) hu hd1 hd2 hi hz hlen ho2 hnd1 (by omega) hc.1 hc.2.1
                  obtain ⟨h1, h2, h3⟩ := grown_new hH (cs := old ++ new) (vs := ov ++ nvd) (rest := rest) (len := xs.length + m) (sz := i.size) (cap := cap) (hoA.append hndA) e (.inr rfl)
                    (by rw [List.length_append, hol, hnl, Nat.add_mul]) hcap (by rw [hrest, hc.2.2])
                  exact ⟨_, _, _, hrun, h3, h1, h2⟩
              · cases h
            · cases h
          · rename_i r off len sz' tight
            split at h
            · rename_i len' old hold
              split at h
              · rename_i hc
                obtain ⟨hb, h62, hzs, hone⟩ := hc
                simp only [Option.some.injEq, Prod.mk.injEq] at h; obtain ⟨rfl, rfl⟩ := h
                obtain ⟨ho1, hol, ⟨ov, ho2, ho3⟩, _⟩ := src_snd (P := P) hH.drew hx.drew hold
                have hoA : AV w ρ old ov := ⟨ho3.1, fun t ht => (ho3.2 t ht).mono (show Le w.drew ρ w ρ from ⟨fun _ h => h, fun _ _ => rfl, fun _ _ h => h, fun _ c e f h => ⟨c, e, f, h, rfl⟩⟩)⟩
                obtain ⟨cs, tg, hcs, hszs, hfit, hlx, holdeq⟩ : ∃ cs tg, H.getD r .dead = .cells cs tg ∧ sz' = i.size ∧ off + len * i.size ≤ cs.length ∧ len' = len ∧ old = (cs.drop off).take (len * i.size) := by
                  unfold dsrc at hold
                  simp only at hold
                  split at hold
                  · rename_i cs tg hcs
                    split at hold
                    · rename_i hcc
                      simp at hold
                      exact ⟨cs, tg, hcs, hcc.1, hcc.2, hold.1.symm, hold.2.symm⟩
                    · cases hold
                  · cases hold
                subst hlx
                subst hszs
                cases hx with
                | @row _ b sh _ _ _ _ cap0 hβ hcap0 ht hroom =>
                  by_cases hg : cap0 < len' + m
                  · obtain ⟨cap, rest, hcap, hrest, hrun⟩ := append_grow_run (ty := ty) (base := some ⟨b, sh + off, none⟩) (sLen := len') (sCap := cap0) (old := ov) hu hd1 hd2 hi hz hlen ho2 hnd1 hg hb h62
                    have hK : HR w ρ (if tight = true then H else H.set r .dead) ∧ Step w ρ H w ρ (if tight = true then H else H.set r .dead) := by
                      split
                      · exact ⟨hH, Step.refl _ _ _⟩
                      · exact kill_step hH r
                    have hKl : (if tight = true then H else H.set r .dead).length = H.length := by split <;> simp
                    obtain ⟨h1, h2, h3⟩ := grown_new hK.1 (cs := old ++ new) (vs := ov ++ nvd) (rest := rest) (len := len' + m) (sz := i.size) (cap := cap) (hoA.append hndA) e (growTag_or H r off tight e)
                      (by rw [List.length_append, hol, hnl, Nat.add_mul]) hcap (by rw [hrest, hzs])
                    rw [hKl] at h1 h2 h3
                    exact ⟨_, _, _, hrun, h3, h1, hK.2.trans h2⟩
                  · have htf : tight = false := by
                      cases tight with
                      | false => rfl
                      | true => have := ht rfl; omega
                    subst htf
                    simp only [Bool.false_eq_true, if_false]
                    obtain ⟨hr, c, e0, hcb, hsc, hS, hvs, htg0⟩ := row_of hH hcs hβ
                    obtain ⟨c', e', f', hcb', hcs'⟩ := hroom
                    rw [hcb] at hcb'; simp at hcb'; obtain ⟨rfl, rfl, rfl⟩ := hcb'
                    have hnvl : nv.toList.length = m * i.size := by simpa [hnl] using hn2.1
                    have hfit2 : sh + off + len' * i.size + nv.toList.length ≤ c.size := by
                      have h1 : (len' + m) * i.size ≤ cap0 * i.size := Nat.mul_le_mul_right _ (by omega)
                      rw [Nat.add_mul] at h1
                      omega
                    have hset := setRow_heap w b c (spliced c (sh + off + len' * i.size) nv.toList) e0 (0, 0) hcb
                    obtain ⟨h1, h2⟩ := renum_step (w' := w.setRow b (spliced c (sh + off + len' * i.size) nv.toList)) (sh' := sh + off) (blk := .cells (old ++ new) (growTag H r off false e)) hH hr (by rw [hcs]; simp) hβ (fun k hk => setRow_other' w b k _ hk) (by simp) (fun c1 e1 f1 q => by
                      rw [hcb] at q; simp at q; obtain ⟨rfl, rfl, rfl⟩ := q
                      exact ⟨_, _, _, hset, size_spliced _ _ _ hfit2⟩) rfl rfl rfl (fun hle => by
                      have holen : old.length = len' * i.size := hol
                      refine ⟨hS, _, _, hset, by rw [size_spliced _ _ _ hfit2, List.length_append, holen, hnl]; omega, fun t ht' => ?_, growTag_keep hcs htg0⟩
                      rw [getD_spliced _ _ _ hfit2]
                      by_cases hlt : t < len' * i.size
                      · rw [if_neg (by omega)]
                        have e1 : (old ++ new).getD t .undef = cs.getD (off + t) .undef := by
                          rw [holdeq]
                          simp only [List.getD]
                          rw [List.getElem?_append_left (by simp; omega)]
                          simp [List.getElem?_drop, hlt]
                        rw [e1]
                        have := (hvs (off + t) (by omega)).mono hle
                        rw [← Nat.add_assoc] at this
                        exact this
                      · have ht2 : t - len' * i.size < new.length := by simp at ht'; omega
                        rw [if_pos (by omega)]
                        have e1 : (old ++ new).getD t .undef = new.getD (t - len' * i.size) .undef := by
                          simp only [List.getD]
                          rw [List.getElem?_append_right (by omega), holen]
                        rw [e1]
                        have := (hn2.2 _ ht2).mono hle
                        have e2 : sh + off + t - (sh + off + len' * i.size) = t - len' * i.size := by omega
                        rw [e2]
                        have e3 : nv.toList.getD (t - len' * i.size) Go.undef = nv.getD (t - len' * i.size) Go.undef := by simp
                        rw [e3]; exact this)
                    refine ⟨_, _, .slice (some ⟨b, sh + off, none⟩) (len' + m) cap0, ?_, ?_, h1, h2⟩
                    · rw [append_room_run hu hd1 hd2 hsz hlen hn1 (by omega)]
                      simp only [Addr.add_lit]
                      have := run_storeCells_at (P := P) b (sh + off + len' * i.size) e0 nv.toList 0 c w hcb (by omega) (oneCell_all hn2 hone)
                      simp only [Nat.add_zero] at this
                      rw [this]
                      rfl
                    · have := VR.row (w := w.setRow b (spliced c (sh + off + len' * i.size) nv.toList)) (ρ := ρ.ext H.length (b, sh + off)) (sh := sh + off) 0 (len' + m) i.size (tight := false) (cap := cap0) (ext_self ρ H.length _) (by omega) (fun h => by cases h)
                        ⟨_, _, _, hset, by rw [size_spliced _ _ _ hfit2]; omega⟩
                      exact this
              · cases h
            · cases h
          · cases h
      · cases h
    · cases h
  · cases h

end Go.MW
