/-
  OUR OWN: operations that make memory, and that write it: the frame lemmas; what makes a new block.
-/
import Derived.Test.YtemgdpnkhknhlaaMw7
import Derived.Laws.CopyRow
import Derived.Laws.Append
import Derived.MapKept
namespace Go.MW

def Rl.ext (ρ : Rl) (n : Nat) (p : Nat × Nat) : Rl := { S := ρ.S, β := fun r => if r = n then some p else ρ.β r }

theorem ext_le {ρ : Rl} {n : Nat} {p : Nat × Nat} (h : ρ.β n = none) : ∀ r q, ρ.β r = some q → (ρ.ext n p).β r = some q := by
  intro r q hq
  unfold Rl.ext
  dsimp only
  rw [if_neg (by rintro rfl; rw [h] at hq; cases hq)]
  exact hq

/-- What an operation comes to, told. -/
def OpS (P : Program) (s : Sem Next) (w : World) (ρ : Rl) (H : List Blk) (y : PV) (H' : List Blk) : Prop :=
  ∃ w' ρ' nx u, s.run P w = .ok nx w' ∧ (nx = .value u ∨ (nx = .skip ∧ u = Go.undef)) ∧ VR w' ρ' y u ∧ HR w' ρ' H' ∧ Step w ρ H w' ρ' H'

theorem OpS.read {P : Program} {s : Sem Next} {w : World} {ρ : Rl} {H : List Blk} (hH : HR w ρ H) {y : PV} (h : ∃ u, s.run P w = .ok (.value u) w ∧ VR w ρ y u) : OpS P s w ρ H y H := by
  obtain ⟨u, h1, h2⟩ := h
  exact ⟨w, ρ, _, u, h1, .inl rfl, h2, hH, Step.refl _ _ _⟩

theorem BR.mono {w w' : World} {ρ ρ' : Rl} (hle : Le w ρ w' ρ') {b sh : Nat} (hb : w'.heap[b]? = w.heap[b]?) (hS : ¬ ρ'.S b) {blk : Blk} (h : BR w ρ b sh blk) : BR w' ρ' b sh blk := by
  cases blk with
  | dead => trivial
  | cells cs tg =>
    obtain ⟨_, c, e, h1, h2, h3, h4⟩ := h
    exact ⟨hS, c, e, by rw [hb]; exact h1, h2, fun t ht => (h3 t ht).mono hle, h4⟩
  | map es =>
    obtain ⟨_, h0, ents, h1, h2, h3⟩ := h
    exact ⟨hS, h0, ents, by rw [hb]; exact h1, h2, fun i hi => ⟨(h3 i hi).1.mono hle, (h3 i hi).2.1.mono hle, (h3 i hi).2.2⟩⟩
  | iter m since seen last =>
    obtain ⟨_, h0, h1, h2⟩ := h
    have e : (m.bind fun r => (ρ'.β r).map (·.1)) = (m.bind fun r => (ρ.β r).map (·.1)) := by
      cases m with
      | none => rfl
      | some r =>
        obtain ⟨p, hp⟩ := h2 r rfl
        simp [hp, hle.β r p hp]
    exact ⟨hS, h0, by rw [hb, e]; exact h1, fun r hr => by obtain ⟨p, hp⟩ := h2 r hr; exact ⟨p, hle.β r p hp⟩⟩

theorem BR.noS {w : World} {ρ : Rl} {b sh : Nat} {blk : Blk} (h : BR w ρ b sh blk) (hd : blk ≠ .dead) : ¬ ρ.S b := by
  cases blk with
  | dead => exact absurd rfl hd
  | cells cs tg => exact h.1
  | map es => exact h.1
  | iter m since seen last => exact h.1

theorem getD_append_self (H : List Blk) (b : Blk) : (H ++ [b]).getD H.length .dead = b := by simp [List.getD]
theorem getD_append_lt (H : List Blk) (b : Blk) {r : Nat} (h : r < H.length) : (H ++ [b]).getD r .dead = H.getD r .dead := by simp [List.getD, List.getElem?_append_left h]

/-- A new block. -/
theorem new_step {w w' : World} {ρ : Rl} {H : List Blk} (hH : HR w ρ H) {o : Obj} (hw : w'.heap = w.heap.push o) (hos : w'.os = w.os) (htape : w'.tape = w.tape) (hout : w'.output = w.output) {blk : Blk}
    (hb : BR w' (ρ.ext H.length (w.heap.size, 0)) w.heap.size 0 blk) :
    HR w' (ρ.ext H.length (w.heap.size, 0)) (H ++ [blk]) ∧ Step w ρ H w' (ρ.ext H.length (w.heap.size, 0)) (H ++ [blk]) := by
  have hnone : ρ.β H.length = none := hH.none _ (Nat.le_refl _)
  have hold : ∀ k, k < w.heap.size → w'.heap[k]? = w.heap[k]? := by
    intro k hk; rw [hw, Array.getElem?_push, if_neg (by omega)]
  have hsize : w'.heap.size = w.heap.size + 1 := by rw [hw]; simp
  have hle : Le w ρ w' (ρ.ext H.length (w.heap.size, 0)) := ⟨fun b h => h, fun b h => hold b (hH.S b h), ext_le hnone, fun b c e f h => by
    have : b < w.heap.size := (Array.getElem?_eq_some_iff.1 h).1
    exact ⟨c, e, f, by rw [hold b this]; exact h, rfl⟩⟩
  have hown : ∀ b, Own (ρ.ext H.length (w.heap.size, 0)) (H ++ [blk]) b → Own ρ H b ∨ w.heap.size ≤ b := by
    rintro b ⟨r, sh, hr, hd, hβ⟩
    by_cases e : r = H.length
    · subst e
      simp only [Rl.ext, if_true, Option.some.injEq, Prod.mk.injEq] at hβ
      right; omega
    · have hr' : r < H.length := by simp at hr; omega
      left
      refine ⟨r, sh, hr', ?_, ?_⟩
      · rw [getD_append_lt H blk hr'] at hd; exact hd
      · simp only [Rl.ext, if_neg e] at hβ; exact hβ
  refine ⟨⟨?_, ?_, ?_, ?_, ?_⟩, ⟨hle, by omega, fun b hb' _ => hold b hb', hown, fun b h => .inl h, by simp, hos, htape, hout⟩⟩
  · intro r hr hd
    by_cases e : r = H.length
    · subst e
      rw [getD_append_self]
      exact ⟨w.heap.size, 0, by simp [Rl.ext], hb⟩
    · have hr' : r < H.length := by simp at hr; omega
      rw [getD_append_lt H blk hr'] at hd ⊢
      obtain ⟨b, sh, hβ, hbr⟩ := hH.blk r hr' hd
      exact ⟨b, sh, hle.β _ _ hβ, hbr.mono hle (hold b (hH.lt _ _ _ hβ)) (hbr.noS hd)⟩
  · intro r r' b sh sh' hr hr' hd hd' hβ hβ'
    by_cases e : r = H.length
    · by_cases e' : r' = H.length
      · omega
      · have hr2 : r' < H.length := by simp at hr'; omega
        simp only [Rl.ext, if_neg e'] at hβ'
        simp only [Rl.ext, if_pos e, Option.some.injEq, Prod.mk.injEq] at hβ
        have := hH.lt _ _ _ hβ'
        omega
    · have hr1 : r < H.length := by simp at hr; omega
      simp only [Rl.ext, if_neg e] at hβ
      by_cases e' : r' = H.length
      · simp only [Rl.ext, if_pos e', Option.some.injEq, Prod.mk.injEq] at hβ'
        have := hH.lt _ _ _ hβ
        omega
      · have hr2 : r' < H.length := by simp at hr'; omega
        simp only [Rl.ext, if_neg e'] at hβ'
        rw [getD_append_lt H blk hr1] at hd
        rw [getD_append_lt H blk hr2] at hd'
        exact hH.one r r' b sh sh' hr1 hr2 hd hd' hβ hβ'
  · intro r hr
    have : r ≠ H.length := by simp at hr; omega
    simp only [Rl.ext, if_neg this]
    exact hH.none r (by simp at hr; omega)
  · intro b hb'
    have := hH.S b hb'
    omega
  · intro r b sh hβ
    by_cases e : r = H.length
    · simp only [Rl.ext, if_pos e, Option.some.injEq, Prod.mk.injEq] at hβ; omega
    · simp only [Rl.ext, if_neg e] at hβ
      have := hH.lt _ _ _ hβ
      omega

theorem getD_set_self (H : List Blk) (r : Nat) (b : Blk) (h : r < H.length) : (H.set r b).getD r .dead = b := by simp [List.getD, h]
theorem getD_set_ne (H : List Blk) {r r' : Nat} (b : Blk) (h : r' ≠ r) : (H.set r b).getD r' .dead = H.getD r' .dead := by
  simp [List.getD, List.getElem?_set_ne (Ne.symm h)]

/-- One of our own blocks is written. -/
theorem put_step {w w' : World} {ρ : Rl} {H : List Blk} (hH : HR w ρ H) {r b sh : Nat} (hr : r < H.length) (hd : H.getD r .dead ≠ .dead) (hβ : ρ.β r = some (b, sh))
    (hold : ∀ k, k ≠ b → w'.heap[k]? = w.heap[k]?) (hsize : w'.heap.size = w.heap.size)
    (hrow : ∀ (c : Array Value) (e : TypeId) (f : Nat × Nat), w.heap[b]? = some (Obj.cells c e f) → ∃ (c2 : Array Value) (e2 : TypeId) (f2 : Nat × Nat), w'.heap[b]? = some (Obj.cells c2 e2 f2) ∧ c2.size = c.size)
    (hos : w'.os = w.os) (htape : w'.tape = w.tape) (hout : w'.output = w.output) {blk : Blk} (hb : Le w ρ w' ρ → BR w' ρ b sh blk) :
    HR w' ρ (H.set r blk) ∧ Step w ρ H w' ρ (H.set r blk) := by
  obtain ⟨b', sh', hβ', hbr⟩ := hH.blk r hr hd
  rw [hβ] at hβ'; simp at hβ'; obtain ⟨rfl, rfl⟩ := hβ'
  have hnS := hbr.noS hd
  have hle : Le w ρ w' ρ := ⟨fun _ h => h, fun k hk => hold k (by rintro rfl; exact hnS hk), fun _ _ h => h, fun k c e f h => by
    by_cases e' : k = b
    · subst e'; exact hrow c e f h
    · exact ⟨c, e, f, by rw [hold k e']; exact h, rfl⟩⟩
  have hOwn : Own ρ H b := ⟨r, sh, hr, hd, hβ⟩
  refine ⟨⟨?_, ?_, ?_, ?_, ?_⟩, ⟨hle, by omega, fun k _ ho => hold k (by rintro rfl; exact ho hOwn), ?_, fun _ h => .inl h, by simp, hos, htape, hout⟩⟩
  · intro r1 hr1 hd1
    simp at hr1
    by_cases e : r1 = r
    · subst e
      rw [getD_set_self H r1 blk hr]
      exact ⟨b, sh, hβ, hb hle⟩
    · rw [getD_set_ne H blk e] at hd1 ⊢
      obtain ⟨b1, sh1, hβ1, hbr1⟩ := hH.blk r1 hr1 hd1
      have hne : b1 ≠ b := by
        rintro rfl
        exact e (hH.one r1 r b1 sh1 sh hr1 hr hd1 hd hβ1 hβ)
      exact ⟨b1, sh1, hβ1, hbr1.mono hle (hold b1 hne) (hbr1.noS hd1)⟩
  · intro r1 r2 k s1 s2 hr1 hr2 hd1 hd2 h1 h2
    simp at hr1 hr2
    have live : ∀ x, (H.set r blk).getD x .dead ≠ .dead → H.getD x .dead ≠ .dead := by
      intro x hx
      by_cases e : x = r
      · subst e; exact hd
      · rw [getD_set_ne H blk e] at hx; exact hx
    exact hH.one r1 r2 k s1 s2 hr1 hr2 (live _ hd1) (live _ hd2) h1 h2
  · intro r1 hr1; simp at hr1; exact hH.none r1 hr1
  · intro k hk; have := hH.S k hk; omega
  · intro r1 k s h; have := hH.lt _ _ _ h; omega
  · rintro k ⟨r1, s1, hr1, hd1, h1⟩
    left
    simp at hr1
    refine ⟨r1, s1, hr1, ?_, h1⟩
    by_cases e : r1 = r
    · subst e; exact hd
    · rw [getD_set_ne H blk e] at hd1; exact hd1

/-! ### operations that make a block -/

/-- The new block, and the value that leads to it. -/
inductive NewV where
  | ptr
  | row (len sz : Nat) (tight : Bool)
  | map
  | iter

def NewV.at : NewV → Nat → PV
  | .ptr, n => .ptr n 0
  | .row len sz tight, n => .row n 0 len sz tight
  | .map, n => .map n
  | .iter, n => .iter n

def repCells (zs : List PV) (n : Nat) : List PV := (List.range n).map fun i => zs.getD (i % zs.length) .undef

def dnew (P : Program) (H : List Blk) (f : Operand → PV) (o : Op) : Option (Blk × NewV) :=
  match o with
  | .alloc t => match zeroPV P t with
    | some z => (cellsPV z).map fun cs => (.cells cs (some (t, true)), .ptr)
    | none => none
  | .box _ x => (cellsPV (f x)).map fun cs => (.cells cs none, .ptr)
  | .buildSlice t len parts => match P.underlying t with
    | some (.slice e) => match szT P e, zeroPV P e with
      | some sz, some z => match cellsPV z with
        | some zs => if len * sz ≤ 16777216 ∧ zs.length = sz then
            (dfill (fun i => some (i * sz, sz)) (repCells zs (len * sz)) (parts.toList.map fun (i, x) => (i, f x))).map fun cs => (.cells cs none, .row len sz true)
          else none
        | none => none
      | _, _ => none
    | _ => none
  | .makeMap t r => match r with
    | none => some (.map [], .map)
    | some x => match P.underlying t, f x with
      | some (.map _ _), .int _ _ => some (.map [], .map)
      | _, _ => none
  | .makeSlice t l c => match P.underlying t with
    | some (.slice e) => match szT P e, zeroPV P e, P.info? e, f l, f c with
      | some sz, some z, some i, .int _ n, .int _ m => match cellsPV z with
        | some zs => if zs.length = sz ∧ 0 ≤ n ∧ n ≤ m ∧ m ≤ 4611686018427387904 ∧ (i.bytes : Int) * m ≤ 281474976710656 then
            some (.cells (repCells zs (n.toNat * sz)) none, .row n.toNat sz (n == m))
          else none
        | none => none
      | _, _, _, _, _ => none
    | _ => none
  | .range t x => match P.underlying t, f x with
    | some (.map _ _), .nilm => some (.iter none 0 [] 0, .iter)
    | some (.map _ _), .map r => match H.getD r .dead with
      | .map es => some (.iter (some r) es.length [] es.length, .iter)
      | _ => none
    | _, _ => none
  | _ => none

theorem new_cells {w : World} {ρ : Rl} {H : List Blk} (hH : HR w ρ H) {cs : List PV} {vs : Array Value} (hA : AV w ρ cs vs) (c : Array Value) (hpre : ∀ t, t < vs.size → c.getD t Go.undef = vs.getD t Go.undef) (hsz : vs.size ≤ c.size) (e : TypeId) {tg : Option (TypeId × Bool)} (htg : TagOk tg e 0 c.size vs.size) :
    BR (w.alloc (.cells c e)) (ρ.ext H.length (w.heap.size, 0)) w.heap.size 0 (.cells cs tg) ∧ Le w ρ (w.alloc (.cells c e)) (ρ.ext H.length (w.heap.size, 0)) := by
  have hnone : ρ.β H.length = none := hH.none _ (Nat.le_refl _)
  have hold : ∀ k, k < w.heap.size → (w.alloc (.cells c e)).heap[k]? = w.heap[k]? := fun k hk => heap_alloc_old w _ hk
  have hle : Le w ρ (w.alloc (.cells c e)) (ρ.ext H.length (w.heap.size, 0)) := ⟨fun b h => h, fun b h => hold b (hH.S b h), ext_le hnone, fun b c e f h => by
    have : b < w.heap.size := (Array.getElem?_eq_some_iff.1 h).1
    exact ⟨c, e, f, by rw [hold b this]; exact h, rfl⟩⟩
  refine ⟨⟨fun h => ?_, c, e, heap_alloc_new w _, by have := hA.1; omega, fun t ht => ?_, by rw [← hA.1]; exact htg⟩, hle⟩
  · have := hH.S _ h; omega
  · rw [Nat.zero_add, hpre t (by have := hA.1; omega)]
    exact (hA.2 t ht).mono hle

theorem repCells_AV {w : World} {ρ : Rl} {zs : List PV} {zv : Array Value} (h : AV w ρ zs zv) (n : Nat) (hn : n = 0 ∨ 0 < zs.length) :
    AV w ρ (repCells zs n) ((Array.range n).map (fun x => zv[x % zv.size]!)) := by
  refine ⟨by simp [repCells], fun t ht => ?_⟩
  have ht' : t < n := by simpa [repCells] using ht
  have hpos : 0 < zs.length := by omega
  have hm : t % zs.length < zs.length := Nat.mod_lt _ hpos
  have := h.2 (t % zs.length) hm
  have e1 : (repCells zs n).getD t .undef = zs.getD (t % zs.length) .undef := by simp [repCells, List.getD, ht']
  rw [e1]
  have hz : t % zs.length < zv.size := by rw [h.1]; exact hm
  have e2 : ((Array.range n).map (fun x => zv[x % zv.size]!)).getD t Go.undef = zv.getD (t % zs.length) Go.undef := by
    simp [ht', h.1]
    rw [getElem!_pos zv _ hz]
    simp [hz]
  rw [e2]
  exact this

end Go.MW
