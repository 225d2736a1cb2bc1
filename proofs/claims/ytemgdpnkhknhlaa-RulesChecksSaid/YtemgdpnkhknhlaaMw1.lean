/-
  OUR OWN: values told without addresses ('PV'), how they lie in a world ('VR', 'HR'), and what a piece of code may have turned ('Step').
-/
import Derived.WalkKit
import Derived.Orders
import Derived.Below
namespace Go.MW

inductive PV where
  | undef
  | int (k : IntKind) (n : Int)
  | bool (b : Bool)
  | str (s : ByteArray)
  | nilp
  | ptr (r off : Nat)
  | rptr (cs : List PV)
  | nils
  | lst (xs : List (List PV)) (tight : Bool)
  | row (r off len sz : Nat) (tight : Bool)
  | nilm
  | map (r : Nat)
  | iter (r : Nat)
  | nilf
  | func (fn : Fn) (caps : List PV)
  | nili
  | iface (t : TypeId) (v : PV)
  | agg (cs : List PV)
  | tuple (vs : List PV)

instance : Inhabited PV := ⟨.undef⟩

inductive Blk where
  | dead
  | cells (cs : List PV) (tg : Option (TypeId × Bool))
  | map (es : List (PV × PV))
  | iter (m : Option Nat) (since : Nat) (seen : List Nat) (last : Nat)

instance : Inhabited Blk := ⟨.dead⟩

/-- Which blocks are known never to turn again, and where our numbered blocks lie. -/
structure Rl where
  S : Nat → Prop
  β : Nat → Option (Nat × Nat)

inductive VR (w : World) (ρ : Rl) : PV → Value → Prop
  | undef (v : Value) : VR w ρ .undef v
  | int (k : IntKind) (n : Int) : VR w ρ (.int k n) (.int k n)
  | bool (b : Bool) : VR w ρ (.bool b) (.bool b)
  | str (s : ByteArray) : VR w ρ (.str s) (.string s)
  | nilp : VR w ρ .nilp (.pointer none)
  | ptr {r b sh : Nat} (off : Nat) (h : ρ.β r = some (b, sh)) : VR w ρ (.ptr r off) (.pointer (some ⟨b, sh + off, none⟩))
  | rptr {cs : List PV} {a : Addr} (vs : Nat → Value) (hS : ρ.S a.block) (hc : ∀ t, t < cs.length → w.cell? (a.add t) = some (vs t))
      (hv : ∀ t, t < cs.length → VR w ρ (cs.getD t .undef) (vs t)) : VR w ρ (.rptr cs) (.pointer (some a))
  | nils : VR w ρ .nils (.slice none 0 0)
  | lst0 (tight : Bool) : VR w ρ (.lst [] tight) (.slice none 0 0)
  | lst {xs : List (List PV)} {tight : Bool} {a : Addr} {cap sz : Nat} (vs : Nat → Value) (hS : xs ≠ [] → ρ.S a.block) (hcap : xs.length ≤ cap)
      (ht : tight = true → cap = xs.length) (hsz : ∀ i, i < xs.length → (xs.getD i []).length = sz)
      (hc : ∀ t, t < xs.length * sz → w.cell? (a.add t) = some (vs t))
      (hv : ∀ i, i < xs.length → ∀ j, j < sz → VR w ρ ((xs.getD i []).getD j .undef) (vs (i * sz + j))) : VR w ρ (.lst xs tight) (.slice (some a) xs.length cap)
  | row {r b sh : Nat} (off len sz : Nat) {tight : Bool} {cap : Nat} (h : ρ.β r = some (b, sh)) (hcap : len ≤ cap) (ht : tight = true → cap = len)
      (hroom : ∃ (c : Array Value) (e : TypeId) (f : Nat × Nat), w.heap[b]? = some (.cells c e f) ∧ sh + off + cap * sz ≤ c.size) : VR w ρ (.row r off len sz tight) (.slice (some ⟨b, sh + off, none⟩) len cap)
  | nilm : VR w ρ .nilm (.map none)
  | map {r b sh : Nat} (h : ρ.β r = some (b, sh)) : VR w ρ (.map r) (.map (some b))
  | iter {r b sh : Nat} (h : ρ.β r = some (b, sh)) : VR w ρ (.iter r) (.pointer (some ⟨b, 0, none⟩))
  | nilf : VR w ρ .nilf .nilFunc
  | func (fn : Fn) {caps : List PV} {vs : Array Value} (hl : vs.size = caps.length) (hv : ∀ t, t < caps.length → VR w ρ (caps.getD t .undef) (vs.getD t Go.undef)) :
      VR w ρ (.func fn caps) (.func fn #[] vs)
  | nili : VR w ρ .nili .nilIface
  | iface (t : TypeId) {x : PV} {v : Value} (h : VR w ρ x v) : VR w ρ (.iface t x) (.iface t v)
  | agg {cs : List PV} {vs : Array Value} (hl : vs.size = cs.length) (hv : ∀ t, t < cs.length → VR w ρ (cs.getD t .undef) (vs.getD t Go.undef)) : VR w ρ (.agg cs) (.agg vs)
  | tuple {cs : List PV} {vs : Array Value} (hl : vs.size = cs.length) (hv : ∀ t, t < cs.length → VR w ρ (cs.getD t .undef) (vs.getD t Go.undef)) : VR w ρ (.tuple cs) (.tuple vs)

/-- What is told in the first world is told in the second. -/
structure Le (w : World) (ρ : Rl) (w' : World) (ρ' : Rl) : Prop where
  S : ∀ b, ρ.S b → ρ'.S b
  still : ∀ b, ρ.S b → w'.heap[b]? = w.heap[b]?
  β : ∀ r p, ρ.β r = some p → ρ'.β r = some p
  rows : ∀ (b : Nat) (c : Array Value) (e : TypeId) (f : Nat × Nat), w.heap[b]? = some (Obj.cells c e f) → ∃ (c2 : Array Value) (e2 : TypeId) (f2 : Nat × Nat), w'.heap[b]? = some (Obj.cells c2 e2 f2) ∧ c2.size = c.size

theorem Le.refl (w : World) (ρ : Rl) : Le w ρ w ρ := ⟨fun _ h => h, fun _ _ => rfl, fun _ _ h => h, fun _ c e f h => ⟨c, e, f, h, rfl⟩⟩
theorem Le.trans {w w1 w2 : World} {ρ ρ1 ρ2 : Rl} (h : Le w ρ w1 ρ1) (k : Le w1 ρ1 w2 ρ2) : Le w ρ w2 ρ2 where
  S b hb := k.S b (h.S b hb)
  still b hb := (k.still b (h.S b hb)).trans (h.still b hb)
  β r p hp := k.β r p (h.β r p hp)
  rows b c e f hb := by
    obtain ⟨c1, e1, f1, h1, hs1⟩ := h.rows b c e f hb
    obtain ⟨c2, e2, f2, h2, hs2⟩ := k.rows b c1 e1 f1 h1
    exact ⟨c2, e2, f2, h2, hs2.trans hs1⟩

theorem add_block (a : Addr) (n : Nat) : (a.add n).block = a.block := by unfold Addr.add; split <;> rfl

theorem VR.mono {w w' : World} {ρ ρ' : Rl} (hle : Le w ρ w' ρ') {x : PV} {v : Value} (h : VR w ρ x v) : VR w' ρ' x v := by
  have cell : ∀ {a : Addr} {n : Nat} {u : Value}, ρ.S a.block → w.cell? (a.add n) = some u → w'.cell? (a.add n) = some u := by
    intro a n u hS hc
    rw [← hc]
    exact World.cell?_of_block (w := w) (by rw [add_block]; exact hle.still _ hS)
  induction h with
  | undef v => exact .undef v
  | int k n => exact .int k n
  | bool b => exact .bool b
  | str s => exact .str s
  | nilp => exact .nilp
  | ptr off h => exact .ptr off (hle.β _ _ h)
  | rptr vs hS hc hv ih => exact .rptr vs (hle.S _ hS) (fun t ht => cell hS (hc t ht)) ih
  | nils => exact .nils
  | lst0 t => exact .lst0 t
  | @lst xs tight a cap sz vs hS hcap ht hsz hc hv ih =>
    refine .lst vs (fun h => hle.S _ (hS h)) hcap ht hsz (fun t htt => cell (hS ?_) (hc t htt)) ih
    rintro rfl
    simp at htt
  | row off len sz h hcap ht hroom =>
    obtain ⟨c, e, f, hb, hs⟩ := hroom
    obtain ⟨c', e', f', hb', hs'⟩ := hle.rows _ c e f hb
    exact .row off len sz (hle.β _ _ h) hcap ht ⟨c', e', f', hb', by rw [hs']; exact hs⟩
  | nilm => exact .nilm
  | map h => exact .map (hle.β _ _ h)
  | iter h => exact .iter (hle.β _ _ h)
  | nilf => exact .nilf
  | func fn hl hv ih => exact .func fn hl ih
  | nili => exact .nili
  | iface t h ih => exact .iface t ih
  | agg hl hv ih => exact .agg hl ih
  | tuple hl hv ih => exact .tuple hl ih

/-- What the tag of a row tells of its block. -/
def TagOk : Option (TypeId × Bool) → TypeId → Nat → Nat → Nat → Prop
  | none, _, _, _, _ => True
  | some (t, whole), e, sh, n, k => e = t ∧ sh = 0 ∧ (whole = true → n = k)

/-- One numbered block: where and how it lies. -/
def BR (w : World) (ρ : Rl) (b sh : Nat) : Blk → Prop
  | .dead => True
  | .cells cs tg => ¬ ρ.S b ∧ ∃ c e, w.heap[b]? = some (.cells c e (0, 0)) ∧ sh + cs.length ≤ c.size ∧ (∀ t, t < cs.length → VR w ρ (cs.getD t .undef) (c.getD (sh + t) Go.undef)) ∧ TagOk tg e sh c.size cs.length
  | .map es => ¬ ρ.S b ∧ sh = 0 ∧ ∃ ents : Array MapEntry, w.heap[b]? = some (.map ents es.length) ∧ ents.size = es.length ∧
      ∀ i, i < es.length → VR w ρ (es.getD i default).1 (ents.getD i default).key ∧ VR w ρ (es.getD i default).2 (ents.getD i default).val ∧ (ents.getD i default).born = i
  | .iter m since seen last => ¬ ρ.S b ∧ sh = 0 ∧ w.heap[b]? = some (.mapIter (m.bind fun r => (ρ.β r).map (·.1)) since seen.toArray last) ∧ (∀ r, m = some r → ∃ p, ρ.β r = some p)

/-- The blocks that we own. -/
def Own (ρ : Rl) (H : List Blk) (b : Nat) : Prop := ∃ r sh, r < H.length ∧ H.getD r .dead ≠ .dead ∧ ρ.β r = some (b, sh)

structure HR (w : World) (ρ : Rl) (H : List Blk) : Prop where
  blk : ∀ r, r < H.length → H.getD r .dead ≠ .dead → ∃ b sh, ρ.β r = some (b, sh) ∧ BR w ρ b sh (H.getD r .dead)
  one : ∀ r r' b sh sh', r < H.length → r' < H.length → H.getD r .dead ≠ .dead → H.getD r' .dead ≠ .dead → ρ.β r = some (b, sh) → ρ.β r' = some (b, sh') → r = r'
  none : ∀ r, H.length ≤ r → ρ.β r = none
  S : ∀ b, ρ.S b → b < w.heap.size
  lt : ∀ r b sh, ρ.β r = some (b, sh) → b < w.heap.size

structure FR (w : World) (ρ : Rl) (fr : List PV) (a : Act) : Prop where
  defers : a.defers = []
  size : a.tmps.size = fr.length
  slot : ∀ i, VR w ρ (fr.getD i .undef) (a.tmps.getD i Go.undef)

/-- What a piece of code may have turned: our own blocks, and new ones. -/
structure Step (w : World) (ρ : Rl) (H : List Blk) (w' : World) (ρ' : Rl) (H' : List Blk) : Prop where
  le : Le w ρ w' ρ'
  size : w.heap.size ≤ w'.heap.size
  kept : ∀ b, b < w.heap.size → ¬ Own ρ H b → w'.heap[b]? = w.heap[b]?
  own : ∀ b, Own ρ' H' b → Own ρ H b ∨ w.heap.size ≤ b
  S : ∀ b, ρ'.S b → ρ.S b ∨ Own ρ H b ∨ w.heap.size ≤ b
  len : H.length ≤ H'.length
  os : w'.os = w.os
  tape : w'.tape = w.tape
  output : w'.output = w.output

theorem Step.refl (w : World) (ρ : Rl) (H : List Blk) : Step w ρ H w ρ H :=
  ⟨Le.refl _ _, Nat.le_refl _, fun _ _ _ => rfl, fun _ h => .inl h, fun _ h => .inl h, Nat.le_refl _, rfl, rfl, rfl⟩

theorem Step.trans {w w1 w2 : World} {ρ ρ1 ρ2 : Rl} {H H1 H2 : List Blk} (h : Step w ρ H w1 ρ1 H1) (k : Step w1 ρ1 H1 w2 ρ2 H2) : Step w ρ H w2 ρ2 H2 where
  le := h.le.trans k.le
  size := Nat.le_trans h.size k.size
  kept b hb ho := by
    have h1 := h.kept b hb ho
    have h2 : ¬ Own ρ1 H1 b := fun hh => (h.own b hh).elim ho (fun hh => by omega)
    exact (k.kept b (Nat.lt_of_lt_of_le hb h.size) h2).trans h1
  own b hb := by
    rcases k.own b hb with hb | hb
    · exact h.own b hb
    · exact .inr (Nat.le_trans h.size hb)
  S b hb := by
    rcases k.S b hb with hb | hb | hb
    · exact h.S b hb
    · rcases h.own b hb with hb | hb
      · exact .inr (.inl hb)
      · exact .inr (.inr hb)
    · exact .inr (.inr (Nat.le_trans h.size hb))
  len := Nat.le_trans h.len k.len
  os := k.os.trans h.os
  tape := k.tape.trans h.tape
  output := k.output.trans h.output

structure St where
  fr : List PV
  H : List Blk

structure SR (w : World) (ρ : Rl) (st : St) (a : Act) : Prop where
  fr : FR w ρ st.fr a
  hp : HR w ρ st.H

/-- How our pieces of code end. -/
inductive Ex where
  | normal
  | exit (id : Nat)
  | ret
  deriving DecidableEq

def Ex.of : Ex → Exit
  | .normal => .normal
  | .exit id => .exit id
  | .ret => .ret

/-- The post of a piece of code that began in w. -/
def Post (Q : Ex → St → Prop) (w : World) (ρ : Rl) (H : List Blk) : Exit → Act → World → Prop :=
  fun e a' w' => ∃ x st' ρ', e = Ex.of x ∧ Q x st' ∧ SR w' ρ' st' a' ∧ Step w ρ H w' ρ' st'.H

/-- THE TRIPLE: from every world in which the state lies, the code ends as Q says. -/
def W (P : Program) (c : Code) (st : St) (Q : Ex → St → Prop) : Prop :=
  ∀ w ρ a, SR w ρ st a → c.wp P (Post Q w ρ st.H) a w

theorem Post.step {Q Q' : Ex → St → Prop} {w w1 : World} {ρ ρ1 : Rl} {H H1 : List Blk} (h : Step w ρ H w1 ρ1 H1) (hq : ∀ x st, Q x st → Q' x st) {e : Exit} {a : Act} {w2 : World}
    (hp : Post Q w1 ρ1 H1 e a w2) : Post Q' w ρ H e a w2 := by
  obtain ⟨x, st', ρ', rfl, hQ, hS, hst⟩ := hp
  exact ⟨x, st', ρ', rfl, hq _ _ hQ, hS, h.trans hst⟩

section rules
variable {P : Program} {st : St} {Q R : Ex → St → Prop}

theorem W.mono {c : Code} (h : W P c st R) (hq : ∀ x s, R x s → Q x s) : W P c st Q :=
  fun w ρ a hs => wp_mono (h w ρ a hs) fun _ _ _ hp => Post.step (Step.refl _ _ _) hq hp

theorem W.skip (h : Q .normal st) : W P .skip st Q := fun _ ρ _ hs => wp_skip ⟨.normal, st, ρ, rfl, h, hs, Step.refl _ _ _⟩
theorem W.ret (h : Q .ret st) : W P .ret st Q := fun _ ρ _ hs => wp_ret ⟨.ret, st, ρ, rfl, h, hs, Step.refl _ _ _⟩
theorem W.exit {id : Nat} (h : Q (.exit id) st) : W P (.exit id) st Q := fun _ ρ _ hs => wp_exit ⟨.exit id, st, ρ, rfl, h, hs, Step.refl _ _ _⟩

theorem W.seq {x y : Code} (hx : W P x st R) (hn : ∀ s, R .normal s → W P y s Q) (he : ∀ e s, e ≠ .normal → R e s → Q e s) : W P (.seq x y) st Q := by
  intro w ρ a hs
  refine wp_seq (wp_mono (hx w ρ a hs) ?_)
  rintro e a1 w1 ⟨x, s1, ρ1, rfl, hR, hs1, hst⟩
  cases x with
  | normal => exact wp_mono (hn s1 hR w1 ρ1 a1 hs1) fun _ _ _ hp => Post.step hst (fun _ _ h => h) hp
  | exit id => exact ⟨.exit id, s1, ρ1, rfl, he _ _ (by simp) hR, hs1, hst⟩
  | ret => exact ⟨.ret, s1, ρ1, rfl, he _ _ (by simp) hR, hs1, hst⟩

theorem W.block {id : Nat} {c : Code} (hc : W P c st R) (hn : ∀ s, R .normal s → Q .normal s) (hi : ∀ s, R (.exit id) s → Q .normal s)
    (ho : ∀ j s, j ≠ id → R (.exit j) s → Q (.exit j) s) (hr : ∀ s, R .ret s → Q .ret s) : W P (.block id c) st Q := by
  intro w ρ a hs
  refine wp_block (wp_mono (hc w ρ a hs) ?_)
  rintro e a1 w1 ⟨x, s1, ρ1, rfl, hR, hs1, hst⟩
  cases x with
  | normal => exact ⟨.normal, s1, ρ1, rfl, hn _ hR, hs1, hst⟩
  | exit j =>
    simp only [Ex.of, Exit.inBlock]
    split
    · rename_i e; subst e; exact ⟨.normal, s1, ρ1, rfl, hi _ hR, hs1, hst⟩
    · rename_i e; exact ⟨.exit j, s1, ρ1, rfl, ho _ _ e hR, hs1, hst⟩
  | ret => exact ⟨.ret, s1, ρ1, rfl, hr _ hR, hs1, hst⟩

/-- A loop, by an invariant and a measure. -/
theorem W.loop {c : Code} (I : St → Prop) (μ : St → Nat) (h0 : I st)
    (round : ∀ s, I s → W P c s (fun e s' => match e with | .normal => I s' ∧ μ s' < μ s | e => Q e s')) : W P (.loop c) st Q := by
  intro w ρ a hs
  have key : ∀ n (s : St) (w1 : World) (ρ1 : Rl) (a1 : Act), μ s = n → I s → SR w1 ρ1 s a1 → Step w ρ st.H w1 ρ1 s.H →
      ∀ (b : Frame) (k : List Item) (cs : List Frame), ∃ e a' w', Post Q w ρ st.H e a' w' ∧ Arrives P (lone (b.at a1 (.code c :: .inLoop c :: k)) cs w1) b k cs e a' w' := by
    intro n
    induction n using Nat.strongRecOn with
    | _ n ih =>
      intro s w1 ρ1 a1 hn hI hs1 hst b k cs
      obtain ⟨e, a2, w2, hq, harr⟩ := round s hI w1 ρ1 a1 hs1 b (.inLoop c :: k) cs
      obtain ⟨x, s2, ρ2, rfl, hQ, hs2, hst2⟩ := hq
      cases x with
      | normal =>
        obtain ⟨hI2, hlt⟩ := hQ
        obtain ⟨e3, a3, w3, hq3, harr3⟩ := ih (μ s2) (hn ▸ hlt) s2 w2 ρ2 a2 rfl hI2 hs2 (hst.trans hst2) b k cs
        exact ⟨e3, a3, w3, hq3, .of_steps (Steps.trans harr (.one step_inLoop)) harr3⟩
      | exit id => exact ⟨_, a2, w2, ⟨.exit id, s2, ρ2, rfl, hQ, hs2, hst.trans hst2⟩, .pass (x := .inLoop c) rfl (fun _ _ => .inl (by simp [Ex.of])) harr⟩
      | ret => exact ⟨_, a2, w2, ⟨.ret, s2, ρ2, rfl, hQ, hs2, hst.trans hst2⟩, .pass (x := .inLoop c) rfl (fun _ _ => .inl (by simp [Ex.of])) harr⟩
  intro b k cs
  obtain ⟨e, a', w', hq, harr⟩ := key _ st w ρ a rfl h0 hs (Step.refl _ _ _) b k cs
  exact ⟨e, a', w', hq, .of_steps (.one step_loop) harr⟩

end rules
end Go.MW
