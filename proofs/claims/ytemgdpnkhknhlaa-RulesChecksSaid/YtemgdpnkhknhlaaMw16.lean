/-
  OUR OWN: values that lead to none of our blocks; calls that are told by values alone; blocks that are written no more.
-/
import Derived.Test.YtemgdpnkhknhlaaMw15
namespace Go.MW

/-- Leads to none of our own blocks. -/
def Pu (x : PV) : Prop := ∀ w S β u, VR w ⟨S, β⟩ x u → VR w ⟨S, fun _ => none⟩ x u

theorem VR.widen {w : World} {S : Nat → Prop} {β : Nat → Option (Nat × Nat)} {x : PV} {u : Value} (h : VR w ⟨S, fun _ => none⟩ x u) : VR w ⟨S, β⟩ x u :=
  VR.mono (show Le w ⟨S, fun _ => none⟩ w ⟨S, β⟩ from ⟨fun _ h => h, fun _ _ => rfl, fun _ _ h => (by cases h), fun _ c e f h => ⟨c, e, f, h, rfl⟩⟩) h

theorem Pu.undef : Pu .undef := fun _ _ _ u _ => .undef u
theorem Pu.int (k : IntKind) (n : Int) : Pu (.int k n) := fun _ _ _ _ h => by cases h; exact .int _ _
theorem Pu.bool (b : Bool) : Pu (.bool b) := fun _ _ _ _ h => by cases h; exact .bool _
theorem Pu.str (s : ByteArray) : Pu (.str s) := fun _ _ _ _ h => by cases h; exact .str _
theorem Pu.nilp : Pu .nilp := fun _ _ _ _ h => by cases h; exact .nilp
theorem Pu.nils : Pu .nils := fun _ _ _ _ h => by cases h; exact .nils
theorem Pu.nilm : Pu .nilm := fun _ _ _ _ h => by cases h; exact .nilm
theorem Pu.nilf : Pu .nilf := fun _ _ _ _ h => by cases h; exact .nilf
theorem Pu.nili : Pu .nili := fun _ _ _ _ h => by cases h; exact .nili

theorem getD_mem {α : Type} (l : List α) (d : α) (i : Nat) (h : i < l.length) : l.getD i d ∈ l := by simp [List.getD, h]

theorem Pu.agg {cs : List PV} (h : ∀ c ∈ cs, Pu c) : Pu (.agg cs) := fun w S β u hv => by
  cases hv with
  | agg hl hv => exact .agg hl fun t ht => h _ (getD_mem _ _ _ ht) _ _ _ _ (hv t ht)
theorem Pu.tuple {cs : List PV} (h : ∀ c ∈ cs, Pu c) : Pu (.tuple cs) := fun w S β u hv => by
  cases hv with
  | tuple hl hv => exact .tuple hl fun t ht => h _ (getD_mem _ _ _ ht) _ _ _ _ (hv t ht)
theorem Pu.func (fn : Fn) {cs : List PV} (h : ∀ c ∈ cs, Pu c) : Pu (.func fn cs) := fun w S β u hv => by
  cases hv with
  | func fn hl hv => exact .func fn hl fun t ht => h _ (getD_mem _ _ _ ht) _ _ _ _ (hv t ht)
theorem Pu.iface (t : TypeId) {x : PV} (h : Pu x) : Pu (.iface t x) := fun w S β u hv => by
  cases hv with
  | iface t hv => exact .iface t (h _ _ _ _ hv)
theorem Pu.rptr {cs : List PV} (h : ∀ c ∈ cs, Pu c) : Pu (.rptr cs) := fun w S β u hv => by
  cases hv with
  | rptr vs hS hc hv => exact .rptr vs hS hc fun t ht => h _ (getD_mem _ _ _ ht) _ _ _ _ (hv t ht)
theorem Pu.lst {xs : List (List PV)} {tight : Bool} (h : ∀ x ∈ xs, ∀ c ∈ x, Pu c) : Pu (.lst xs tight) := fun w S β u hv => by
  cases hv with
  | lst0 => exact .lst0 _
  | lst vs hS hcap ht hsz hc hv =>
    exact .lst vs hS hcap ht hsz hc fun i hi j hj => h _ (getD_mem _ _ _ hi) _ (getD_mem _ _ _ (by rw [hsz i hi]; exact hj)) _ _ _ _ (hv i hi j hj)

/-- 'x', where our blocks are as in H, is the value y once nobody writes these blocks any more. -/
def Frz (H : List Blk) (x y : PV) : Prop := ∀ w S β u, HR w ⟨S, β⟩ H → VR w ⟨S, β⟩ x u → VR w ⟨fun b => S b ∨ Own ⟨S, β⟩ H b, fun _ => none⟩ y u

theorem Frz.pure {H : List Blk} {x : PV} (h : Pu x) : Frz H x x := fun w S β u _ hv =>
  VR.mono (show Le w ⟨S, fun _ => none⟩ w ⟨fun b => S b ∨ Own ⟨S, β⟩ H b, fun _ => none⟩ from ⟨fun _ h => .inl h, fun _ _ => rfl, fun _ _ h => (by cases h), fun _ c e f h => ⟨c, e, f, h, rfl⟩⟩) (h w S β u hv)

/-- THE TRIPLE OF A CALL THAT IS TOLD BY VALUES: it answers y. -/
def PC (P : Program) (f : FuncId) (args : List PV) (y : PV) : Prop := Pu y ∧ WC P f args [] fun v H' => Frz H' v y

theorem HR.none_of {w : World} {S : Nat → Prop} (hS : ∀ b, S b → b < w.heap.size) : HR w ⟨S, fun _ => Option.none⟩ [] :=
  ⟨fun r hr => by simp at hr, fun r r' b sh sh' hr => by simp at hr, fun _ _ => rfl, hS, fun r b sh h => by cases h⟩

theorem PC.call {P : Program} {f : FuncId} {args : List PV} {y : PV} (h : PC P f args y) (hargs : ∀ x ∈ args, Pu x) (H : List Blk) : WC P f args H fun v H' => v = y ∧ H' = H := by
  rintro w ⟨S, β⟩ vals hH hA
  have hA0 : AV w ⟨S, fun _ => none⟩ args vals := ⟨hA.1, fun t ht => hargs _ (getD_mem _ _ _ ht) _ _ _ _ (hA.2 t ht)⟩
  refine (h.2 w ⟨S, fun _ => none⟩ vals (.none_of hH.S) hA0).mono ?_
  rintro e w' ⟨u, v, ⟨S', β'⟩, H', rfl, hF, hv, hH', hst⟩
  have hv' := hF w' S' β' u hH' hv
  have hOwn0 : ∀ b, ¬ Own ⟨S, fun _ => none⟩ [] b := by rintro b ⟨r, sh, hr, _⟩; simp at hr
  have hnew : ∀ b, (S' b ∨ Own ⟨S', β'⟩ H' b) → S b ∨ w.heap.size ≤ b := by
    rintro b (hb | hb)
    · rcases hst.S b hb with hb | hb | hb
      · exact .inl hb
      · exact absurd hb (hOwn0 b)
      · exact .inr hb
    · rcases hst.own b hb with hb | hb
      · exact absurd hb (hOwn0 b)
      · exact .inr hb
  have hle : Le w ⟨S, β⟩ w' ⟨fun b => S' b ∨ Own ⟨S', β'⟩ H' b, β⟩ := ⟨fun b hb => .inl (hst.le.S b hb), fun b hb => hst.le.still b hb, fun _ _ h => h, hst.le.rows⟩
  refine ⟨u, y, ⟨fun b => S' b ∨ Own ⟨S', β'⟩ H' b, β⟩, H, rfl, ⟨rfl, rfl⟩, hv'.widen, ⟨fun r hr hd => ?_, hH.one, hH.none, fun b hb => ?_, fun r b sh h => Nat.lt_of_lt_of_le (hH.lt r b sh h) hst.size⟩,
    ⟨hle, hst.size, fun b hb _ => hst.kept b hb (hOwn0 b), fun b hb => .inl hb, fun b hb => ?_, Nat.le_refl _, hst.os, hst.tape, hst.output⟩⟩
  · obtain ⟨b, sh, h1, h2⟩ := hH.blk r hr hd
    have hb := hH.lt _ _ _ h1
    exact ⟨b, sh, h1, h2.mono hle (hst.kept b hb (hOwn0 b)) (fun hh => (hnew b hh).elim (h2.noS hd) (fun e => by omega))⟩
  · rcases hb with hb | ⟨r, sh, hr, hd, hβ⟩
    · exact hH'.S b hb
    · exact hH'.lt _ _ _ hβ
  · rcases hnew b hb with hb | hb
    · exact .inl hb
    · exact .inr (.inr hb)

theorem PC.fn {P : Program} {f : FuncId} {fn : Func} {c : Code} (hf : P.funcs[f]? = some fn) (hb : fn.body = some c) {args : List PV} {y : PV} (hy : Pu y)
    (h : W P c ⟨args ++ List.replicate (fn.ntmps - args.length) .undef, []⟩ fun x s => (x = .normal ∨ x = .ret) ∧ ∃ v, resOf P fn s = some v ∧ Frz s.H v y) : PC P f args y :=
  ⟨hy, WC.fn hf hb h⟩

/-! ### rows that are written no more -/

def chunks (sz : Nat) : Nat → List PV → List (List PV)
  | 0, _ => []
  | n + 1, cs => cs.take sz :: chunks sz n (cs.drop sz)

theorem length_chunks (sz : Nat) : ∀ (n : Nat) (cs : List PV), (chunks sz n cs).length = n
  | 0, _ => rfl
  | n + 1, cs => by simp [chunks, length_chunks sz n]

theorem getD_chunks (sz : Nat) : ∀ (n : Nat) (cs : List PV) (i : Nat), i < n → (chunks sz n cs).getD i [] = (cs.drop (i * sz)).take sz
  | 0, _, i, h => by omega
  | n + 1, cs, i, h => by
    cases i with
    | zero => simp [chunks]
    | succ i =>
      have := getD_chunks sz n (cs.drop sz) i (by omega)
      simp only [chunks, List.getD_cons_succ, this, List.drop_drop]
      congr 2
      rw [Nat.add_mul]; omega

/-- The row r from the cell off on, n elements: as a list, if its cells are told by ys. -/
theorem Frz.row {H : List Blk} {r off n sz : Nat} {tight : Bool} {cs ys : List PV} {tg : Option (TypeId × Bool)} (hr : H.getD r .dead = .cells cs tg) (hfit : off + n * sz ≤ cs.length) (hl : ys.length = n * sz)
    (hy : ∀ t, t < n * sz → Frz H (cs.getD (off + t) .undef) (ys.getD t .undef)) : Frz H (.row r off n sz tight) (.lst (chunks sz n ys) tight) := by
  intro w S β u hH hv
  cases hv with
  | @row _ b sh _ _ _ _ cap hβ hcap ht hroom =>
    obtain ⟨hrl, c, e, hcb, hsc, hS, hvs, _⟩ := row_of hH hr hβ
    have hown : Own ⟨S, β⟩ H b := ⟨r, sh, hrl, by rw [hr]; simp, hβ⟩
    have := VR.lst (w := w) (ρ := ⟨fun b => S b ∨ Own ⟨S, β⟩ H b, fun _ => none⟩) (xs := chunks sz n ys) (tight := tight) (a := ⟨b, sh + off, none⟩) (cap := cap) (sz := sz) (fun t => c.getD (sh + off + t) Go.undef)
      (fun _ => .inr hown) (by rw [length_chunks]; exact hcap) (fun h => by rw [length_chunks]; exact ht h) (fun i hi => by
        rw [length_chunks] at hi
        rw [getD_chunks _ _ _ _ hi]
        have : (i + 1) * sz ≤ n * sz := Nat.mul_le_mul_right _ hi
        rw [Nat.add_mul, Nat.one_mul] at this
        simp; omega) (fun t htt => by
        rw [length_chunks] at htt
        rw [Addr.add_lit]
        have : sh + off + t < c.size := by omega
        simp [World.cell?, hcb, this]) (fun i hi j hj => by
        rw [length_chunks] at hi
        have hle : (i + 1) * sz ≤ n * sz := Nat.mul_le_mul_right _ hi
        rw [Nat.add_mul, Nat.one_mul] at hle
        rw [getD_chunks _ _ _ _ hi]
        have e1 : ((ys.drop (i * sz)).take sz).getD j .undef = ys.getD (i * sz + j) .undef := by
          simp [List.getD, List.getElem?_drop, hj]
        rw [e1]
        have h1 := hvs (off + (i * sz + j)) (by omega)
        have h2 := hy (i * sz + j) (by omega) w S β _ hH h1
        have e3 : sh + (off + (i * sz + j)) = sh + off + (i * sz + j) := by omega
        rw [e3] at h2
        exact h2)
    rw [length_chunks] at this
    exact this

theorem Frz.agg {H : List Blk} {xs ys : List PV} (hl : ys.length = xs.length) (h : ∀ t, t < xs.length → Frz H (xs.getD t .undef) (ys.getD t .undef)) : Frz H (.agg xs) (.agg ys) := by
  intro w S β u hH hv
  cases hv with
  | agg hl' hv => exact .agg (by omega) fun t ht => h t (by omega) w S β _ hH (hv t (by omega))

theorem Frz.tuple {H : List Blk} {xs ys : List PV} (hl : ys.length = xs.length) (h : ∀ t, t < xs.length → Frz H (xs.getD t .undef) (ys.getD t .undef)) : Frz H (.tuple xs) (.tuple ys) := by
  intro w S β u hH hv
  cases hv with
  | tuple hl' hv => exact .tuple (by omega) fun t ht => h t (by omega) w S β _ hH (hv t (by omega))

theorem Pu.chunks {sz n : Nat} {ys : List PV} {tight : Bool} (h : ∀ y ∈ ys, Pu y) : Pu (.lst (chunks sz n ys) tight) := by
  refine Pu.lst ?_
  induction n generalizing ys with
  | zero => intro x hx; simp [MW.chunks] at hx
  | succ n ih =>
    intro x hx c hc
    simp only [MW.chunks, List.mem_cons] at hx
    rcases hx with rfl | hx
    · exact h c (List.mem_of_mem_take hc)
    · exact ih (fun y hy => h y (List.mem_of_mem_drop hy)) x hx c hc

/-! ### steps that only change what we say -/

/-- We may know less of the slots, and speak no more of some blocks. -/
theorem W.weaken {P : Program} {c : Code} {st st' : St} {Q : Ex → St → Prop} (hl : st'.fr.length = st.fr.length) (hf : ∀ i, st'.fr.getD i .undef = st.fr.getD i .undef ∨ st'.fr.getD i .undef = .undef)
    (hHl : st'.H.length = st.H.length) (hH : ∀ r, st'.H.getD r .dead = st.H.getD r .dead ∨ st'.H.getD r .dead = .dead) (h : W P c st' Q) : W P c st Q := by
  intro w ρ a hs
  have live : ∀ r, st'.H.getD r .dead ≠ .dead → st'.H.getD r .dead = st.H.getD r .dead := fun r hd => (hH r).resolve_right hd
  have hs' : SR w ρ st' a := by
    refine ⟨⟨hs.fr.defers, by rw [hl]; exact hs.fr.size, fun i => ?_⟩, ⟨fun r hr hd => ?_, fun r r' b sh sh' hr hr' hd hd' h1 h2 => ?_, fun r hr => hs.hp.none r (by omega), hs.hp.S, hs.hp.lt⟩⟩
    · rcases hf i with e | e
      · rw [e]; exact hs.fr.slot i
      · rw [e]; exact .undef _
    · have e := live r hd; rw [e]; exact hs.hp.blk r (by omega) (by rw [← e]; exact hd)
    · rw [live r hd] at hd; rw [live r' hd'] at hd'
      exact hs.hp.one r r' b sh sh' (by omega) (by omega) hd hd' h1 h2
  have hstep : Step w ρ st.H w ρ st'.H := ⟨Le.refl _ _, Nat.le_refl _, fun _ _ _ => rfl, fun b ⟨r, sh, hr, hd, h1⟩ => .inl ⟨r, sh, by omega, by rw [live r hd] at hd; exact hd, h1⟩, fun _ h => .inl h, by omega, rfl, rfl, rfl⟩
  exact wp_mono (h w ρ a hs') fun _ _ _ hp => Post.step hstep (fun _ _ h => h) hp

/-- A row is written no more: wherever we like, what leads to it is told as a list. -/
theorem W.freeze {P : Program} {c : Code} {st : St} {Q : Ex → St → Prop} {r : Nat} {cs : List PV} {tg : Option (TypeId × Bool)} (hr : st.H.getD r .dead = .cells cs tg) (fr' : List PV) (hl : fr'.length = st.fr.length)
    (hf : ∀ i, fr'.getD i .undef = st.fr.getD i .undef ∨ ∃ off n sz t, off + n * sz ≤ cs.length ∧ st.fr.getD i .undef = .row r off n sz t ∧ fr'.getD i .undef = .lst (chunks sz n (cs.drop off)) t)
    (h : W P c ⟨fr', st.H.set r .dead⟩ Q) : W P c st Q := by
  rintro w ⟨S, β⟩ a hs
  have hrl : r < st.H.length := by
    rcases Nat.lt_or_ge r st.H.length with h' | h'
    · exact h'
    · simp [List.getD, List.getElem?_eq_none h'] at hr
  obtain ⟨b, sh, hβ, hbr⟩ := hs.hp.blk r hrl (by rw [hr]; simp)
  rw [hr] at hbr
  obtain ⟨hS, c0, e0, hcb, hsc, hvs, _⟩ := hbr
  have hblt := hs.hp.lt _ _ _ hβ
  have hle : Le w ⟨S, β⟩ w ⟨fun k => S k ∨ k = b, β⟩ := ⟨fun _ h => .inl h, fun _ _ => rfl, fun _ _ h => h, fun _ c e f h => ⟨c, e, f, h, rfl⟩⟩
  have live : ∀ x, (st.H.set r .dead).getD x .dead ≠ .dead → x ≠ r ∧ (st.H.set r .dead).getD x .dead = st.H.getD x .dead := by
    intro x hx
    by_cases e : x = r
    · subst e; exact absurd (getD_set_self st.H x .dead hrl) hx
    · exact ⟨e, getD_set_ne st.H .dead e⟩
  have hs' : SR w ⟨fun k => S k ∨ k = b, β⟩ ⟨fr', st.H.set r .dead⟩ a := by
    refine ⟨⟨hs.fr.defers, by dsimp only; rw [hl]; exact hs.fr.size, fun i => ?_⟩, ⟨fun x hx hd => ?_, fun x y k s1 s2 hx hy hd hd' h1 h2 => ?_, fun x hx => hs.hp.none x (by simpa using hx), fun k hk => ?_, hs.hp.lt⟩⟩
    · rcases hf i with e | ⟨off, n, sz, t, hfit, e1, e2⟩
      · dsimp only; rw [e]; exact (hs.fr.slot i).mono hle
      · dsimp only; rw [e2]
        have hv := hs.fr.slot i
        rw [e1] at hv
        generalize a.tmps.getD i Go.undef = u at hv
        cases hv with
        | @row _ b' sh' _ _ _ _ cap hβ' hcap ht hroom =>
          rw [hβ] at hβ'; simp at hβ'; obtain ⟨rfl, rfl⟩ := hβ'
          have := VR.lst (w := w) (ρ := ⟨fun k => S k ∨ k = b, β⟩) (xs := chunks sz n (cs.drop off)) (tight := t) (a := ⟨b, sh + off, none⟩) (cap := cap) (sz := sz) (fun t => c0.getD (sh + off + t) Go.undef)
            (fun _ => .inr rfl) (by rw [length_chunks]; exact hcap) (fun h => by rw [length_chunks]; exact ht h) (fun i hi => by
              rw [length_chunks] at hi
              rw [getD_chunks _ _ _ _ hi]
              have : (i + 1) * sz ≤ n * sz := Nat.mul_le_mul_right _ hi
              rw [Nat.add_mul, Nat.one_mul] at this
              simp; omega) (fun t htt => by
              rw [length_chunks] at htt
              rw [Addr.add_lit]
              have : sh + off + t < c0.size := by omega
              simp [World.cell?, hcb, this]) (fun i hi j hj => by
              rw [length_chunks] at hi
              have hle' : (i + 1) * sz ≤ n * sz := Nat.mul_le_mul_right _ hi
              rw [Nat.add_mul, Nat.one_mul] at hle'
              rw [getD_chunks _ _ _ _ hi]
              have e1 : (((cs.drop off).drop (i * sz)).take sz).getD j .undef = cs.getD (off + (i * sz + j)) .undef := by
                simp [List.getD, List.getElem?_drop, hj, Nat.add_assoc]
              rw [e1]
              have h1 := hvs (off + (i * sz + j)) (by omega)
              have e3 : sh + (off + (i * sz + j)) = sh + off + (i * sz + j) := by omega
              rw [e3] at h1
              exact h1.mono hle)
          rw [length_chunks] at this
          exact this
    · obtain ⟨hne, he⟩ := live x hd
      rw [he] at hd ⊢
      obtain ⟨b1, s1, h1, h2⟩ := hs.hp.blk x (by simpa using hx) hd
      refine ⟨b1, s1, h1, h2.mono hle rfl (fun hh => hh.elim (h2.noS hd) (fun e => ?_))⟩
      subst e
      exact hne (hs.hp.one x r b1 s1 sh (by simpa using hx) hrl hd (by rw [hr]; simp) h1 hβ)
    · obtain ⟨_, he⟩ := live x hd
      obtain ⟨_, he'⟩ := live y hd'
      rw [he] at hd; rw [he'] at hd'
      exact hs.hp.one x y k s1 s2 (by simpa using hx) (by simpa using hy) hd hd' h1 h2
    · rcases hk with hk | rfl
      · exact hs.hp.S k hk
      · exact hblt
  have hstep : Step w ⟨S, β⟩ st.H w ⟨fun k => S k ∨ k = b, β⟩ (st.H.set r .dead) := by
    refine ⟨hle, Nat.le_refl _, fun _ _ _ => rfl, fun k ⟨x, s1, hx, hd, h1⟩ => ?_, fun k hk => ?_, by simp, rfl, rfl, rfl⟩
    · obtain ⟨_, he⟩ := live x hd
      rw [he] at hd
      exact .inl ⟨x, s1, by simpa using hx, hd, h1⟩
    · rcases hk with hk | rfl
      · exact .inl hk
      · exact .inr (.inl ⟨r, sh, hrl, by rw [hr]; simp, hβ⟩)
  exact wp_mono (h w _ a hs') fun _ _ _ hp => Post.step hstep (fun _ _ h => h) hp

end Go.MW
