/-
  OUR OWN: steps by reckoning ('denC'), loops over values alone.
-/
import Derived.Test.YtemgdpnkhknhlaaMw21
namespace Go.MW

section
variable {P : Program} {st : St} {Q : Ex → St → Prop}

theorem W.dn (cx : Cx P) {call : Orc} (hc : OrcS P call) (n : Nat) {c : Code} (h : match denC P cx.E call n c st with
    | some (x, s1) => Q x s1
    | none => False) : W P c st Q := by
  split at h
  · rename_i x s1 hd
    exact (denC_snd cx hc _ _ _ _ _ hd).1.mono fun e t ⟨e1, e2⟩ => by subst e1; subst e2; exact h
  · exact h.elim

theorem W.sq (cx : Cx P) {call : Orc} (hc : OrcS P call) (n : Nat) {a b : Code} (h : match denC P cx.E call n a st with
    | some (.normal, s1) => W P b s1 Q
    | some (x, s1) => Q x s1
    | none => False) : W P (.seq a b) st Q := by
  split at h
  · rename_i s1 hd
    exact .seq (denC_snd cx hc _ _ _ _ _ hd).1 (fun s ⟨_, e⟩ => by subst e; exact h) fun e s hne ⟨e1, _⟩ => absurd e1 hne
  · rename_i x s1 hne hd
    exact .seq (denC_snd cx hc _ _ _ _ _ hd).1 (fun s ⟨e1, _⟩ => (hne e1.symm).elim) fun e s _ ⟨e1, e2⟩ => by subst e1; subst e2; exact h
  · exact h.elim

theorem W.sq' {a b : Code} (h : W P a st fun e s => match e with
    | .normal => W P b s Q
    | e => Q e s) : W P (.seq a b) st Q := by
  refine .seq h (fun s hs => hs) fun e s hne hs => ?_
  cases e with
  | normal => exact absurd rfl hne
  | exit id => exact hs
  | ret => exact hs

theorem W.blk {id : Nat} {c : Code} (h : W P c st fun e s => match e with
    | .exit j => if j = id then Q .normal s else Q (.exit j) s
    | e => Q e s) : W P (.block id c) st Q :=
  .block h (fun _ hs => hs) (fun s hs => by simpa using hs) (fun j s hj hs => by simpa [hj] using hs) fun _ hs => hs

/-- A region that draws, by reckoning. -/
theorem W.sqDraw (cx : Cx P) {call : Orc} (hc : OrcS P call) (ks : List Kd) {id : Nat} {ops : Array Oper} {b : Code} (hok : drawOk ops ks = true) (h : match denDraw P cx.E call ops ops.toList st with
    | some (s1, ks') => ks' = ks ∧ W P b s1 Q
    | none => False) : W P (.seq (.region id ops true) b) st Q := by
  split at h
  · rename_i s1 ks' hd
    obtain ⟨rfl, h⟩ := h
    exact .seq (R := fun e t => e = .normal ∧ t = s1) (.draw cx hok (denDraw_snd cx hc _ _ _ _ hd) ⟨rfl, rfl⟩) (fun s ⟨_, e⟩ => by subst e; exact h) fun e s hne ⟨e1, _⟩ => absurd e1 hne
  · exact h.elim

/-- What a closed run tells of a call. -/
theorem PC.den (cx : Cx P) {base : Orc} (hb : OrcS P base) (n : Nat) {f : FuncId} {args : List PV} {y : PV} (h : (match denF P cx.E base n f args [] with
    | some (v, H') => frz 100 H' v
    | none => none) = some y) : PC P f args y := by
  split at h
  · rename_i v H' hd
    obtain ⟨h1, h2⟩ := frz_snd _ _ _ _ h
    exact ⟨h2, (denF_snd cx hb n _ _ _ _ _ hd).mono fun u h ⟨e1, e2⟩ => by subst e1; subst e2; exact h1⟩
  · cases h

/-- The slots that are kept, told by values. -/
def frzF (ls : List Nat) (H : List Blk) : Nat → List PV → Option (List PV)
  | _, [] => some []
  | n, x :: xs => match (if ls.contains n then frz 100 H x else some .undef), frzF ls H (n + 1) xs with
    | some y, some ys => some (y :: ys)
    | _, _ => none

theorem frzF_spec {ls : List Nat} {H : List Blk} : ∀ (xs ys : List PV) (n : Nat), frzF ls H n xs = some ys → ys.length = xs.length ∧ ∀ i, Frz H (xs.getD i .undef) (ys.getD i .undef) ∧ Pu (ys.getD i .undef)
  | [], ys, n, h => by
    simp [frzF] at h; subst h
    exact ⟨rfl, fun i => ⟨fun _ _ _ _ _ _ => by simp; exact .undef _, by simp; exact .undef⟩⟩
  | x :: xs, ys, n, h => by
    simp only [frzF] at h
    split at h
    · rename_i y ys' h1 h2
      simp at h; subst h
      obtain ⟨h3, h4⟩ := frzF_spec xs ys' (n + 1) h2
      refine ⟨by simp [h3], fun i => ?_⟩
      cases i with
      | zero =>
        simp only [List.getD_cons_zero]
        split at h1
        · exact frz_snd _ _ _ _ h1
        · simp at h1; subst h1; exact ⟨fun _ _ _ _ _ _ => .undef _, .undef⟩
      | succ i => simpa using h4 i
    · cases h

/-- A piece of code that runs beside our blocks: it is told in an empty heap. -/
theorem W.fresh {c : Code} {fr : List PV} {H : List Blk} (hp : ∀ i, Pu (fr.getD i .undef))
    (h : W P c ⟨fr, []⟩ fun x s => ∃ fr', fr'.length = s.fr.length ∧ (∀ i, Frz s.H (s.fr.getD i .undef) (fr'.getD i .undef)) ∧ Q x ⟨fr', H⟩) : W P c ⟨fr, H⟩ Q := by
  rintro w ⟨S, β⟩ a hs
  have hH := hs.hp
  have hs0 : SR w ⟨S, fun _ => none⟩ ⟨fr, []⟩ a := ⟨⟨hs.fr.defers, hs.fr.size, fun i => hp i _ _ _ _ (hs.fr.slot i)⟩, .none_of hH.S⟩
  refine wp_mono (h w ⟨S, fun _ => none⟩ a hs0) ?_
  rintro e a' w' ⟨x, s, ⟨S', β'⟩, rfl, ⟨fr', hl, hF, hQ⟩, hs', hst⟩
  have hH' := hs'.hp
  have hOwn0 : ∀ b, ¬ Own ⟨S, fun _ => none⟩ [] b := by rintro b ⟨r, sh, hr, _⟩; simp at hr
  have hnew : ∀ b, (S' b ∨ Own ⟨S', β'⟩ s.H b) → S b ∨ w.heap.size ≤ b := by
    rintro b (hb | hb)
    · rcases hst.S b hb with hb | hb | hb
      · exact .inl hb
      · exact absurd hb (hOwn0 b)
      · exact .inr hb
    · rcases hst.own b hb with hb | hb
      · exact absurd hb (hOwn0 b)
      · exact .inr hb
  have hle : Le w ⟨S, β⟩ w' ⟨fun b => S' b ∨ Own ⟨S', β'⟩ s.H b, β⟩ := ⟨fun b hb => .inl (hst.le.S b hb), fun b hb => hst.le.still b hb, fun _ _ h => h, hst.le.rows⟩
  refine ⟨x, ⟨fr', H⟩, ⟨fun b => S' b ∨ Own ⟨S', β'⟩ s.H b, β⟩, rfl, hQ, ⟨⟨hs'.fr.defers, by rw [hs'.fr.size, hl], fun i => (hF i w' S' β' _ hH' (hs'.fr.slot i)).widen⟩,
    ⟨fun r hr hd => ?_, hH.one, hH.none, fun b hb => ?_, fun r b sh h => Nat.lt_of_lt_of_le (hH.lt r b sh h) hst.size⟩⟩,
    ⟨hle, hst.size, fun b hb _ => hst.kept b hb (hOwn0 b), fun b hb => .inl hb, fun b hb => ?_, Nat.le_refl _, hst.os, hst.tape, hst.output⟩⟩
  · obtain ⟨b, sh, h1, h2⟩ := hH.blk r hr hd
    have hb := hH.lt _ _ _ h1
    exact ⟨b, sh, h1, h2.mono hle (hst.kept b hb (hOwn0 b)) (fun hh => (hnew b hh).elim (h2.noS hd) (fun e => by omega))⟩
  · rcases hb with hb | ⟨r, sh, hr, hd, hβ⟩
    · exact hH'.S b hb
    · exact hH'.lt _ _ _ hβ
  · rcases hnew b hb with hb | hb
    · exact .inl hb
    · exact .inr (.inr hb)

/-- Only the slots 'ls' count from here on. -/
def maskF (ls : List Nat) : Nat → List PV → List PV
  | _, [] => []
  | n, x :: xs => (if ls.contains n then x else .undef) :: maskF ls (n + 1) xs

theorem maskF_spec {ls : List Nat} : ∀ (xs : List PV) (n : Nat), (maskF ls n xs).length = xs.length ∧ ∀ i, (maskF ls n xs).getD i .undef = xs.getD i .undef ∨ (maskF ls n xs).getD i .undef = .undef
  | [], n => ⟨rfl, fun i => .inr (by simp [maskF])⟩
  | x :: xs, n => by
    obtain ⟨h1, h2⟩ := maskF_spec (ls := ls) xs (n + 1)
    refine ⟨by simp [maskF, h1], fun i => ?_⟩
    cases i with
    | zero =>
      simp only [maskF, List.getD_cons_zero]
      split
      · exact .inl rfl
      · exact .inr rfl
    | succ i => simpa [maskF] using h2 i

theorem W.mask {c : Code} (ls : List Nat) (h : W P c ⟨maskF ls 0 st.fr, st.H⟩ Q) : W P c st Q :=
  W.weaken (st' := ⟨maskF ls 0 st.fr, st.H⟩) (maskF_spec st.fr 0).1 (maskF_spec st.fr 0).2 rfl (fun _ => .inl rfl) h

/-- A loop, by states told by parameters. -/
theorem W.loopA {c : Code} {α : Type} (F : α → St) (I : α → Prop) (μ : α → Nat) (a0 : α) (h0 : st = F a0) (hI : I a0)
    (round : ∀ a, I a → W P c (F a) fun e s => match e with
      | .normal => ∃ a', s = F a' ∧ I a' ∧ μ a' < μ a
      | e => Q e s) : W P (.loop c) st Q := by
  have key : ∀ n a, μ a = n → I a → WR P c (F a) Q := by
    intro n
    induction n using Nat.strongRecOn with
    | _ n ih =>
      intro a ha hIa
      refine .round (round a hIa) (fun s hs => ?_) (fun e s hne hs => ?_)
      · obtain ⟨a', rfl, hI', hlt⟩ := hs
        exact ih _ (ha ▸ hlt) a' rfl hI'
      · cases e with
        | normal => exact absurd rfl hne
        | exit id => exact hs
        | ret => exact hs
  subst h0
  exact (key _ a0 rfl hI).loop

/-- A loop over values: between its rounds the slots 'ls' alone count, and our blocks stay as they are. -/
theorem W.loopV {c : Code} (ls : List Nat) {α : Type} (F : α → List PV) (I : α → Prop) (μ : α → Nat) (a0 : α) (h0 : maskF ls 0 st.fr = F a0) (hI : I a0) (hp : ∀ a, I a → ∀ i, Pu ((F a).getD i .undef))
    (round : ∀ a, I a → W P c ⟨F a, []⟩ fun e s => ∃ fr', frzF ls s.H 0 s.fr = some fr' ∧ match e with
      | .normal => ∃ a', fr' = F a' ∧ I a' ∧ μ a' < μ a
      | e => Q e ⟨fr', st.H⟩) : W P (.loop c) st Q := by
  refine .mask ls ?_
  rw [h0]
  refine .loopA (fun a => ⟨F a, st.H⟩) I μ a0 rfl hI fun a ha => .fresh (hp a ha) ((round a ha).mono fun e s ⟨fr', h1, h2⟩ => ?_)
  obtain ⟨h3, h4⟩ := frzF_spec _ _ _ h1
  refine ⟨fr', h3, fun i => (h4 i).1, ?_⟩
  cases e with
  | normal =>
    obtain ⟨a', rfl, h5⟩ := h2
    exact ⟨a', rfl, h5⟩
  | exit id => exact h2
  | ret => exact h2

/-- All slots of a frame lead to none of our blocks. -/
theorem allPu {fr : List PV} (h : fr.all (isPu 100) = true) (i : Nat) : Pu (fr.getD i .undef) := by
  by_cases hi : i < fr.length
  · exact isPu_snd _ _ (List.all_eq_true.1 h _ (getD_mem _ _ _ hi))
  · have : fr.getD i .undef = .undef := by simp [List.getD, List.getElem?_eq_none (Nat.le_of_not_lt hi)]
    rw [this]; exact .undef

end
end Go.MW
