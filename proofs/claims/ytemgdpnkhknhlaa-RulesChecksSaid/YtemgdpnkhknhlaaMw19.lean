/-
  OUR OWN: the rule of regions that draw their order.
-/
import Derived.Test.YtemgdpnkhknhlaaMw18
namespace Go.MW

theorem length_putF (fr : List PV) (d : Option Tmp) (v : PV) : (putF fr d v).length = fr.length := by cases d <;> simp [putF]

theorem getD_putF_ne {fr : List PV} {d : Option Tmp} {v : PV} {t : Tmp} (h : d ≠ some t) : (putF fr d v).getD t .undef = fr.getD t .undef := by
  cases d with
  | none => rfl
  | some d =>
    have : d ≠ t := fun e => h (by rw [e])
    simp [putF, List.getD, List.getElem?_set_ne this]

theorem getD_putF_self {fr fr' : List PV} (hl : fr.length = fr'.length) (t : Nat) (v : PV) : (putF fr (some t) v).getD t .undef = (putF fr' (some t) v).getD t .undef := by
  simp only [putF, List.getD]
  by_cases h : t < fr.length
  · rw [List.getElem?_set_self h, List.getElem?_set_self (by omega)]
  · rw [List.getElem?_eq_none (by simp; omega), List.getElem?_eq_none (by simp; omega)]

theorem list_ext_getD {xs ys : List PV} (hl : xs.length = ys.length) (h : ∀ t, xs.getD t .undef = ys.getD t .undef) : xs = ys := by
  apply List.ext_getElem hl
  intro i h1 h2
  have := h i
  simpa [List.getD, h1, h2] using this

theorem ready_mem {ops : Array Oper} {listed : Array Bool} {i : Nat} (h : i ∈ Region.ready .any ops listed) :
    i < ops.size ∧ listed.getD i true = false ∧ ∀ o, ops[i]? = some o → ∀ e ∈ o.after, Region.binds .any e = true → listed.getD e.on false = true := by
  simp only [Region.ready, List.mem_filter, List.mem_range, Bool.and_eq_true, Bool.not_eq_true'] at h
  refine ⟨h.1, h.2.1, fun o ho e he hb => ?_⟩
  have := h.2.2
  rw [ho] at this
  simp only [Option.map_some, Option.getD_some, Array.all_eq_true', Bool.or_eq_true, Bool.not_eq_true'] at this
  rcases this e he with h | h
  · rw [hb] at h; cases h
  · exact h

theorem ready_nil {ops : Array Oper} {listed : Array Bool} (h : Region.ready .any ops listed = []) (hsz : listed.size = ops.size) (hon : ∀ (i : Nat) (o : Oper), ops[i]? = some o → ∀ e ∈ o.after, e.on < i) :
    ∀ i, i < ops.size → listed.getD i true = true := by
  intro i
  induction i using Nat.strongRecOn with
  | _ i ih =>
    intro hi
    cases hl : listed.getD i true with
    | true => rfl
    | false =>
      have : i ∈ Region.ready .any ops listed := by
        simp only [Region.ready, List.mem_filter, List.mem_range, Bool.and_eq_true, Bool.not_eq_true']
        refine ⟨hi, hl, ?_⟩
        have ho : ops[i]? = some ops[i] := by simp [hi]
        rw [ho]
        simp only [Option.map_some, Option.getD_some, Array.all_eq_true', Bool.or_eq_true, Bool.not_eq_true']
        intro e he
        have hlt := hon i _ ho e he
        have := ih e.on hlt (by omega)
        right
        have hs : e.on < listed.size := by omega
        simp only [Array.getD_eq_getD_getElem?] at this ⊢
        simpa [hs] using this
      rw [h] at this
      simp at this

theorem drawOk_spec {ops : Array Oper} {ks : List Kd} (h : drawOk ops ks = true) :
    (∀ (i j : Nat) (d : Tmp), i < ops.size → j < ops.size → (ops[i]?).bind (·.dst) = some d → (ops[j]?).bind (·.dst) = some d → i = j) ∧
    (∀ (i : Nat) (o : Oper), ops[i]? = some o → ∀ e ∈ o.after, e.on < i) ∧
    (∀ (i k : Nat) (o : Oper), ops[i]? = some o → k < ops.size → k = i ∨ k ∈ (presL ops.toList []).getD i [] ∨ i ∈ (presL ops.toList []).getD k [] ∨
      ((∀ t, (ops[k]?).bind (·.dst) = some t → t ∉ o.looksAt ops) ∧ (ks.getD i .any = .any ∨ ks.getD k .any ≠ .st))) := by
  simp only [drawOk, Bool.and_eq_true, List.all_eq_true, List.mem_range] at h
  obtain ⟨h1, h2⟩ := h
  refine ⟨fun i j d hi hj e1 e2 => ?_, fun i o ho e he => ?_, fun i k o ho hk => ?_⟩
  · refine sole_spec _ h1 i j d ?_ ?_
    · simp [hi] at e1; simp [hi, e1]
    · simp [hj] at e2; simp [hj, e2]
  · have hi : i < ops.size := (Array.getElem?_eq_some_iff.1 ho).1
    have := h2 i hi
    rw [ho] at this
    simp only [Bool.and_eq_true, List.all_eq_true, decide_eq_true_eq] at this
    exact this.1 e (by simpa using he)
  · have hi : i < ops.size := (Array.getElem?_eq_some_iff.1 ho).1
    have := h2 i hi
    rw [ho] at this
    simp only [Bool.and_eq_true, List.all_eq_true, List.mem_range] at this
    have := this.2 k hk
    simp only [Bool.or_eq_true, Bool.and_eq_true, beq_iff_eq, List.contains_iff_mem, bne_iff_ne, ne_eq] at this
    rcases this with ((h | h) | h) | ⟨h, h'⟩
    · exact .inl h
    · exact .inr (.inl h)
    · exact .inr (.inr (.inl h))
    · refine .inr (.inr (.inr ⟨fun t ht => ?_, h'⟩))
      rw [ht] at h
      simpa using h

/-- THE RULE: a region that draws its order ends as its run in the order of the text. -/
theorem W.draw {P : Program} {id : Nat} {ops : Array Oper} {ks : List Kd} {st st' : St} {Q : Ex → St → Prop} (cx : Cx P) (hok : drawOk ops ks = true) (h : DR P ops ops.toList ks st st') (hq : Q .normal st') : W P (.region id ops true) st Q := by
  obtain ⟨hone, hon, hB⟩ := drawOk_spec hok
  obtain ⟨f, hf0, hfn, hstep⟩ := h.run
  have hstepA : ∀ (i : Nat) (o : Oper), ops[i]? = some o → StepT P ops o (ks.getD i .any) (f i) (f (i + 1)) := fun i o ho => by
    obtain ⟨hi, e⟩ := Array.getElem?_eq_some_iff.1 ho
    have := hstep i (by simpa using hi)
    simpa [e] using this
  have hn : ops.toList.length = ops.size := by simp
  rw [hn] at hfn
  have frs : ∀ (i : Nat) (o : Oper), ops[i]? = some o → ∃ y, (f (i + 1)).fr = putF (f i).fr o.dst y := fun i o ho => by
    rcases hstepA i o ho with ⟨_, e⟩ | ⟨_, y, e, _⟩
    · exact ⟨_, by rw [e]⟩
    · exact ⟨y, e⟩
  have get : ∀ i : Nat, i < ops.size → ∃ o : Oper, ops[i]? = some o := fun i hi => ⟨ops[i], by simp [hi]⟩
  have hlen : ∀ i, i ≤ ops.size → (f i).fr.length = st.fr.length := by
    intro i
    induction i with
    | zero => intro _; rw [hf0]
    | succ i ih =>
      intro hi
      obtain ⟨o, ho⟩ := get i (by omega)
      obtain ⟨y, e⟩ := frs i o ho
      rw [e, length_putF, ih (by omega)]
  have keepT : ∀ (i j t : Nat), i ≤ j → j ≤ ops.size → (∀ k, i ≤ k → k < j → (ops[k]?).bind (·.dst) ≠ some t) → (f j).fr.getD t .undef = (f i).fr.getD t .undef := by
    intro i j t hij
    induction j with
    | zero => intro _ _; have : i = 0 := by omega
              subst this; rfl
    | succ j ih =>
      intro hj hk
      by_cases e : i = j + 1
      · subst e; rfl
      · obtain ⟨o, ho⟩ := get j (by omega)
        obtain ⟨y, e1⟩ := frs j o ho
        rw [e1, getD_putF_ne (by have := hk j (by omega) (by omega); simpa [ho] using this)]
        exact ih (by omega) (by omega) fun k h1 h2 => hk k h1 (by omega)
  have fin : ∀ (i k t : Nat), k < i → i ≤ ops.size → (ops[k]?).bind (·.dst) = some t → (f i).fr.getD t .undef = (f ops.size).fr.getD t .undef := by
    intro i k t hki hi hd
    refine (keepT i ops.size t hi (Nat.le_refl _) fun j h1 h2 hdj => ?_).symm
    have := hone k j t (by omega) h2 hd hdj
    omega
  have heapT : ∀ i j : Nat, i ≤ j → j ≤ ops.size → (∀ k, i ≤ k → k < j → ks.getD k .any ≠ .st) → (f j).H = (f i).H := by
    intro i j hij
    induction j with
    | zero => intro _ _; have : i = 0 := by omega
              subst this; rfl
    | succ j ih =>
      intro hj hk
      by_cases e : i = j + 1
      · subst e; rfl
      · obtain ⟨o, ho⟩ := get j (by omega)
        have hkj := hk j (by omega) (by omega)
        have e1 : (f (j + 1)).H = (f j).H := by
          rcases hstepA j o ho with ⟨_, e⟩ | ⟨_, y, _, hm⟩
          · rw [e]
          · cases hkd : ks.getD j .any with
            | any => rw [hkd] at hm; exact hm.1
            | rd => rw [hkd] at hm; exact hm.1
            | st => exact absurd hkd hkj
        rw [e1]
        exact ih (by omega) (by omega) fun k h1 h2 => hk k h1 (by omega)
  intro w0 ρ0 a0 hs0
  refine wp_region_any cx.mixed ?_
  -- the invariant
  have main : ∀ (fuel : Nat) (listed : Array Bool) (a : Act) (w : World) (ρ : Rl) (fr : List PV) (H : List Blk) (m : Nat),
      listed.size = ops.size → ((List.range ops.size).filter fun i => !listed.getD i true).length ≤ fuel →
      (∀ (i : Nat) (o : Oper), ops[i]? = some o → listed.getD i true = true → ∀ e ∈ o.after, Region.binds .any e = true → listed.getD e.on false = true) →
      SR w ρ ⟨fr, H⟩ a → fr.length = st.fr.length →
      (∀ (t k : Nat), k < ops.size → listed.getD k true = true → (ops[k]?).bind (·.dst) = some t → fr.getD t .undef = (f ops.size).fr.getD t .undef) →
      (∀ t : Nat, (∀ k : Nat, k < ops.size → (ops[k]?).bind (·.dst) = some t → listed.getD k true = false) → fr.getD t .undef = st.fr.getD t .undef) →
      m ≤ ops.size → H = (f m).H → (∀ k, k < ops.size → ks.getD k .any = .st → (listed.getD k true = true ↔ k < m)) →
      Step w0 ρ0 st.H w ρ H → wpAny P .any ops (Post Q w0 ρ0 st.H) fuel listed a w := by
    intro fuel
    have done : ∀ (listed : Array Bool) (a : Act) (w : World) (ρ : Rl) (fr : List PV) (H : List Blk) (m : Nat), SR w ρ ⟨fr, H⟩ a → fr.length = st.fr.length →
        (∀ (t k : Nat), k < ops.size → listed.getD k true = true → (ops[k]?).bind (·.dst) = some t → fr.getD t .undef = (f ops.size).fr.getD t .undef) →
        (∀ t : Nat, (∀ k : Nat, k < ops.size → (ops[k]?).bind (·.dst) = some t → listed.getD k true = false) → fr.getD t .undef = st.fr.getD t .undef) →
        m ≤ ops.size → H = (f m).H → (∀ k, k < ops.size → ks.getD k .any = .st → (listed.getD k true = true ↔ k < m)) →
        Step w0 ρ0 st.H w ρ H → (∀ i, i < ops.size → listed.getD i true = true) → Post Q w0 ρ0 st.H .normal a w := by
      intro listed a w ρ fr H m hs hl hwr hun hm hH hmk hst hall
      have efr : fr = (f ops.size).fr := by
        apply list_ext_getD (by rw [hl, hlen _ (Nat.le_refl _)])
        intro t
        by_cases hex : ∃ k, k < ops.size ∧ (ops[k]?).bind (·.dst) = some t
        · obtain ⟨k, hk, hd⟩ := hex
          exact hwr t k hk (hall k hk) hd
        · rw [hun t fun k hk hd => absurd ⟨k, hk, hd⟩ hex, keepT 0 ops.size t (Nat.zero_le _) (Nat.le_refl _) fun k _ hk hd => hex ⟨k, hk, hd⟩, hf0]
      have eH : H = (f ops.size).H := by
        rw [hH]
        exact (heapT m ops.size hm (Nat.le_refl _) fun k h1 h2 hk => by have := (hmk k h2 hk).1 (hall k h2); omega).symm
      have est : (⟨fr, H⟩ : St) = st' := by rw [efr, eH, ← hfn]
      exact ⟨.normal, ⟨fr, H⟩, ρ, rfl, by rw [est]; exact hq, hs, hst⟩
    induction fuel with
    | zero =>
      intro listed a w ρ fr H m hsz hfu hcl hs hl hwr hun hm hH hmk hst
      have hall : ∀ i, i < ops.size → listed.getD i true = true := fun i hi => by
        cases hli : listed.getD i true with
        | true => rfl
        | false =>
          have : i ∈ (List.range ops.size).filter fun i => !listed.getD i true := by
            simp only [List.mem_filter, List.mem_range, Bool.not_eq_true']; exact ⟨hi, hli⟩
          have := List.length_pos_of_mem this
          omega
      refine ⟨?_, done listed a w ρ fr H m hs hl hwr hun hm hH hmk hst hall⟩
      cases hr : Region.ready .any ops listed with
      | nil => rfl
      | cons i r =>
        have := ready_mem (i := i) (ops := ops) (listed := listed) (by rw [hr]; simp)
        rw [hall i this.1] at this
        cases this.2.1
    | succ fuel ih =>
      intro listed a w ρ fr H m hsz hfu hcl hs hl hwr hun hm hH hmk hst
      refine ⟨fun hr => done listed a w ρ fr H m hs hl hwr hun hm hH hmk hst (ready_nil hr hsz hon), fun i hi => ?_⟩
      obtain ⟨hin, hli, hre⟩ := ready_mem hi
      obtain ⟨o, ho⟩ := get i hin
      have hD := presL_closed (D := fun k => k < ops.size ∧ listed.getD k true = true) ops.toList [] (fun j hj hDj e he hb => by
        simp only [List.length_nil, Nat.zero_add] at hDj
        have hoj : ops[j]? = some (ops.toList[j]) := by simp [hDj.1]
        have h1 := hcl j _ hoj hDj.2 e he hb
        have h2 := hon j _ hoj e he
        refine ⟨by omega, ?_⟩
        have hs2 : e.on < listed.size := by omega
        simp only [Array.getD_eq_getD_getElem?] at h1 ⊢
        simpa [hs2] using h1) (fun j hj => by simp at hj)
      -- what i has before it is listed; what has i before it is not
      have hpre : ∀ k, k ∈ (presL ops.toList []).getD i [] → (k < ops.size ∧ listed.getD k true = true) ∧ k < i := by
        have hD' := presL_closed (D := fun k => (k < ops.size ∧ listed.getD k true = true) ∨ k = i) ops.toList [] (fun j hj hDj e he hb => by
          simp only [List.length_nil, Nat.zero_add] at hDj
          left
          have hj' : j < ops.size := by simpa using hj
          have hoj : ops[j]? = some (ops.toList[j]) := by simp [hj']
          have h1 : listed.getD e.on false = true := by
            rcases hDj with hDj | rfl
            · exact hcl j _ hoj hDj.2 e he hb
            · exact hre _ hoj e he hb
          have h2 := hon j _ hoj e he
          refine ⟨by omega, ?_⟩
          have hs2 : e.on < listed.size := by omega
          simp only [Array.getD_eq_getD_getElem?] at h1 ⊢
          simpa [hs2] using h1) (fun j hj => by simp at hj)
        intro k hk
        obtain ⟨h1, h2⟩ := hD' i (.inr rfl) k hk
        rcases h1 with h1 | h1
        · exact ⟨h1, h2⟩
        · omega
      have hpost : ∀ k, k < ops.size → i ∈ (presL ops.toList []).getD k [] → listed.getD k true = false ∧ i < k := by
        intro k hk hik
        have hlt : i < k := by
          have := presL_closed (D := fun _ => True) ops.toList [] (fun _ _ _ _ _ _ => trivial) (fun j hj => by simp at hj) k trivial i hik
          exact this.2
        refine ⟨?_, hlt⟩
        cases hlk : listed.getD k true with
        | false => rfl
        | true =>
          have := (hD k ⟨hk, hlk⟩ i hik).1.2
          rw [hli] at this; cases this
      -- the slots that it looks at
      have hlook : ∀ t ∈ o.looksAt ops, fr.getD t .undef = (f i).fr.getD t .undef := by
        intro t ht
        by_cases hex : ∃ k, k < ops.size ∧ (ops[k]?).bind (·.dst) = some t
        · obtain ⟨k, hk, hd⟩ := hex
          have before : listed.getD k true = false → i ≤ k → fr.getD t .undef = (f i).fr.getD t .undef := fun hlk hik => by
            rw [hun t fun j hj hdj => by rw [hone j k t hj hk hdj hd]; exact hlk]
            rw [keepT 0 i t (Nat.zero_le _) (by omega) fun j _ hj hdj => by have := hone j k t (by omega) hk hdj hd; omega, hf0]
          rcases hB i k o ho hk with rfl | h | h | ⟨h, _⟩
          · exact before hli (Nat.le_refl _)
          · obtain ⟨⟨_, hlk⟩, hki⟩ := hpre k h
            rw [hwr t k hk hlk hd, fin i k t hki (by omega) hd]
          · obtain ⟨hlk, hik⟩ := hpost k hk h
            exact before hlk (by omega)
          · exact absurd ht (h t hd)
        · rw [hun t fun k hk hd => absurd ⟨k, hk, hd⟩ hex]
          rw [keepT 0 i t (Nat.zero_le _) (by omega) fun j _ hj hdj => hex ⟨j, by omega, hdj⟩, hf0]
      -- our blocks, if it looks at them
      have hheap : ks.getD i .any ≠ .any → H = (f i).H ∧ ∀ k, k < ops.size → ks.getD k .any = .st → k ≠ i → (k < m ↔ k < i) := by
        intro hki
        have hcmp : ∀ k, k < ops.size → ks.getD k .any = .st → k ≠ i → (k < m ↔ k < i) := by
          intro k hk hks hne
          rw [← hmk k hk hks]
          rcases hB i k o ho hk with rfl | h | h | ⟨_, h | h⟩
          · exact absurd rfl hne
          · obtain ⟨⟨_, hlk⟩, hki⟩ := hpre k h
            simp [hlk, hki]
          · obtain ⟨hlk, hik⟩ := hpost k hk h
            rw [hlk]
            exact ⟨fun h => (by cases h), fun h => by omega⟩
          · exact absurd h hki
          · exact absurd hks h
        refine ⟨?_, hcmp⟩
        rw [hH]
        rcases Nat.le_total m i with hmi | him
        · refine (heapT m i hmi (by omega) fun k h1 h2 hks => ?_).symm
          have := (hcmp k (by omega) hks (by omega)).2 h2
          omega
        · refine heapT i m him hm fun k h1 h2 hks => ?_
          by_cases e : k = i
          · subst e
            have := (hmk k (by omega) hks).2 h2
            rw [hli] at this; cases this
          · have := (hcmp k (by omega) hks e).1 h2
            omega
      -- after it
      have hL : ∀ k, (listed.setIfInBounds i true).getD k true = true ↔ (listed.getD k true = true ∨ k = i) := by
        intro k
        simp only [Array.getD_eq_getD_getElem?]
        by_cases e : k = i
        · subst e; simp [hsz, hin]
        · rw [Array.getElem?_setIfInBounds_ne (Ne.symm e)]; simp [e]
      have hLf : ∀ k, (listed.setIfInBounds i true).getD k true = false → listed.getD k true = false ∧ k ≠ i := by
        intro k hk
        have this : ¬ (listed.getD k true = true ∨ k = i) := fun hh => by have := (hL k).2 hh; rw [hk] at this; cases this
        constructor
        · cases h : listed.getD k true with
          | false => rfl
          | true => exact absurd (.inl h) this
        · exact fun e => this (.inr e)
      have next : ∀ (y : PV) (a' : Act) (w' : World) (ρ' : Rl) (H' : List Blk) (m' : Nat), (f (i + 1)).fr = putF (f i).fr o.dst y → SR w' ρ' ⟨putF fr o.dst y, H'⟩ a' → Step w0 ρ0 st.H w' ρ' H' →
          m' ≤ ops.size → H' = (f m').H → (∀ k, k < ops.size → ks.getD k .any = .st → ((listed.getD k true = true ∨ k = i) ↔ k < m')) →
          wpAny P .any ops (Post Q w0 ρ0 st.H) fuel (listed.setIfInBounds i true) a' w' := by
        intro y a' w' ρ' H' m' hfy hs' hst' hm' hH' hmk'
        refine ih _ a' w' ρ' _ H' m' (by simp [hsz]) ?_ ?_ hs' (by rw [length_putF, hl]) ?_ ?_ hm' hH' ?_ hst'
        · have := count_lt (p := fun k => !listed.getD k true) (q := fun k => !(listed.setIfInBounds i true).getD k true) (i := i) (List.range ops.size) (fun x hx => by
            simp only [Bool.not_eq_true'] at hx ⊢; exact (hLf x hx).1) (by simpa using hin) (by simp only [hli]; rfl) (by rw [(hL i).2 (.inr rfl)]; rfl)
          omega
        · intro j oj hoj hlj e he hb
          have hlt := hon j oj hoj e he
          have hj : j < ops.size := (Array.getElem?_eq_some_iff.1 hoj).1
          have h1 : listed.getD e.on false = true := by
            rcases (hL j).1 hlj with h | rfl
            · exact hcl j oj hoj h e he hb
            · exact hre oj hoj e he hb
          have hs2 : e.on < listed.size := by omega
          have h2 : listed.getD e.on true = true := by
            simp only [Array.getD_eq_getD_getElem?] at h1 ⊢; simpa [hs2] using h1
          have h3 := (hL e.on).2 (.inl h2)
          have hs3 : e.on < (listed.setIfInBounds i true).size := by simpa using hs2
          simp only [Array.getD_eq_getD_getElem?] at h3 ⊢
          rw [Array.getElem?_eq_getElem hs3] at h3 ⊢
          exact h3
        · intro t k hk hlk hd
          by_cases e : k = i
          · subst e
            have hdo : o.dst = some t := by simpa [ho] using hd
            rw [← fin (k + 1) k t (by omega) (by omega) hd, hfy, hdo]
            exact getD_putF_self (by rw [hl, hlen k (by omega)]) t y
          · have hne : o.dst ≠ some t := fun hdo => e (hone k i t hk hin hd (by simpa [ho] using hdo))
            rw [getD_putF_ne hne]
            exact hwr t k hk (((hL k).1 hlk).resolve_right e) hd
        · intro t hno
          have hne : o.dst ≠ some t := fun hdo => by
            have := hno i hin (by simpa [ho] using hdo)
            rw [(hL i).2 (.inr rfl)] at this; cases this
          rw [getD_putF_ne hne]
          exact hun t fun k hk hd => (hLf k (hno k hk hd)).1
        · intro k hk hks
          rw [hL k]; exact hmk' k hk hks
      have hmAny : ks.getD i .any ≠ .st → ∀ k, k < ops.size → ks.getD k .any = .st → ((listed.getD k true = true ∨ k = i) ↔ k < m) := by
        intro hk1 k hk hks
        rw [← hmk k hk hks]
        constructor
        · rintro (h | rfl)
          · exact h
          · exact absurd hks hk1
        · exact .inl
      unfold wpOp
      rw [ho]
      dsimp only
      rcases hstepA i o ho with ⟨hw, e⟩ | ⟨hw, y, hfy, hkd⟩
      · rw [← dwant_congr hlook] at hw
        have hwf := want_snd hs.fr hw
        rw [hwf]
        simp only [Bool.false_eq_true, if_false]
        have hs' : SR w ρ ⟨putF fr o.dst (.tuple []), H⟩ (a.put o.dst undef) := ⟨hs.fr.put VR.hole o.dst, hs.hp⟩
        by_cases hk1 : ks.getD i .any = .st
        · obtain ⟨hHi, hcmp⟩ := hheap (by rw [hk1]; simp)
          refine next (.tuple []) _ w ρ H (i + 1) (by rw [e]) hs' hst (by omega) (by rw [hHi, e]) fun k hk hks => ?_
          by_cases eki : k = i
          · subst eki; exact ⟨fun _ => by omega, fun _ => .inr rfl⟩
          · rw [hmk k hk hks, hcmp k hk hks eki]; omega
        · exact next (.tuple []) _ w ρ H m (by rw [e]) hs' hst hm hH (hmAny hk1)
      · rw [← dwant_congr hlook] at hw
        have hwt := want_snd hs.fr hw
        rw [hwt]
        simp only [if_true]
        left
        cases hkk : ks.getD i .any with
        | any =>
          rw [hkk] at hkd
          refine hkd.2 H fr hlook w ρ a _ _ hs fun u w' ρ' hv hH' hst' => ?_
          exact next y _ w' ρ' H m hfy ⟨(hs.fr.mono hst'.le).put hv o.dst, hH'⟩ (hst.trans hst') hm hH (hmAny (by rw [hkk]; simp))
        | rd =>
          rw [hkk] at hkd
          obtain ⟨hHi, _⟩ := hheap (by rw [hkk]; simp)
          rw [← hHi] at hkd
          refine hkd.2 fr hlook w ρ a _ _ hs fun u w' ρ' hv hH' hst' => ?_
          exact next y _ w' ρ' H m hfy ⟨(hs.fr.mono hst'.le).put hv o.dst, hH'⟩ (hst.trans hst') hm hH (hmAny (by rw [hkk]; simp))
        | st =>
          rw [hkk] at hkd
          obtain ⟨hHi, hcmp⟩ := hheap (by rw [hkk]; simp)
          rw [← hHi] at hkd
          refine hkd fr hlook w ρ a _ _ hs fun u w' ρ' hv hH' hst' => ?_
          refine next y _ w' ρ' _ (i + 1) hfy ⟨(hs.fr.mono hst'.le).put hv o.dst, hH'⟩ (hst.trans hst') (by omega) rfl fun k hk hks => ?_
          by_cases eki : k = i
          · subst eki; exact ⟨fun _ => by omega, fun _ => .inr rfl⟩
          · rw [hmk k hk hks, hcmp k hk hks eki]; omega
  -- the beginning
  have hle : Le w0 ρ0 { w0 with drawn := w0.drawn + 1 } ρ0 := ⟨fun _ h => h, fun _ _ => rfl, fun _ _ h => h, fun _ c e f h => ⟨c, e, f, h, rfl⟩⟩
  have hs1 : SR { w0 with drawn := w0.drawn + 1 } ρ0 ⟨st.fr, st.H⟩ a0 := by
    refine ⟨hs0.fr.mono hle, ⟨fun r hr hd => ?_, hs0.hp.one, hs0.hp.none, hs0.hp.S, hs0.hp.lt⟩⟩
    obtain ⟨b, sh, h1, h2⟩ := hs0.hp.blk r hr hd
    exact ⟨b, sh, h1, h2.mono hle rfl (fun hh => h2.noS hd hh)⟩
  have hrep : ∀ k, k < ops.size → (Array.replicate ops.size false).getD k true = false := fun k hk => by
    simp [Array.getD_eq_getD_getElem?, hk]
  refine main ops.size _ a0 _ ρ0 st.fr st.H 0 (by simp) ?_ ?_ hs1 rfl ?_ (fun _ _ => rfl) (Nat.zero_le _) (by rw [hf0]) ?_ ⟨hle, Nat.le_refl _, fun _ _ _ => rfl, fun _ h => .inl h, fun _ h => .inl h, Nat.le_refl _, rfl, rfl, rfl⟩
  · refine Nat.le_trans (List.length_filter_le _ _) (by simp)
  · intro i o ho hl
    have hi : i < ops.size := (Array.getElem?_eq_some_iff.1 ho).1
    rw [hrep i hi] at hl; cases hl
  · intro t k hk hl
    rw [hrep k hk] at hl; cases hl
  · intro k hk _
    rw [hrep k hk]
    exact ⟨fun h => (by cases h), fun h => by omega⟩

end Go.MW
