/-
  OUR OWN: maps that are looked into, lengths, indices; and all operations that only look together: 'dread'.
-/
import Derived.Test.YtemgdpnkhknhlaaMw5
import Derived.WideLaws
import Derived.ChangeKeysEq
namespace Go.MW

/-! ### keys -/

def dchkFs (chk : TypeId → PV → Bool) (P : Program) (cs : List PV) : List Field → Bool
  | [] => true
  | f :: fs => if f.name ≠ "_" then
      match partOf P f.type cs f.offset with
      | some a => chk f.type a && dchkFs chk P cs fs
      | none => false
    else dchkFs chk P cs fs

def dchk (P : Program) : Nat → TypeId → PV → Bool
  | 0, _, _ => false
  | n + 1, t, v =>
    match P.underlying t with
    | some (.struct fs) => match v with
      | .agg cs => dchkFs (dchk P n) P cs fs.toList
      | _ => false
    | some (.int _) | some .bool | some .string => true
    | _ => false

theorem dchkFs_snd {P : Program} {w : World} {ρ : Rl} {em : Bool} {n : Nat} {chk : TypeId → PV → Bool} (hchk : ∀ t x v, VR w ρ x v → chk t x = true → (Instr.checkKey em n t v).run P w = .ok () w)
    {cs : List PV} {vs : Array Value} (hA : AV w ρ cs vs) : ∀ (fs : List Field), dchkFs chk P cs fs = true →
    (do for f in fs do
          if f.name ≠ "_" then Instr.checkKey em n f.type (← part f.type vs f.offset) : Sem Unit).run P w = .ok () w
  | [], _ => rfl
  | f :: fs, h => by
    unfold dchkFs at h
    simp only [List.forIn_cons, Sem.run_bind]
    split at h
    · rename_i hn
      rw [if_pos hn]
      split at h
      · rename_i a ha
        simp only [Bool.and_eq_true] at h
        obtain ⟨u, hu, hv⟩ := part_snd (P := P) hA.1 hA.2 ha
        have ih := dchkFs_snd hchk hA fs h.2
        simp only [Sem.run_bind, hu, Result.andThen_ok, hchk _ _ _ hv h.1, Sem.run_pure]
        simp only [Sem.run_bind] at ih
        exact ih
      · cases h
    · rename_i hn
      rw [if_neg hn]
      have ih := dchkFs_snd hchk hA fs h
      simp only [Sem.run_pure, Result.andThen_ok]
      simp only [Sem.run_bind] at ih
      exact ih

theorem dchk_snd {P : Program} {w : World} {ρ : Rl} (em : Bool) : ∀ (n : Nat) (t : TypeId) (x : PV) (v : Value), VR w ρ x v → dchk P n t x = true → (Instr.checkKey em n t v).run P w = .ok () w
  | 0, _, _, _, _, h => by simp [dchk] at h
  | n + 1, t, x, v, hx, h => by
    unfold dchk at h
    split at h
    · rename_i fs hu
      split at h
      · rename_i cs
        obtain ⟨vs, rfl, hA⟩ := agg_inv hx
        have := dchkFs_snd (em := em) (fun t x v h1 h2 => dchk_snd em n t x v h1 h2) hA fs.toList h
        simp only [Instr.checkKey, Sem.run_bind, run_underlying hu, Result.andThen_ok]
        rw [← Array.forIn_toList]
        simp only [Sem.run_bind] at this
        exact this
      · cases h
    · rename_i k hu; simp only [Instr.checkKey, Sem.run_bind, run_underlying hu, Result.andThen_ok]; rfl
    · rename_i hu; simp only [Instr.checkKey, Sem.run_bind, run_underlying hu, Result.andThen_ok]; rfl
    · rename_i hu; simp only [Instr.checkKey, Sem.run_bind, run_underlying hu, Result.andThen_ok]; rfl
    · cases h

/-- Where a key stands among the entries. -/
def dfind (P : Program) (E : TypeId → Bool) (kt : TypeId) (k : PV) : List (PV × PV) → Nat → Option (Option Nat)
  | [], _ => some none
  | e :: es, i => match deqIn P E 10000 kt k e.1 with
    | some true => some (some i)
    | some false => dfind P E kt k es (i + 1)
    | none => none

/-- The entries, told. -/
def EntsR (w : World) (ρ : Rl) (es : List (PV × PV)) (ents : List MapEntry) : Prop :=
  ents.length = es.length ∧ ∀ i, i < es.length → VR w ρ (es.getD i default).1 (ents.getD i default).key ∧ VR w ρ (es.getD i default).2 (ents.getD i default).val

theorem EntsR.tail {w : World} {ρ : Rl} {e : PV × PV} {es : List (PV × PV)} {m : MapEntry} {ents : List MapEntry} (h : EntsR w ρ (e :: es) (m :: ents)) :
    VR w ρ e.1 m.key ∧ VR w ρ e.2 m.val ∧ EntsR w ρ es ents := by
  refine ⟨?_, ?_, by simpa using h.1, fun i hi => ?_⟩
  · simpa using (h.2 0 (by simp)).1
  · simpa using (h.2 0 (by simp)).2
  · simpa using h.2 (i + 1) (by simpa using hi)

theorem findAsking_snd {P : Program} (cx : Cx P) {w : World} {ρ : Rl} {kt : TypeId} {k : PV} {kv : Value} (hk : VR w ρ k kv) : ∀ (es : List (PV × PV)) (ents : List MapEntry) (i : Nat) (r : Option Nat),
    EntsR w ρ es ents → dfind P cx.E kt k es i = some r → (Instr.findAsking kt kv ents i).run P w = .ok (r.map fun j => (j, (ents.getD (j - i) default).val)) w ∧ ∀ j, r = some j → i ≤ j ∧ j < i + es.length
  | [], [], i, r, _, h => by simp [dfind] at h; subst h; exact ⟨rfl, fun j e => by cases e⟩
  | [], _ :: _, _, _, hE, _ => by have := hE.1; simp at this
  | _ :: _, [], _, _, hE, _ => by have := hE.1; simp at this
  | e :: es, m :: ents, i, r, hE, h => by
    obtain ⟨h1, h2, hE'⟩ := hE.tail
    unfold dfind at h
    unfold Instr.findAsking
    split at h
    · rename_i hd
      simp at h; subst h
      have := deqIn_snd cx 10000 kt _ _ _ _ _ hk h1 hd
      refine ⟨?_, fun j e => by cases e; simp⟩
      simp only [Sem.run_bind, Op.equal, Op.maxDepth, this, Result.andThen_ok]
      simp
    · rename_i hd
      have := deqIn_snd cx 10000 kt _ _ _ _ _ hk h1 hd
      obtain ⟨ih, ih2⟩ := findAsking_snd cx hk es ents (i + 1) r hE' h
      refine ⟨?_, fun j e => by have := ih2 j e; simp; omega⟩
      simp only [Sem.run_bind, Op.equal, Op.maxDepth, this, Result.andThen_ok, Bool.false_eq_true, if_false, ih]
      congr 1
      cases r with
      | none => rfl
      | some j =>
        have := ih2 j rfl
        simp only [Option.map_some]
        have e : j - i = (j - (i + 1)) + 1 := by omega
        rw [e]; simp
    · cases h

theorem findNow_snd {P : Program} {E : TypeId → Bool} {w : World} {ρ : Rl} {kt : TypeId} {d : TypeDesc} (hu : P.underlying kt = some d) (hd : (match d with | .int _ | .string | .bool => true | _ => false) = true)
    {k : PV} {kv : Value} (hk : VR w ρ k kv) : ∀ (es : List (PV × PV)) (ents : List MapEntry) (i : Nat) (r : Option Nat),
    EntsR w ρ es ents → dfind P E kt k es i = some r → Instr.findNow d kv ents i = some (r.map fun j => (j, (ents.getD (j - i) default).val)) ∧ ∀ j, r = some j → i ≤ j ∧ j < i + es.length
  | [], [], i, r, _, h => by simp [dfind] at h; subst h; exact ⟨rfl, fun j e => by cases e⟩
  | [], _ :: _, _, _, hE, _ => by have := hE.1; simp at this
  | _ :: _, [], _, _, hE, _ => by have := hE.1; simp at this
  | e :: es, m :: ents, i, r, hE, h => by
    obtain ⟨h1, h2, hE'⟩ := hE.tail
    have same : ∀ b, deqIn P E 10000 kt k e.1 = some b → Instr.sameNow d kv m.key = some b := by
      intro b hb
      unfold deqIn at hb
      rw [hu] at hb
      revert hb
      generalize e.1 = ek at h1
      generalize m.key = mk at h1
      cases d <;> simp at hd
      · dsimp only
        split
        · rename_i a b'; intro hb; cases hk; cases h1; simpa [Instr.sameNow] using hb
        · intro hb; cases hb
      · dsimp only
        split
        · rename_i k1 a k2 b'; intro hb; cases hk; cases h1; simpa [Instr.sameNow] using hb
        · intro hb; cases hb
      · dsimp only
        split
        · rename_i a b'
          intro hb; cases hk; cases h1
          obtain rfl := Option.some.inj hb
          simp only [Instr.sameNow]
          congr 1
          rw [beq_toListBytes, ByteArray.toList_eq, ByteArray.toList_eq]
        · intro hb; cases hb
    unfold dfind at h
    unfold Instr.findNow
    split at h
    · rename_i hb
      simp at h; subst h
      refine ⟨?_, fun j e => by cases e; simp⟩
      simp only [same _ hb]
      simp
    · rename_i hb
      obtain ⟨ih, ih2⟩ := findNow_snd hu hd hk es ents (i + 1) r hE' h
      refine ⟨?_, fun j e => by have := ih2 j e; simp; omega⟩
      simp only [same _ hb, ih]
      congr 1
      cases r with
      | none => rfl
      | some j =>
        have := ih2 j rfl
        simp only [Option.map_some]
        have e : j - i = (j - (i + 1)) + 1 := by omega
        rw [e]; simp
    · cases h

theorem findKey_snd {P : Program} (cx : Cx P) {w : World} {ρ : Rl} {kt : TypeId} {k : PV} {kv : Value} (hk : VR w ρ k kv) {es : List (PV × PV)} {ents : List MapEntry} {r : Option Nat}
    (hE : EntsR w ρ es ents) (h : dfind P cx.E kt k es 0 = some r) (hkt : (P.underlying kt).isSome = true) :
    (Instr.findKey kt kv ents).run P w = .ok (r.map fun j => (j, (ents.getD j default).val)) w ∧ ∀ j, r = some j → j < es.length := by
  obtain ⟨d, hu⟩ := Option.isSome_iff_exists.1 hkt
  by_cases hd : (match d with | .int _ | .string | .bool => true | _ => false) = true
  · obtain ⟨h1, h2⟩ := findNow_snd hu hd hk es ents 0 r hE h
    refine ⟨?_, fun j e => by have := h2 j e; omega⟩
    simp only [Instr.findKey, Sem.run_bind, run_underlying hu, Result.andThen_ok, h1]
    simp
  · obtain ⟨h1, h2⟩ := findAsking_snd cx hk es ents 0 r hE h
    refine ⟨?_, fun j e => by have := h2 j e; omega⟩
    simp only [Instr.findKey, Sem.run_bind, run_underlying hu, Result.andThen_ok]
    have hnow : Instr.findNow d kv ents 0 = none ∨ ents = [] := by
      cases ents with
      | nil => exact .inr rfl
      | cons m ents =>
        left
        unfold Instr.findNow
        have : Instr.sameNow d kv m.key = none := by
          cases d <;> simp at hd <;> rfl
        rw [this]
    rcases hnow with hnow | rfl
    · rw [hnow]
      simpa using h1
    · cases es with
      | nil => simp [dfind] at h; subst h; simp [Instr.findNow]
      | cons e es => have := hE.1; simp at this

theorem map_of {w : World} {ρ : Rl} {H : List Blk} (hH : HR w ρ H) {r : Nat} {es : List (PV × PV)} (h : H.getD r .dead = .map es) {v : Value} (hv : VR w ρ (.map r) v) :
    ∃ b ents, v = .map (some b) ∧ w.heap[b]? = some (.map ents es.length) ∧ ents.size = es.length ∧ EntsR w ρ es ents.toList ∧ (∀ i, i < es.length → (ents.getD i default).born = i) ∧ ¬ ρ.S b ∧ ρ.β r = some (b, 0) ∧ r < H.length := by
  have hr : r < H.length := by
    rcases Nat.lt_or_ge r H.length with h' | h'
    · exact h'
    · simp [List.getD, List.getElem?_eq_none h'] at h
  cases hv with
  | @map _ b sh hβ =>
    obtain ⟨b', sh', hβ', hb⟩ := hH.blk r hr (by rw [h]; simp)
    rw [hβ] at hβ'; simp at hβ'; obtain ⟨rfl, rfl⟩ := hβ'
    rw [h] at hb
    obtain ⟨hS, rfl, ents, hw, hs, hv⟩ := hb
    refine ⟨b, ents, rfl, hw, hs, ⟨by simpa using hs, fun i hi => ?_⟩, fun i hi => (hv i hi).2.2, hS, hβ, hr⟩
    have := hv i hi
    have e : ents.toList.getD i default = ents.getD i default := by simp
    rw [e]; exact ⟨this.1, this.2.1⟩

def dlookup (P : Program) (E : TypeId → Bool) (H : List Blk) (t : TypeId) (m k : PV) (ok : Bool) : Option PV :=
  match P.underlying t with
  | some (.map kt e) =>
    if (P.underlying kt).isSome && dchk P 10000 kt k then
      match zeroPV P e with
      | some z =>
        match (match m with
          | .nilm => some []
          | .map r => match H.getD r .dead with
            | .map es => some es
            | _ => none
          | _ => none) with
        | some es => match dfind P E kt k es 0 with
          | some (some i) => some (if ok then .tuple [(es.getD i default).2, .bool true] else (es.getD i default).2)
          | some none => some (if ok then .tuple [z, .bool false] else z)
          | none => none
        | none => none
      | none => none
    else none
  | _ => none

theorem tuple2 {w : World} {ρ : Rl} {x y : PV} {u v : Value} (h1 : VR w ρ x u) (h2 : VR w ρ y v) : VR w ρ (.tuple [x, y]) (.tuple #[u, v]) :=
  .tuple rfl fun t ht => by
    have : t = 0 ∨ t = 1 := by simp at ht; omega
    rcases this with rfl | rfl
    · simpa using h1
    · simpa using h2

theorem lookup_snd {P : Program} (cx : Cx P) {w : World} {ρ : Rl} {H : List Blk} (hH : HR w ρ H) {t : TypeId} {m k : PV} {mv kv : Value} (hm : VR w ρ m mv) (hk : VR w ρ k kv) {ok : Bool} {y : PV}
    (h : dlookup P cx.E H t m k ok = some y) : ∃ u, (Instr.lookup t mv kv ok).run P w = .ok u w ∧ VR w ρ y u := by
  unfold dlookup at h
  split at h
  · rename_i kt e hu
    split at h
    · rename_i hc
      simp only [Bool.and_eq_true] at hc
      split at h
      · rename_i z hz
        obtain ⟨zv, hzr, hzv⟩ := zero_snd (w := w) (ρ := ρ) hz
        have fin : ∀ (es : List (PV × PV)) (ents : Array MapEntry), EntsR w ρ es ents.toList → (match dfind P cx.E kt k es 0 with
          | some (some i) => some (if ok then PV.tuple [(es.getD i default).2, .bool true] else (es.getD i default).2)
          | some none => some (if ok then .tuple [z, .bool false] else z)
          | none => none) = some y →
            ∃ u, (do
              Instr.checkKey ents.isEmpty 10000 kt kv
              let (v, o) ← match ← Instr.findKey kt kv ents.toList with
                | some (_, v) => pure (v, true)
                | none => pure (← zeroValue e, false)
              pure (if ok then .tuple #[v, .bool o] else v) : Sem Value).run P w = .ok u w ∧ VR w ρ y u := by
          intro es ents hE hy
          simp only [Sem.run_bind, dchk_snd (P := P) ents.isEmpty 10000 kt k kv hk hc.2, Result.andThen_ok]
          split at hy
          · rename_i i hf
            obtain ⟨h1, h2⟩ := findKey_snd cx hk hE hf hc.1
            have hi := h2 i rfl
            simp only [Option.some.injEq] at hy; subst hy
            simp only [h1, Result.andThen_ok, Option.map_some]
            have hv := (hE.2 i hi).2
            refine ⟨_, rfl, ?_⟩
            cases ok
            · simpa using hv
            · simpa using tuple2 hv (.bool true)
          · rename_i hf
            obtain ⟨h1, h2⟩ := findKey_snd cx hk hE hf hc.1
            simp only [Option.some.injEq] at hy; subst hy
            simp only [h1, Result.andThen_ok, Option.map_none, Sem.run_bind, hzr, Sem.run_pure]
            refine ⟨_, rfl, ?_⟩
            cases ok
            · simpa using hzv
            · simpa using tuple2 hzv (.bool false)
          · cases hy
        cases m with
        | nilm =>
          cases hm
          obtain ⟨u, hu1, hu2⟩ := fin [] #[] ⟨rfl, fun i hi => by simp at hi⟩ h
          refine ⟨u, ?_, hu2⟩
          simp only [Instr.lookup, Sem.run_bind, run_underlying hu, Result.andThen_ok, Sem.run_pure]
          simp only [Sem.run_bind] at hu1
          exact hu1
        | map r =>
          simp only at h
          split at h
          · rename_i es hes
            split at hes
            · rename_i es' hr
              simp at hes; subst hes
              obtain ⟨b, ents, rfl, hw, hsz, hE, _, _, _, _⟩ := map_of hH hr hm
              obtain ⟨u, hu1, hu2⟩ := fin _ ents hE h
              refine ⟨u, ?_, hu2⟩
              simp only [Instr.lookup, Sem.run_bind, run_underlying hu, Result.andThen_ok, run_getObj_map w b ents _ hw, Sem.run_pure]
              simp only [Sem.run_bind] at hu1
              exact hu1
            · cases hes
          · cases h
        | _ => simp at h
      · cases h
    · cases h
  · cases h

end Go.MW
