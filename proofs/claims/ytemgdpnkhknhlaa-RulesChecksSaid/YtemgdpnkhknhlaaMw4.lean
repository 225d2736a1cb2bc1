/-
  OUR OWN: more operations that only look: cutting, building, looking up in a map; all of them together: 'dread'.
-/
import Derived.Test.YtemgdpnkhknhlaaMw3
namespace Go.MW

/-- Lists of values. -/
def AV (w : World) (ρ : Rl) (cs : List PV) (vs : Array Value) : Prop :=
  vs.size = cs.length ∧ ∀ t, t < cs.length → VR w ρ (cs.getD t .undef) (vs.getD t Go.undef)

theorem AV.map {w : World} {ρ : Rl} {xs : Array Operand} {f : Operand → PV} {g : Operand → Value} (h : ∀ x, VR w ρ (f x) (g x)) : AV w ρ (xs.toList.map f) (xs.map g) := by
  refine ⟨by simp, fun t ht => ?_⟩
  have ht' : t < xs.size := by simpa using ht
  simp [List.getD, ht', h]

theorem AV.mono {w w' : World} {ρ ρ' : Rl} {cs : List PV} {vs : Array Value} (hle : Le w ρ w' ρ') (h : AV w ρ cs vs) : AV w' ρ' cs vs :=
  ⟨h.1, fun t ht => (h.2 t ht).mono hle⟩

def cellsPV : PV → Option (List PV)
  | .agg cs => some cs
  | .undef => none
  | .tuple _ => none
  | v => some [v]

theorem cellsPV_snd {w : World} {ρ : Rl} {x : PV} {v : Value} (h : VR w ρ x v) {cs : List PV} (hc : cellsPV x = some cs) : AV w ρ cs v.cells := by
  have one : ∀ (x : PV) (v : Value), VR w ρ x v → AV w ρ [x] #[v] := fun x v h => ⟨rfl, fun t ht => by
    have : t = 0 := by simpa using ht
    subst this; simpa using h⟩
  cases h with
  | undef => simp [cellsPV] at hc
  | tuple => simp [cellsPV] at hc
  | agg hl hv => simp [cellsPV] at hc; subst hc; exact ⟨hl, hv⟩
  | int k n => simp [cellsPV] at hc; subst hc; exact one _ _ (.int k n)
  | bool b => simp [cellsPV] at hc; subst hc; exact one _ _ (.bool b)
  | str s => simp [cellsPV] at hc; subst hc; exact one _ _ (.str s)
  | nilp => simp [cellsPV] at hc; subst hc; exact one _ _ .nilp
  | ptr off h => simp [cellsPV] at hc; subst hc; exact one _ _ (.ptr off h)
  | rptr vs hS hc' hv => simp [cellsPV] at hc; subst hc; exact one _ _ (.rptr vs hS hc' hv)
  | nils => simp [cellsPV] at hc; subst hc; exact one _ _ .nils
  | lst0 t => simp [cellsPV] at hc; subst hc; exact one _ _ (.lst0 t)
  | lst vs h1 h2 h3 h4 h5 h6 => simp [cellsPV] at hc; subst hc; exact one _ _ (.lst vs h1 h2 h3 h4 h5 h6)
  | row off len sz h h1 h2 h3 => simp [cellsPV] at hc; subst hc; exact one _ _ (.row off len sz h h1 h2 h3)
  | nilm => simp [cellsPV] at hc; subst hc; exact one _ _ .nilm
  | map h => simp [cellsPV] at hc; subst hc; exact one _ _ (.map h)
  | iter h => simp [cellsPV] at hc; subst hc; exact one _ _ (.iter h)
  | nilf => simp [cellsPV] at hc; subst hc; exact one _ _ .nilf
  | func fn hl hv => simp [cellsPV] at hc; subst hc; exact one _ _ (.func fn hl hv)
  | nili => simp [cellsPV] at hc; subst hc; exact one _ _ .nili
  | iface t h => simp [cellsPV] at hc; subst hc; exact one _ _ (.iface t h)

/-- No cell of what is put down is an aggregate. -/
def oneCell : PV → Bool
  | .agg _ | .tuple _ | .undef => false
  | _ => true

theorem oneCell_snd {w : World} {ρ : Rl} {x : PV} {v : Value} (h : VR w ρ x v) (hc : oneCell x = true) : v.oneCell' = true := by
  cases h <;> first | (simp [oneCell] at hc; done) | rfl

/-! ### zero values -/

def zeroPV (P : Program) (t : TypeId) : Option PV := ((P.info? t).bind (·.zero)).map ofV

theorem zero_snd {P : Program} {w : World} {ρ : Rl} {t : TypeId} {z : PV} (h : zeroPV P t = some z) : ∃ v, (zeroValue t).run P w = .ok v w ∧ VR w ρ z v := by
  unfold zeroPV at h
  cases hi : P.info? t with
  | none => simp [hi] at h
  | some i =>
    cases hz : i.zero with
    | none => simp [hi, hz] at h
    | some v =>
      simp [hi, hz] at h; subst h
      exact ⟨v, by simp [zeroValue, typeInfo, hi, hz], ofV_VR _ _ _⟩

/-! ### aggregates that are built -/

def setRange (cs : List PV) (off : Nat) (new : List PV) : List PV := cs.take off ++ new ++ cs.drop (off + new.length)

theorem length_setRange (cs : List PV) (off : Nat) (new : List PV) (h : off + new.length ≤ cs.length) : (setRange cs off new).length = cs.length := by
  simp [setRange]; omega

theorem getD_setRange (cs : List PV) (off : Nat) (new : List PV) (h : off + new.length ≤ cs.length) (t : Nat) :
    (setRange cs off new).getD t .undef = if off ≤ t ∧ t < off + new.length then new.getD (t - off) .undef else cs.getD t .undef := by
  unfold setRange
  simp only [List.getD]
  by_cases h1 : t < off
  · rw [if_neg (by omega), List.append_assoc, List.getElem?_append_left (by simp; omega)]
    simp [h1]
  · by_cases h2 : t < off + new.length
    · rw [if_pos ⟨by omega, h2⟩, List.append_assoc, List.getElem?_append_right (by simp; omega)]
      have : (List.take off cs).length = off := by simp; omega
      rw [this, List.getElem?_append_left (by omega)]
    · rw [if_neg (by omega), List.getElem?_append_right (by simp; omega)]
      have : (List.take off cs ++ new).length = off + new.length := by simp; omega
      rw [this, List.getElem?_drop]
      congr 2; omega

def setFrom (off : Nat) (vs : Array Value) : List Value → Nat → Array Value
  | [], _ => vs
  | v :: r, j => setFrom off (vs.setIfInBounds (off + j) v) r (j + 1)

theorem setFrom_eq (off : Nat) (new : List Value) : ∀ (j : Nat) (vs : Array Value), (new.zipIdx j).foldl (fun cs (c, j) => cs.setIfInBounds (off + j) c) vs = setFrom off vs new j := by
  induction new with
  | nil => intro j vs; rfl
  | cons v r ih => intro j vs; simp only [List.zipIdx_cons, List.foldl_cons]; rw [ih]; rfl

theorem size_setFrom (off : Nat) (new : List Value) : ∀ (j : Nat) (vs : Array Value), (setFrom off vs new j).size = vs.size := by
  induction new with
  | nil => intro j vs; rfl
  | cons v r ih => intro j vs; unfold setFrom; rw [ih]; simp

theorem getD_setFrom (off : Nat) (new : List Value) : ∀ (j : Nat) (vs : Array Value) (t : Nat), off + j + new.length ≤ vs.size →
    (setFrom off vs new j).getD t Go.undef = if off + j ≤ t ∧ t < off + j + new.length then new.getD (t - (off + j)) Go.undef else vs.getD t Go.undef := by
  induction new with
  | nil => intro j vs t _; unfold setFrom; rw [if_neg (by simp)]
  | cons v r ih =>
    intro j vs t h
    simp only [List.length_cons] at h
    unfold setFrom
    rw [ih (j + 1) _ t (by simp; omega)]
    by_cases h1 : t = off + j
    · subst h1
      rw [if_neg (by omega), if_pos (by simp)]
      have : off + j < vs.size := by omega
      simp [this]
    · by_cases h2 : off + (j + 1) ≤ t ∧ t < off + (j + 1) + r.length
      · rw [if_pos h2, if_pos (by simp only [List.length_cons]; omega)]
        have e : t - (off + j) = (t - (off + (j + 1))) + 1 := by omega
        rw [e]; simp
      · rw [if_neg h2, if_neg (by simp only [List.length_cons]; omega)]
        have hne : off + j ≠ t := fun e => h1 e.symm
        simp [Array.getElem?_setIfInBounds_ne hne]

theorem AV.setRange {w : World} {ρ : Rl} {cs new : List PV} {vs nv : Array Value} (h : AV w ρ cs vs) (hn : AV w ρ new nv) {off : Nat} (hle : off + new.length ≤ cs.length) :
    AV w ρ (setRange cs off new) (setFrom off vs nv.toList 0) := by
  refine ⟨by rw [size_setFrom, length_setRange _ _ _ hle]; exact h.1, fun t ht => ?_⟩
  rw [length_setRange _ _ _ hle] at ht
  have hs := h.1
  have hs' := hn.1
  rw [getD_setRange _ _ _ hle, getD_setFrom _ _ _ _ _ (by simp; omega)]
  have e : nv.toList.length = new.length := by simp [hs']
  rw [e]
  simp only [Nat.add_zero]
  split
  · rename_i hc
    have := hn.2 (t - off) (by omega)
    have e2 : nv.toList.getD (t - off) Go.undef = nv.getD (t - off) Go.undef := by simp
    rw [e2]; exact this
  · exact h.2 t ht

def dfill (place : Nat → Option (Nat × Nat)) : List PV → List (Nat × PV) → Option (List PV)
  | cells, [] => some cells
  | cells, (i, v) :: rest =>
    match place i, cellsPV v with
    | some (off, size), some cs => if cs.length = size ∧ off + cs.length ≤ cells.length then dfill place (setRange cells off cs) rest else none
    | _, _ => none

theorem dfill_snd {w : World} {ρ : Rl} (place : Nat → Option (Nat × Nat)) : ∀ (ps : List (Nat × PV)) (qs : List (Nat × Value)), qs.length = ps.length →
    (∀ j, j < ps.length → (qs.getD j (0, Go.undef)).1 = (ps.getD j (0, .undef)).1 ∧ VR w ρ (ps.getD j (0, .undef)).2 (qs.getD j (0, Go.undef)).2) →
    ∀ (cs : List PV) (vs : Array Value) (r : List PV), AV w ρ cs vs → dfill place cs ps = some r → ∃ u, Instr.fill place vs qs = some u ∧ AV w ρ r u
  | [], [], _, _, cs, vs, r, h, hf => by simp [dfill] at hf; subst hf; exact ⟨vs, rfl, h⟩
  | [], _ :: _, hl, _, _, _, _, _, _ => by simp at hl
  | _ :: _, [], hl, _, _, _, _, _, _ => by simp at hl
  | (i, x) :: ps, (j, v) :: qs, hl, hpq, cs, vs, r, h, hf => by
    have h0 := hpq 0 (by simp)
    simp at h0
    obtain ⟨rfl, hxv⟩ := h0
    simp only [dfill] at hf
    split at hf
    · rename_i off size new hp hc
      split at hf
      · rename_i hcond
        obtain ⟨hsz, hle⟩ := hcond
        have hn := cellsPV_snd hxv hc
        have hA := h.setRange hn hle
        obtain ⟨u, hu, hA'⟩ := dfill_snd place ps qs (by simpa using hl) (fun k hk => by simpa using hpq (k + 1) (by simpa using hk)) _ _ r hA hf
        refine ⟨u, ?_, hA'⟩
        unfold Instr.fill
        simp only [hp]
        have e1 : v.cells.size = size := by rw [hn.1, hsz]
        have e2 : off + v.cells.size ≤ vs.size := by rw [hn.1, h.1]; exact hle
        rw [if_neg (by simp [e1]; omega)]
        rw [← Array.foldl_toList, Array.toList_zipIdx, setFrom_eq]
        exact hu
      · cases hf
    · cases hf

def placesOf (P : Program) : List Field → Option (List (Nat × Nat))
  | [] => some []
  | f :: fs => match szT P f.type, placesOf P fs with
    | some n, some r => some ((f.offset, n) :: r)
    | _, _ => none

theorem placesOf_snd {P : Program} {w : World} : ∀ (fs : List Field) (r : List (Nat × Nat)), placesOf P fs = some r →
    (fs.mapM (m := Sem) fun f => do pure (f.offset, ← sizeOf f.type)).run P w = .ok r w
  | [], r, h => by simp [placesOf] at h; subst h; rfl
  | f :: fs, r, h => by
    simp only [placesOf] at h
    split at h
    · rename_i n rs hn hr
      simp at h; subst h
      have ih := placesOf_snd (P := P) (w := w) fs rs hr
      simp only [List.mapM_cons, Sem.run_bind, run_sizeOf' hn, Result.andThen_ok, Sem.run_pure]
      rw [ih]
      rfl
    · cases h

def dbuild (P : Program) (t : TypeId) (parts : List (Nat × PV)) : Option PV :=
  match zeroPV P t with
  | some (.agg zs) => match P.underlying t with
    | some (.struct fs) => match placesOf P fs.toList with
      | some pl => (dfill (pl[·]?) zs parts).map .agg
      | none => none
    | some (.array _ e) => match szT P e with
      | some n => (dfill (fun i => some (i * n, n)) zs parts).map .agg
      | none => none
    | _ => none
  | _ => none

theorem parts_rel {w : World} {ρ : Rl} {ps : Array (Nat × Operand)} {f : Operand → PV} {g : Operand → Value} (h : ∀ x, VR w ρ (f x) (g x)) :
    (ps.map fun (i, x) => (i, g x)).toList.length = (ps.toList.map fun (i, x) => (i, f x)).length ∧
    ∀ j, j < (ps.toList.map fun (i, x) => (i, f x)).length → ((ps.map fun (i, x) => (i, g x)).toList.getD j (0, Go.undef)).1 = ((ps.toList.map fun (i, x) => (i, f x)).getD j (0, .undef)).1 ∧
      VR w ρ ((ps.toList.map fun (i, x) => (i, f x)).getD j (0, .undef)).2 ((ps.map fun (i, x) => (i, g x)).toList.getD j (0, Go.undef)).2 := by
  refine ⟨by simp, fun j hj => ?_⟩
  have hj' : j < ps.size := by simpa using hj
  simp [List.getD, hj', h]

theorem build_snd {P : Program} {w : World} {ρ : Rl} {t : TypeId} {ps : Array (Nat × Operand)} {f : Operand → PV} {g : Operand → Value} (h : ∀ x, VR w ρ (f x) (g x)) {z : PV}
    (hb : dbuild P t (ps.toList.map fun (i, x) => (i, f x)) = some z) : ∃ u, (Instr.build t (ps.map fun (i, x) => (i, g x))).run P w = .ok u w ∧ VR w ρ z u := by
  obtain ⟨hl, hr⟩ := parts_rel (ps := ps) h
  unfold dbuild at hb
  split at hb
  · rename_i zs hz
    obtain ⟨zv, hzr, hzv⟩ := zero_snd (w := w) (ρ := ρ) hz
    obtain ⟨zs', rfl, hzA⟩ := agg_inv hzv
    split at hb
    · rename_i fs hu
      split at hb
      · rename_i pl hp
        cases hd : dfill (pl[·]?) zs (ps.toList.map fun (i, x) => (i, f x)) with
        | none => simp [hd] at hb
        | some r =>
          simp [hd] at hb; subst hb
          obtain ⟨u, hu1, hu2⟩ := dfill_snd _ _ _ hl hr _ _ _ hzA hd
          refine ⟨.agg u, ?_, .agg hu2.1 hu2.2⟩
          have hpl := placesOf_snd (w := w) _ _ hp
          simp only [Instr.build, Sem.run_bind, hzr, Result.andThen_ok, run_underlying hu, Value.cells]
          rw [Array.mapM_eq_mapM_toList]
          simp only [Sem.run_map, hpl, Result.andThen_ok]
          have e : (fun (x : Nat) => pl.toArray[x]?) = (fun (x : Nat) => pl[x]?) := by funext x; simp
          rw [e, hu1]
          rfl
      · cases hb
    · rename_i n e hu
      split at hb
      · rename_i sz hsz
        cases hd : dfill (fun i => some (i * sz, sz)) zs (ps.toList.map fun (i, x) => (i, f x)) with
        | none => simp [hd] at hb
        | some r =>
          simp [hd] at hb; subst hb
          obtain ⟨u, hu1, hu2⟩ := dfill_snd _ _ _ hl hr _ _ _ hzA hd
          refine ⟨.agg u, ?_, .agg hu2.1 hu2.2⟩
          simp only [Instr.build, Sem.run_bind, hzr, Result.andThen_ok, run_underlying hu, Value.cells, run_sizeOf' hsz]
          rw [hu1]
          rfl
      · cases hb
    · cases hb
  · cases hb

end Go.MW
