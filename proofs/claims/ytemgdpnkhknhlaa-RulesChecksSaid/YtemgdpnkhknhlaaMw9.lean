/-
  OUR OWN: the operations that make a block, sound.
-/
import Derived.Test.YtemgdpnkhknhlaaMw8
import Derived.Laws.MakeOwn
namespace Go.MW

theorem ext_self (ρ : Rl) (n : Nat) (p : Nat × Nat) : (ρ.ext n p).β n = some p := by simp [Rl.ext]

/-- What making a block comes to. -/
def NewS (P : Program) (s : Sem Next) (w : World) (ρ : Rl) (H : List Blk) (blk : Blk) (y : PV) : Prop :=
  ∃ obj u, s.run P w = .ok (.value u) (w.alloc obj) ∧ BR (w.alloc obj) (ρ.ext H.length (w.heap.size, 0)) w.heap.size 0 blk ∧ VR (w.alloc obj) (ρ.ext H.length (w.heap.size, 0)) y u

theorem NewS.op {P : Program} {s : Sem Next} {w : World} {ρ : Rl} {H : List Blk} (hH : HR w ρ H) {blk : Blk} {y : PV} (h : NewS P s w ρ H blk y) : OpS P s w ρ H y (H ++ [blk]) := by
  obtain ⟨obj, u, h1, h2, h3⟩ := h
  obtain ⟨h4, h5⟩ := new_step hH (w' := w.alloc obj) rfl rfl rfl rfl h2
  exact ⟨w.alloc obj, _, _, u, h1, .inl rfl, h3, h4, h5⟩

theorem new_var {P : Program} {w : World} {ρ : Rl} {H : List Blk} (hH : HR w ρ H) {x : PV} {v : Value} (hx : VR w ρ x v) {cs : List PV} (hc : cellsPV x = some cs) (t : TypeId) {tg : Option (TypeId × Bool)} (htg : tg = none ∨ tg = some (t, true)) {s : Sem Next}
    (hs : s.run P w = .ok (.value (.pointer (some ⟨w.heap.size, 0, none⟩))) (w.alloc (.cells v.cells t))) : NewS P s w ρ H (.cells cs tg) (.ptr H.length 0) := by
  have hA := cellsPV_snd hx hc
  exact ⟨_, _, hs, (new_cells hH hA v.cells (fun _ _ => rfl) (Nat.le_refl _) t (by rcases htg with rfl | rfl; exact trivial; exact ⟨rfl, rfl, fun _ => rfl⟩)).1, .ptr 0 (ext_self _ _ _)⟩

theorem dnew_snd {P : Program} {w : World} {ρ : Rl} {H : List Blk} (hH : HR w ρ H) {f : Operand → PV} {g : Operand → Value} (hf : ∀ x, VR w ρ (f x) (g x)) {o : Oper} {blk : Blk} {nv : NewV}
    (h : dnew P H f o.op = some (blk, nv)) : NewS P (execOp g o) w ρ H blk (nv.at H.length) := by
  obtain ⟨dst, op, type, pos, after, guard⟩ := o
  simp only [dnew] at h
  split at h
  · rename_i t
    split at h
    · rename_i z hz
      obtain ⟨zv, hzr, hzv⟩ := zero_snd (w := w) (ρ := ρ) hz
      cases hc : cellsPV z with
      | none => simp [hc] at h
      | some cs =>
        simp [hc] at h
        obtain ⟨rfl, rfl⟩ := h
        exact new_var hH hzv hc t (.inr rfl) (by simp only [execOp, Instr.alloc, Sem.run_bind, hzr, Result.andThen_ok, newVar, newRow, run_newObj, Sem.run_pure]; rfl)
    · cases h
  · rename_i t x
    cases hc : cellsPV (f x) with
    | none => simp [hc] at h
    | some cs =>
      simp [hc] at h
      obtain ⟨rfl, rfl⟩ := h
      exact new_var hH (hf x) hc t (.inl rfl) (by simp only [execOp, Instr.box, Sem.run_bind, newVar, newRow, run_newObj, Result.andThen_ok, Sem.run_pure]; rfl)
  · rename_i t len parts
    split at h
    · rename_i e hu
      split at h
      · rename_i sz z hsz hz
        split at h
        · rename_i zs hzs
          split at h
          · rename_i hcond
            obtain ⟨hle, hzl⟩ := hcond
            obtain ⟨zv, hzr, hzv⟩ := zero_snd (w := w) (ρ := ρ) hz
            have hzA := cellsPV_snd hzv hzs
            cases hd : dfill (fun i => some (i * sz, sz)) (repCells zs (len * sz)) (parts.toList.map fun (i, x) => (i, f x)) with
            | none => simp [hd] at h
            | some cs =>
              simp [hd] at h
              obtain ⟨rfl, rfl⟩ := h
              obtain ⟨hl, hr⟩ := parts_rel (ps := parts) hf
              have hbase := repCells_AV hzA (len * sz) (by
                rcases Nat.eq_zero_or_pos sz with h0 | h0
                · left; rw [h0, Nat.mul_zero]
                · right; omega)
              obtain ⟨u, hu1, hu2⟩ := dfill_snd _ _ _ hl hr _ _ _ hbase hd
              have hlen : cs.length = len * sz := by
                have h1 : ∀ (pl : Nat → Option (Nat × Nat)) (ps : List (Nat × PV)) (a b : List PV), dfill pl a ps = some b → b.length = a.length := by
                  intro pl ps
                  induction ps with
                  | nil => intro a b hab; simp [dfill] at hab; subst hab; rfl
                  | cons p ps ih =>
                    intro a b hab
                    obtain ⟨i, x⟩ := p
                    simp only [dfill] at hab
                    split at hab
                    · split at hab
                      · rename_i hc; rw [ih _ _ hab, length_setRange _ _ _ hc.2]
                      · cases hab
                    · cases hab
                rw [h1 _ _ _ _ hd]; simp [repCells]
              refine ⟨.cells u e, .slice (some ⟨w.heap.size, 0, none⟩) len len, ?_, (new_cells hH hu2 u (fun _ _ => rfl) (Nat.le_refl _) e (tg := none) trivial).1, ?_⟩
              · simp only [execOp, Instr.buildSlice, Sem.run_bind, run_underlying hu, Result.andThen_ok, run_sizeOf' hsz]
                rw [if_neg (by omega)]
                have hfill : Instr.fill (fun i => some (i * sz, sz)) ((Array.range (len * sz)).map ((if len * sz = 0 then #[] else zv.cells)[· % (if len * sz = 0 then #[] else zv.cells).size]!)) (parts.map fun (i, x) => (i, g x)).toList = some u := by
                  rw [← hu1]
                  congr 1
                  by_cases h0 : len * sz = 0
                  · apply Array.ext
                    · simp
                    · intro i h1 h2
                      simp only [Array.size_map, Array.size_range] at h1
                      omega
                  · rw [if_neg h0]
                by_cases h0 : len * sz = 0
                · rw [if_pos h0] at hfill
                  simp only [if_pos h0, Sem.run_bind, Sem.run_pure, Result.andThen_ok]
                  have e1 : (parts.map fun (i, x) => (i, g x)) = (parts.map fun x => (x.fst, g x.snd)) := rfl
                  rw [e1] at hfill
                  simp only [hfill, newRow, Sem.run_bind, run_newObj, Result.andThen_ok, Sem.run_pure]
                  rfl
                · rw [if_neg h0] at hfill
                  simp only [if_neg h0, Sem.run_bind, hzr, Sem.run_pure, Result.andThen_ok]
                  have e1 : (parts.map fun (i, x) => (i, g x)) = (parts.map fun x => (x.fst, g x.snd)) := rfl
                  rw [e1] at hfill
                  simp only [hfill, newRow, Sem.run_bind, run_newObj, Result.andThen_ok, Sem.run_pure]
                  rfl
              · refine .row (sh := 0) 0 len sz (ext_self _ _ _) (Nat.le_refl _) (fun _ => rfl) ⟨u, e, (0, 0), heap_alloc_new w _, ?_⟩
                rw [hu2.1, hlen]; omega
          · cases h
        · cases h
      · cases h
    · cases h
  · rename_i t r
    have fin : ∀ (s : Sem Next), s.run P w = .ok (.value (.map (some w.heap.size))) (w.alloc (.map #[] 0)) → NewS P s w ρ H (.map []) (NewV.map.at H.length) := by
      intro s hs
      refine ⟨_, _, hs, ⟨fun hS => by have := hH.S _ hS; omega, rfl, #[], heap_alloc_new w _, rfl, fun i hi => by simp at hi⟩, .map (ext_self _ _ _)⟩
    split at h
    · simp at h; obtain ⟨rfl, rfl⟩ := h
      exact fin _ (by simp only [execOp, Instr.makeMap, Option.map_none, Sem.run_bind, run_newObj, Result.andThen_ok, Sem.run_pure]; rfl)
    · rename_i x
      have hx := hf x
      split at h
      · rename_i k e q n hu hfx
        simp at h; obtain ⟨rfl, rfl⟩ := h
        rw [hfx] at hx
        generalize hg : g x = gx at hx
        cases hx
        exact fin _ (by simp only [execOp, Instr.makeMap, Option.map_some, hg, Sem.run_bind, run_underlying hu, Result.andThen_ok, asInt, asIntOf, run_newObj, Sem.run_pure]; rfl)
      · cases h
  · rename_i t l c
    split at h
    · rename_i e hu
      split at h
      · rename_i sz z i kl n kc m hsz hz hi hl hc
        split at h
        · rename_i zs hzs
          split at h
          · rename_i hcond
            obtain ⟨hzl, h0, hnm, hmx, hby⟩ := hcond
            simp at h; obtain ⟨rfl, rfl⟩ := h
            obtain ⟨zv, hzr, hzv⟩ := zero_snd (w := w) (ρ := ρ) hz
            have hiz : i.zero = some zv := by
              unfold zeroPV at hz
              simp only [zeroValue, typeInfo, Sem.run_bind, run_program, Result.andThen_ok, hi, Sem.run_pure] at hzr
              cases hzz : i.zero with
              | none => simp [hzz] at hzr
              | some q => simp [hzz] at hzr; rw [hzr]
            have his : i.size = sz := by unfold szT at hsz; simp [hi] at hsz; exact hsz
            have h1 := hf l
            have h2 := hf c
            rw [hl] at h1; rw [hc] at h2
            generalize hgl : g l = gl at h1
            generalize hgc : g c = gc at h2
            cases h1; cases h2
            have hrun := run_make (P := P) w t e i zv hu hi hiz kl kc n m h0 hnm hby (by omega)
            have hzA := cellsPV_snd hzv hzs
            have hpos : m.toNat * sz = 0 ∨ 0 < zs.length := by
              rcases Nat.eq_zero_or_pos sz with h0 | h0
              · left; rw [h0, Nat.mul_zero]
              · right; omega
            have hmade : madeCells zv.cells (m.toNat * i.size) = (Array.range (m.toNat * sz)).map (fun x => zv.cells[x % zv.cells.size]!) := by
              rw [his]
              rfl
            have hsub : n.toNat * sz ≤ m.toNat * sz := Nat.mul_le_mul_right _ (by omega)
            have hA := repCells_AV hzA (n.toNat * sz) (hpos.imp (fun h => by omega) id)
            refine ⟨_, _, by simp only [execOp, hgl, hgc, Sem.run_bind, hrun, Result.andThen_ok, Sem.run_pure]; rfl, (new_cells hH hA _ (fun t ht => ?_) ?_ e (tg := none) trivial).1, ?_⟩
            · rw [hmade]
              simp at ht
              simp [ht, show t < m.toNat * sz by omega]
            · rw [hmade]; simp; exact hsub
            · refine .row (sh := 0) 0 n.toNat sz (ext_self _ _ _) (by omega) (fun ht => by simp at ht; omega) ⟨_, e, (0, 0), heap_alloc_new w _, ?_⟩
              rw [hmade]; simp
          · cases h
        · cases h
      · cases h
    · cases h
  · rename_i t x
    have hx := hf x
    split at h
    · rename_i k e hu hfx
      rw [hfx] at hx
      generalize hg : g x = gx at hx
      cases hx
      simp at h; obtain ⟨rfl, rfl⟩ := h
      refine ⟨.mapIter none 0 #[] 0, .pointer (some ⟨w.heap.size, 0, none⟩), ?_, ⟨fun hS => by have := hH.S _ hS; omega, rfl, heap_alloc_new w _, fun r hr => by cases hr⟩, .iter (ext_self _ _ _)⟩
      simp only [execOp, hg, Instr.range, Sem.run_bind, run_underlying hu, Result.andThen_ok, Sem.run_pure, run_newObj]
      rfl
    · rename_i k e r hu hfx
      split at h
      · rename_i es hes
        simp at h; obtain ⟨rfl, rfl⟩ := h
        rw [hfx] at hx
        obtain ⟨b, ents, hgx, hw, hsz, hE, _, _, hβ, hr⟩ := map_of hH hes hx
        refine ⟨.mapIter (some b) es.length #[] es.length, .pointer (some ⟨w.heap.size, 0, none⟩), ?_, ⟨fun hS => by have := hH.S _ hS; omega, rfl, ?_, fun r' hr' => ?_⟩, .iter (ext_self _ _ _)⟩
        · simp only [execOp, hgx, Instr.range, Sem.run_bind, run_underlying hu, Result.andThen_ok, run_getObj_map w b ents _ hw, Sem.run_pure, run_newObj]
          rfl
        · have : (ρ.ext H.length (w.heap.size, 0)).β r = some (b, 0) := ext_le (hH.none _ (Nat.le_refl _)) _ _ hβ
          rw [show ((some r).bind fun r => ((ρ.ext H.length (w.heap.size, 0)).β r).map (·.1)) = some b by simp [this]]
          exact heap_alloc_new w _
        · cases hr'
          exact ⟨_, ext_le (hH.none _ (Nat.le_refl _)) _ _ hβ⟩
      · cases h
    · cases h
  · cases h

end Go.MW
