/-
  OUR OWN: copy, clear, the entry of a step, a string's bytes; all operations without a call, together: 'deff'.
-/
import Derived.Test.YtemgdpnkhknhlaaMw12
namespace Go.MW

def dcopy (P : Program) (H : List Blk) (dT : TypeId) (x y : PV) : Option (PV × List Blk) :=
  match P.underlying dT with
  | some (.slice e) => match szT P e with
    | some sz => match dsrc H sz y with
      | some (sn, new) => match x with
        | .nils => some (.int .i64 0, H)
        | .row r off dlen sz' _ => match H.getD r .dead with
          | .cells cs tg => if sz' = sz ∧ off + dlen * sz ≤ cs.length ∧ (new.take (min sn dlen * sz)).all oneCell = true then
              some (.int .i64 (min sn dlen : Nat), H.set r (.cells (setRange cs off (new.take (min sn dlen * sz))) tg))
            else none
          | _ => none
        | _ => none
      | none => none
    | none => none
  | _ => none

theorem copy_snd {P : Program} {w : World} {ρ : Rl} {H : List Blk} (hH : HR w ρ H) {dT sT ty : TypeId} {x y z : PV} {u v : Value} {H' : List Blk} (hx : VR w ρ x u) (hy : VR w ρ y v)
    (h : dcopy P H dT x y = some (z, H')) : ∃ w' r, (Builtin.copy_ #[dT, sT] ty #[u, v]).run P w = .ok r w' ∧ VR w' ρ z r ∧ HR w' ρ H' ∧ Step w ρ H w' ρ H' := by
  unfold dcopy at h
  split at h
  · rename_i e hu
    split at h
    · rename_i sz hsz
      split at h
      · rename_i sn new hsrc
        obtain ⟨hlen, hnl, _, htake⟩ := src_snd (P := P) hH hy hsrc
        have e1 : (#[dT, sT] : Array TypeId)[0]? = some dT := rfl
        have e3 : (#[u, v] : Array Value)[0]? = some u := rfl
        have e4 : (#[u, v] : Array Value)[1]? = some v := rfl
        split at h
        · simp only [Option.some.injEq, Prod.mk.injEq] at h; obtain ⟨rfl, rfl⟩ := h
          cases hx
          obtain ⟨vs, h1, h2⟩ := htake 0 (Nat.zero_le _)
          refine ⟨w, .int .i64 0, ?_, .int _ _, hH, Step.refl _ _ _⟩
          simp only [Builtin.copy_, e1, e3, e4, Sem.run_bind, run_underlying hu, Result.andThen_ok, hlen, run_sizeOf' hsz, Nat.min_zero]
          rw [h1]
          rfl
        · rename_i r off dlen sz' tight
          split at h
          · rename_i cs tg hcs
            split at h
            · rename_i hc
              obtain ⟨rfl, hfit, hone⟩ := hc
              simp only [Option.some.injEq, Prod.mk.injEq] at h; obtain ⟨rfl, rfl⟩ := h
              cases hx with
              | @row _ b sh _ _ _ _ cap hβ hcap ht hroom =>
                obtain ⟨vs, h1, h2⟩ := htake (min sn dlen) (Nat.min_le_left _ _)
                obtain ⟨hr, c, e0, hcb, hsc, hS, hvs, htg⟩ := row_of hH hcs hβ
                have hle : min sn dlen * sz' ≤ dlen * sz' := Nat.mul_le_mul_right _ (Nat.min_le_right _ _)
                have hln : (new.take (min sn dlen * sz')).length ≤ min sn dlen * sz' := by simp; omega
                obtain ⟨h3, h4⟩ := cells_put (off := off) hH hcs hβ hcb h2 (by omega)
                refine ⟨_, .int .i64 (min sn dlen : Nat), ?_, .int _ _, h3, h4⟩
                have hvl : vs.toList.length = (new.take (min sn dlen * sz')).length := by simpa using h2.1
                have hst := run_storeCells_at (P := P) b (sh + off) e0 vs.toList 0 c w hcb (by omega) (oneCell_all h2 hone)
                simp only [Nat.add_zero] at hst
                simp only [Builtin.copy_, e1, e3, e4, Sem.run_bind, run_underlying hu, Result.andThen_ok, hlen, run_sizeOf' hsz]
                have : sn.min dlen = min sn dlen := rfl
                rw [this, h1]
                simp only [Result.andThen_ok, hst]
                rfl
            · cases h
          · cases h
        · cases h
      · cases h
    · cases h
  · cases h

def dclear (P : Program) (H : List Blk) (t : TypeId) (x : PV) : Option (List Blk) :=
  match P.underlying t with
  | some (.slice e) => match szT P e, zeroPV P e with
    | some sz, some z => match cellsPV z with
      | some zs => match x with
        | .nils => some H
        | .lst [] _ => some H
        | .row r off n sz' _ => match H.getD r .dead with
          | .cells cs tg => if sz' = sz ∧ zs.length = sz ∧ off + n * sz ≤ cs.length ∧ zs.all oneCell = true ∧ 0 < sz then some (H.set r (.cells (setRange cs off (repCells zs (n * sz))) tg)) else none
          | _ => none
        | _ => none
      | none => none
    | _, _ => none
  | _ => none

theorem clear_snd {P : Program} {w : World} {ρ : Rl} {H : List Blk} (hH : HR w ρ H) {t ty : TypeId} {x : PV} {u : Value} {H' : List Blk} (hx : VR w ρ x u)
    (h : dclear P H t x = some H') : ∃ w' r, (Builtin.clear_ #[t] ty #[u]).run P w = .ok r w' ∧ HR w' ρ H' ∧ Step w ρ H w' ρ H' := by
  unfold dclear at h
  have e1 : (#[t] : Array TypeId)[0]? = some t := rfl
  have e3 : (#[u] : Array Value)[0]? = some u := rfl
  split at h
  · rename_i e hu
    split at h
    · rename_i sz z hsz hz
      split at h
      · rename_i zs hzs
        split at h
        · simp at h; subst h
          cases hx
          exact ⟨w, .tuple #[], by simp [Builtin.clear_, run_underlying hu], hH, Step.refl _ _ _⟩
        · simp at h; subst h
          cases hx with
          | lst0 => exact ⟨w, .tuple #[], by simp [Builtin.clear_, run_underlying hu], hH, Step.refl _ _ _⟩
          | lst vs h1 h2 h3 h4 h5 h6 => exact ⟨w, .tuple #[], by simp [Builtin.clear_, run_underlying hu], hH, Step.refl _ _ _⟩
        · rename_i r off n sz' tight
          split at h
          · rename_i cs tg hcs
            split at h
            · rename_i hc
              obtain ⟨rfl, hzl, hfit, hone, hpos⟩ := hc
              simp at h; subst h
              cases hx with
              | @row _ b sh _ _ _ _ cap hβ hcap ht hroom =>
                obtain ⟨zv, hzr, hzv⟩ := zero_snd (w := w) (ρ := ρ) hz
                have hzA := cellsPV_snd hzv hzs
                have hA := repCells_AV hzA (n * sz') (.inr (by omega))
                obtain ⟨hr, c, e0, hcb, hsc, hS, hvs, htg⟩ := row_of hH hcs hβ
                have hrl : (repCells zs (n * sz')).length = n * sz' := by simp [repCells]
                obtain ⟨h3, h4⟩ := cells_put (off := off) hH hcs hβ hcb hA (by omega)
                by_cases hn : n = 0
                · subst hn
                  have e0' : setRange cs off (repCells zs (0 * sz')) = cs := by simp [setRange, repCells]
                  have e1' : H.set r (.cells cs tg) = H := by
                    apply List.ext_getElem?
                    intro i
                    by_cases hi : i = r
                    · subst hi
                      rw [List.getElem?_set_self hr]
                      simp [List.getD, hr] at hcs
                      simp [hr, hcs]
                    · rw [List.getElem?_set_ne (Ne.symm hi)]
                  rw [e0', e1']
                  exact ⟨w, .tuple #[], by simp [Builtin.clear_, run_underlying hu], hH, Step.refl _ _ _⟩
                · have hone' : (repCells zs (n * sz')).all oneCell = true := by
                    rw [List.all_eq_true]
                    intro q hq
                    simp only [repCells, List.mem_map, List.mem_range] at hq
                    obtain ⟨i, hi, rfl⟩ := hq
                    have hm : i % zs.length < zs.length := Nat.mod_lt _ (by omega)
                    have : zs.getD (i % zs.length) .undef ∈ zs := by simp [List.getD, hm]
                    exact List.all_eq_true.1 hone _ this
                  refine ⟨_, .tuple #[], ?_, h3, h4⟩
                  have hzc : Builtin.zeroCells zv.cells n = (Array.range (n * sz')).map (fun x => zv.cells[x % zv.cells.size]!) := by
                    simp only [Builtin.zeroCells, hzA.1, hzl]
                  have hst := run_storeCells_at (P := P) b (sh + off) e0 ((Array.range (n * sz')).map (fun x => zv.cells[x % zv.cells.size]!)).toList 0 c w hcb (by simp; omega) (oneCell_all hA hone')
                  simp only [Nat.add_zero] at hst
                  obtain ⟨k, rfl⟩ : ∃ k, n = k + 1 := ⟨n - 1, by omega⟩
                  simp only [Builtin.clear_, e1, e3, Sem.run_bind, run_underlying hu, Result.andThen_ok, hzr, hzc, hst, Sem.run_pure]
                  rfl
            · cases h
          · cases h
        · cases h
      · cases h
    · cases h
  · cases h

end Go.MW
