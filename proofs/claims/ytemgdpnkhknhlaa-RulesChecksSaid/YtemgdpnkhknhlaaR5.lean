/-
  Parts of the proof about layouts: the specification's function gives the same answer.
-/
import Derived.Test.YtemgdpnkhknhlaaR4
namespace Go.MW.Rc
open Go.Proofs
set_option maxRecDepth 100000
set_option maxHeartbeats 2000000

theorem rs8 : Try.f8.results.toList = [.tmp 2] := by kernel_rfl
theorem fin8 {f : List PV} {e y : Int} (h : f.getD 2 .undef = .int .i64 e) (he : e = y) : (Ex.ret = .normal ∨ Ex.ret = .ret) ∧ ∀ H, resOf Try.prog Try.f8 ⟨f, H⟩ = some (.int .i64 y) := by
  subst he; exact ⟨.inr rfl, fun H => by simp only [resOf, rs8, resAll, resVar, h]⟩

theorem pc8 (l : Lay) : PC Try.prog 8 [.agg l.pv] (.int .i64 l.fault) := by
  refine PC.fnV (c := c8) Try.func8 (by kernel_rfl) (.int _ _) ?_
  rw [e8 l 0 0 0, c8_eq]
  have hz : FrzA [Blk.cells l.pv none] [(1, .ptr 0 0)] [(1, .rptr l.pv)] := .cons (Frz.ptr (cs := l.pv) (off := 0) (tg := none) rfl puL) .nil
  refine .sq (.treeH cx orc0_ok [1] 100 (t8_0 l 0 0 0) (.leaf ⟨mkF 251 [(1, .rptr l.pv)], ?_, ?_, puF, ?_⟩))
  · exact (hz.mkF 251).1
  · exact (hz.mkF 251).2
  refine .sq (.tree cx orc0_ok [1, 2] 100 (t8_1 l 0 0 0) ?_)
  by_cases hh : l.head = true
  case neg =>
    refine .br (fun _ => .leaf ⟨puF, fin8 rfl (by simp [Lay.fault, hh])⟩) fun h1 => .br (fun _ => .leaf ⟨puF, fin8 rfl (by simp [Lay.fault, hh])⟩) fun h2 => .br (fun _ => .leaf ⟨puF, fin8 rfl (by simp [Lay.fault, hh])⟩) fun h3 => .br (fun _ => .leaf ⟨puF, fin8 rfl (by simp [Lay.fault, hh])⟩) fun h4 => ?_
    exfalso; apply hh; simp at h1 h2 h3 h4; simp [Lay.head, h1, h2, h3, h4]
  have hd := head_of hh
  obtain ⟨wr1, wr2, wr3, wr4, wr5⟩ := wraps hh
  refine .br (fun h => ?_) fun _ => .br (fun h => ?_) fun _ => .br (fun h => ?_) fun _ => .br (fun h => ?_) fun _ => .leaf ⟨puF, ?_⟩
  · exfalso; simp [Lay.head] at hh; simp_all
  · exfalso; simp [Lay.head] at hh; simp_all
  · exfalso; simp [Lay.head] at hh; simp_all
  · exfalso; simp [Lay.head] at hh; simp_all
  refine .sq (.tree cx orc0_ok [1, 2] 100 (t8_2 l 0 0 0) ?_)
  by_cases hm : l.many = true
  case pos =>
    refine .br (fun _ => .leaf ⟨puF, fin8 rfl (by simp [Lay.fault, hh, hm])⟩) fun h1 => .br (fun _ => .leaf ⟨puF, fin8 rfl (by simp [Lay.fault, hh, hm])⟩) fun h2 => .br (fun _ => .leaf ⟨puF, fin8 rfl (by simp [Lay.fault, hh, hm])⟩) fun h3 => .br (fun _ => .leaf ⟨puF, fin8 rfl (by simp [Lay.fault, hh, hm])⟩) fun h4 => ?_
    exfalso; simp at h1 h2 h3 h4; simp [Lay.many] at hm; omega
  have hc : l.ws.length ≤ 6000 ∧ l.vs.length ≤ 6000 ∧ l.ps.length ≤ 4000 ∧ l.xs.length ≤ 64 := by simp [Lay.many] at hm; omega
  have hf : l.fault = first (Wi.code l) l.ws (first (Vi.code l) l.vs (first (Pi.code l) l.ps (first (Wa.code l) l.xs (if 200000 < l.pts l.ws.length then 3 else 0)))) := by simp [Lay.fault, hh, hm]
  refine .br (fun h => ?_) fun _ => .br (fun h => ?_) fun _ => .br (fun h => ?_) fun _ => .br (fun h => ?_) fun _ => .leaf ⟨puF, ?_⟩
  · exfalso; simp at h; omega
  · exfalso; simp at h; omega
  · exfalso; simp at h; omega
  · exfalso; simp at h; omega
  refine .sq (.tree cx orc0_ok [1, 3] 100 (t8_3 l 0 0 0) (.leaf ⟨puF, ?_⟩))
  refine .sq (.sq (.tree cx orc0_ok [1, 3, 57, 58, 59] 100 (t8_4 l 0 0 0) (.leaf ⟨puF, ?_⟩)))
  refine .blk (.scan (fun k : Nat => mkF 251 [(1, .rptr l.pv), (3, .int .i64 (l.pts k)), (57, .lst (l.ws.map Wi.pv) false), (58, .int .i64 (List.length (List.map Wi.pv l.ws))), (59, .int .i64 k)]) l.ws.length (fun k => Wi.code l (l.wAt k) ≠ 0) (fun _ _ => puF) (fun k hk hb => ?_) fun hw => ?_)
  · refine .tree cx orc0_ok [1, 2, 3, 57, 58, 59] 100 (t8_5 l (l.pts k) _ k) (.br (fun _ => .need ⟨rfl, rfl, dindexAddr_lst (e := 50) (sz := szWi) (by kernel_rfl) (by kernel_rfl) (fun _ => rfl) _ _ (by omega) (by omega)⟩ ?_) fun h => by simp at h; omega)
    have bad : ∀ {c : Int}, c ≠ 0 → c = Wi.code l (l.wAt k) → ∀ {f : List PV}, f.getD 2 .undef = .int .i64 c → Wi.code l (l.wAt k) ≠ 0 ∧ ((Ex.ret = .normal ∨ Ex.ret = .ret) ∧ ∀ H, resOf Try.prog Try.f8 ⟨f, H⟩ = some (.int .i64 l.fault)) := by
      intro c h0 hcc f hfr
      have hbad : Wi.code l (l.wAt k) ≠ 0 := hcc ▸ h0
      exact ⟨hbad, fin8 hfr (hcc.trans (hf.trans (first_at _ _ k hk (fun j hj => Decidable.not_not.1 (hb j hj)) hbad)).symm)⟩
    have next : Wi.code l (l.wAt k) = 0 → IntKind.wrap .i64 (l.pts k + wmany8 (l.wAt k)) = l.pts (k + 1) := fun h0 => many_8 hh (by omega) (fun j hj => Decidable.not_not.1 (hb j hj)) h0
    have good : Wi.code l (l.wAt k) = 0 → ¬ Wi.code l (l.wAt k) ≠ 0 ∧ mkF 251 [(1, .rptr l.pv), (3, .int .i64 (IntKind.wrap .i64 (l.pts k + wmany8 (l.wAt k)))), (57, .lst (l.ws.map Wi.pv) false), (58, .int .i64 (List.length (List.map Wi.pv l.ws))), (59, .int .i64 (IntKind.wrap .i64 (k + 1)))] = mkF 251 [(1, .rptr l.pv), (3, .int .i64 (l.pts (k + 1))), (57, .lst (l.ws.map Wi.pv) false), (58, .int .i64 (List.length (List.map Wi.pv l.ws))), (59, .int .i64 ((k + 1 : Nat)))] := fun h0 => ⟨fun h => h h0, by rw [next h0]; rw [wr_in (n := (k : Int) + 1) (by omega)]; rfl⟩
    rw [wr3, wr5]
    repeat' refine Tr.sat.br (fun _ => ?_) (fun _ => ?_)
    all_goals refine Tr.sat.leaf ⟨puF, ?_⟩
    all_goals first
      | exact bad (by decide) (by simp_all [Wi.code, inn] <;> omega) rfl
      | exact good (by simp_all [Wi.code, inn] <;> omega)
  refine .tree cx orc0_ok [1, 2, 3, 57, 58, 59] 100 (t8_5 l (l.pts l.ws.length) _ l.ws.length) (.br (fun h => by simp at h) fun _ => .leaf ⟨puF, fun h => (by cases h), ?_⟩)
  show (if 0 = 0 then _ else _)
  rw [if_pos rfl]
  refine .cut [1, 3] (fr' := mkF 251 [(1, .rptr l.pv), (3, .int .i64 (l.pts l.ws.length))]) (by kernel_rfl) ?_
  refine .sq (.sq (.tree cx orc0_ok [1, 3, 133, 134, 135] 100 (t8_6 l (l.pts l.ws.length) 0 0) (.leaf ⟨puF, ?_⟩)))
  refine .blk (.scan (fun k : Nat => mkF 251 [(1, .rptr l.pv), (3, .int .i64 (l.pts l.ws.length)), (133, .lst (l.vs.map Vi.pv) false), (134, .int .i64 (List.length (List.map Vi.pv l.vs))), (135, .int .i64 k)]) l.vs.length (fun k => Vi.code l (l.vAt k) ≠ 0) (fun _ _ => puF) (fun k hk hb => ?_) fun hv => ?_)
  · refine .tree cx orc0_ok [1, 2, 3, 133, 134, 135] 100 (t8_7 l (l.pts l.ws.length) _ k) (.br (fun _ => .need ⟨rfl, rfl, dindexAddr_lst (e := 54) (sz := szVi) (by kernel_rfl) (by kernel_rfl) (fun _ => rfl) _ _ (by omega) (by omega)⟩ ?_) fun h => by simp at h; omega)
    have bad : ∀ {c : Int}, c ≠ 0 → c = Vi.code l (l.vAt k) → ∀ {f : List PV}, f.getD 2 .undef = .int .i64 c → Vi.code l (l.vAt k) ≠ 0 ∧ ((Ex.ret = .normal ∨ Ex.ret = .ret) ∧ ∀ H, resOf Try.prog Try.f8 ⟨f, H⟩ = some (.int .i64 l.fault)) := by
      intro c h0 hcc f hfr
      have hbad : Vi.code l (l.vAt k) ≠ 0 := hcc ▸ h0
      exact ⟨hbad, fin8 hfr (hcc.trans ((hf.trans (first_all _ _ fun j hj => Decidable.not_not.1 (hw j hj))).trans (first_at _ _ k hk (fun j hj => Decidable.not_not.1 (hb j hj)) hbad)).symm)⟩
    have good : Vi.code l (l.vAt k) = 0 → ¬ Vi.code l (l.vAt k) ≠ 0 ∧ mkF 251 [(1, .rptr l.pv), (3, .int .i64 (l.pts l.ws.length)), (133, .lst (l.vs.map Vi.pv) false), (134, .int .i64 (List.length (List.map Vi.pv l.vs))), (135, .int .i64 (IntKind.wrap .i64 (k + 1)))] = mkF 251 [(1, .rptr l.pv), (3, .int .i64 (l.pts l.ws.length)), (133, .lst (l.vs.map Vi.pv) false), (134, .int .i64 (List.length (List.map Vi.pv l.vs))), (135, .int .i64 ((k + 1 : Nat)))] := fun h0 => ⟨fun h => h h0, by rw [wr_in (n := (k : Int) + 1) (by omega)]; rfl⟩
    rw [wr1, wr2, wr4, wr5]
    repeat' refine Tr.sat.br (fun _ => ?_) (fun _ => ?_)
    all_goals refine Tr.sat.leaf ⟨puF, ?_⟩
    all_goals first
      | exact bad (by decide) (by simp_all [Vi.code, inn] <;> omega) rfl
      | exact good (by simp_all [Vi.code, inn] <;> omega)
  refine .tree cx orc0_ok [1, 2, 3, 133, 134, 135] 100 (t8_7 l (l.pts l.ws.length) _ l.vs.length) (.br (fun h => by simp at h) fun _ => .leaf ⟨puF, fun h => (by cases h), ?_⟩)
  show (if 2 = 2 then _ else _)
  rw [if_pos rfl]
  refine .cut [1, 3] (fr' := mkF 251 [(1, .rptr l.pv), (3, .int .i64 (l.pts l.ws.length))]) (by kernel_rfl) ?_
  refine .sq (.sq (.tree cx orc0_ok [1, 3, 173, 174, 175] 100 (t8_8 l (l.pts l.ws.length) 0 0) (.leaf ⟨puF, ?_⟩)))
  refine .blk (.scan (fun k : Nat => mkF 251 [(1, .rptr l.pv), (3, .int .i64 (l.pts l.ws.length)), (173, .lst (l.ps.map Pi.pv) false), (174, .int .i64 (List.length (List.map Pi.pv l.ps))), (175, .int .i64 k)]) l.ps.length (fun k => Pi.code l (l.pAt k) ≠ 0) (fun _ _ => puF) (fun k hk hb => ?_) fun hp => ?_)
  · refine .tree cx orc0_ok [1, 2, 3, 173, 174, 175] 100 (t8_9 l (l.pts l.ws.length) _ k) (.br (fun _ => .need ⟨rfl, rfl, dindexAddr_lst (e := 48) (sz := szPi) (by kernel_rfl) (by kernel_rfl) (fun _ => rfl) _ _ (by omega) (by omega)⟩ ?_) fun h => by simp at h; omega)
    have bad : ∀ {c : Int}, c ≠ 0 → c = Pi.code l (l.pAt k) → ∀ {f : List PV}, f.getD 2 .undef = .int .i64 c → Pi.code l (l.pAt k) ≠ 0 ∧ ((Ex.ret = .normal ∨ Ex.ret = .ret) ∧ ∀ H, resOf Try.prog Try.f8 ⟨f, H⟩ = some (.int .i64 l.fault)) := by
      intro c h0 hcc f hfr
      have hbad : Pi.code l (l.pAt k) ≠ 0 := hcc ▸ h0
      exact ⟨hbad, fin8 hfr (hcc.trans (((hf.trans (first_all _ _ fun j hj => Decidable.not_not.1 (hw j hj))).trans (first_all _ _ fun j hj => Decidable.not_not.1 (hv j hj))).trans (first_at _ _ k hk (fun j hj => Decidable.not_not.1 (hb j hj)) hbad)).symm)⟩
    have good : Pi.code l (l.pAt k) = 0 → ¬ Pi.code l (l.pAt k) ≠ 0 ∧ mkF 251 [(1, .rptr l.pv), (3, .int .i64 (l.pts l.ws.length)), (173, .lst (l.ps.map Pi.pv) false), (174, .int .i64 (List.length (List.map Pi.pv l.ps))), (175, .int .i64 (IntKind.wrap .i64 (k + 1)))] = mkF 251 [(1, .rptr l.pv), (3, .int .i64 (l.pts l.ws.length)), (173, .lst (l.ps.map Pi.pv) false), (174, .int .i64 (List.length (List.map Pi.pv l.ps))), (175, .int .i64 ((k + 1 : Nat)))] := fun h0 => ⟨fun h => h h0, by rw [wr_in (n := (k : Int) + 1) (by omega)]; rfl⟩
    rw [wr1, wr2, wr5]
    repeat' refine Tr.sat.br (fun _ => ?_) (fun _ => ?_)
    all_goals refine Tr.sat.leaf ⟨puF, ?_⟩
    all_goals first
      | exact bad (by decide) (by simp_all [Pi.code, inn] <;> omega) rfl
      | exact good (by simp_all [Pi.code, inn] <;> omega)
  refine .tree cx orc0_ok [1, 2, 3, 173, 174, 175] 100 (t8_9 l (l.pts l.ws.length) _ l.ps.length) (.br (fun h => by simp at h) fun _ => .leaf ⟨puF, fun h => (by cases h), ?_⟩)
  show (if 4 = 4 then _ else _)
  rw [if_pos rfl]
  refine .cut [1, 3] (fr' := mkF 251 [(1, .rptr l.pv), (3, .int .i64 (l.pts l.ws.length))]) (by kernel_rfl) ?_
  refine .sq (.sq (.tree cx orc0_ok [1, 3, 219, 220, 221] 100 (t8_10 l (l.pts l.ws.length) 0 0) (.leaf ⟨puF, ?_⟩)))
  refine .blk (.scan (fun k : Nat => mkF 251 [(1, .rptr l.pv), (3, .int .i64 (l.pts l.ws.length)), (219, .lst (l.xs.map Wa.pv) false), (220, .int .i64 (List.length (List.map Wa.pv l.xs))), (221, .int .i64 k)]) l.xs.length (fun k => Wa.code l (l.xAt k) ≠ 0) (fun _ _ => puF) (fun k hk hb => ?_) fun hx => ?_)
  · refine .tree cx orc0_ok [1, 2, 3, 219, 220, 221] 100 (t8_11 l (l.pts l.ws.length) _ k) (.br (fun _ => .need ⟨rfl, rfl, dindexAddr_lst (e := 56) (sz := szWa) (by kernel_rfl) (by kernel_rfl) (fun _ => rfl) _ _ (by omega) (by omega)⟩ ?_) fun h => by simp at h; omega)
    have bad : ∀ {c : Int}, c ≠ 0 → c = Wa.code l (l.xAt k) → ∀ {f : List PV}, f.getD 2 .undef = .int .i64 c → Wa.code l (l.xAt k) ≠ 0 ∧ ((Ex.ret = .normal ∨ Ex.ret = .ret) ∧ ∀ H, resOf Try.prog Try.f8 ⟨f, H⟩ = some (.int .i64 l.fault)) := by
      intro c h0 hcc f hfr
      have hbad : Wa.code l (l.xAt k) ≠ 0 := hcc ▸ h0
      exact ⟨hbad, fin8 hfr (hcc.trans ((((hf.trans (first_all _ _ fun j hj => Decidable.not_not.1 (hw j hj))).trans (first_all _ _ fun j hj => Decidable.not_not.1 (hv j hj))).trans (first_all _ _ fun j hj => Decidable.not_not.1 (hp j hj))).trans (first_at _ _ k hk (fun j hj => Decidable.not_not.1 (hb j hj)) hbad)).symm)⟩
    have good : Wa.code l (l.xAt k) = 0 → ¬ Wa.code l (l.xAt k) ≠ 0 ∧ mkF 251 [(1, .rptr l.pv), (3, .int .i64 (l.pts l.ws.length)), (219, .lst (l.xs.map Wa.pv) false), (220, .int .i64 (List.length (List.map Wa.pv l.xs))), (221, .int .i64 (IntKind.wrap .i64 (k + 1)))] = mkF 251 [(1, .rptr l.pv), (3, .int .i64 (l.pts l.ws.length)), (219, .lst (l.xs.map Wa.pv) false), (220, .int .i64 (List.length (List.map Wa.pv l.xs))), (221, .int .i64 ((k + 1 : Nat)))] := fun h0 => ⟨fun h => h h0, by rw [wr_in (n := (k : Int) + 1) (by omega)]; rfl⟩
    rw [wr3]
    repeat' refine Tr.sat.br (fun _ => ?_) (fun _ => ?_)
    all_goals refine Tr.sat.leaf ⟨puF, ?_⟩
    all_goals first
      | exact bad (by decide) (by simp_all [Wa.code, inn] <;> omega) rfl
      | exact good (by simp_all [Wa.code, inn] <;> omega)
  refine .tree cx orc0_ok [1, 2, 3, 219, 220, 221] 100 (t8_11 l (l.pts l.ws.length) _ l.xs.length) (.br (fun h => by simp at h) fun _ => .leaf ⟨puF, fun h => (by cases h), ?_⟩)
  show (if 6 = 6 then _ else _)
  rw [if_pos rfl]
  refine .cut [3] (fr' := mkF 251 [(3, .int .i64 (l.pts l.ws.length))]) (by kernel_rfl) ?_
  refine .tree cx orc0_ok [2] 100 (t8_12 l (l.pts l.ws.length) 0 0) ?_
  have hend : l.fault = if 200000 < l.pts l.ws.length then 3 else 0 := ((((hf.trans (first_all _ _ fun j hj => Decidable.not_not.1 (hw j hj))).trans (first_all _ _ fun j hj => Decidable.not_not.1 (hv j hj))).trans (first_all _ _ fun j hj => Decidable.not_not.1 (hp j hj))).trans (first_all _ _ fun j hj => Decidable.not_not.1 (hx j hj)))
  refine .br (fun h => .leaf ⟨puF, fin8 rfl ?_⟩) fun h => .leaf ⟨puF, fin8 rfl ?_⟩
  · rw [hend, if_pos (by simpa using h)]
  · rw [hend, if_neg (by simpa using h)]
end Go.MW.Rc
