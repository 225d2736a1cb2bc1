/-
  Parts of the proof about layouts: both functions that look for what is wrong give the same answer.
-/
import Derived.Test.YtemgdpnkhknhlaaR2
import Derived.Test.YtemgdpnkhknhlaaR3
namespace Go.MW.Rc
open Go.Proofs
set_option maxRecDepth 100000
set_option maxHeartbeats 2000000

abbrev szWi : Nat := 6
abbrev szVi : Nat := 4
abbrev szPi : Nat := 5
abbrev szWa : Nat := 5

theorem code_wire {l : Lay} (x : Wi) (h : x.code l = 0) : 0 ≤ x.x0 ∧ x.x0 ≤ x.x1 ∧ x.x1 ≤ l.w - 1 ∧ 0 ≤ x.y0 ∧ x.y0 ≤ x.y1 ∧ x.y1 ≤ l.h - 1 := by
  unfold Wi.code at h
  split at h
  · omega
  · split at h
    · omega
    · rename_i _ h2
      simp [inn] at h2
      omega

theorem pts_in {l : Lay} (hh : l.head = true) : ∀ (k : Nat), (∀ j, j < k → Wi.code l (l.wAt j) = 0) → 0 ≤ l.pts k ∧ l.pts k ≤ 1023 * (k : Int)
  | 0, _ => ⟨Int.le_refl _, by simp [Lay.pts]⟩
  | k + 1, h => by
    obtain ⟨h1, h2⟩ := pts_in hh k fun j hj => h j (by omega)
    have h3 := code_wire _ (h k (by omega))
    have hd := head_of hh
    simp only [Lay.pts, Wi.many]
    omega

/-- How the two functions count the points of a wire. -/
def wmany7 (x : Wi) : Int := IntKind.wrap .i64 (IntKind.wrap .i64 (IntKind.wrap .i64 (IntKind.wrap .i64 (x.x1 - x.x0) + x.y1) - x.y0) + 1)
def wmany8 (x : Wi) : Int := IntKind.wrap .i64 (IntKind.wrap .i64 (IntKind.wrap .i64 (IntKind.wrap .i64 (1 + x.x1) - x.x0) + x.y1) - x.y0)

theorem many_7 {l : Lay} (hh : l.head = true) {k : Nat} (hk : k ≤ 6000) (hb : ∀ j, j < k → Wi.code l (l.wAt j) = 0) (h0 : Wi.code l (l.wAt k) = 0) : IntKind.wrap .i64 (l.pts k + wmany7 (l.wAt k)) = l.pts (k + 1) := by
  have h1 := pts_in hh k hb
  have h3 := code_wire _ h0
  have hd := head_of hh
  unfold wmany7
  rw [wr_in (n := (l.wAt k).x1 - (l.wAt k).x0) (by omega), wr_in (n := (l.wAt k).x1 - (l.wAt k).x0 + (l.wAt k).y1) (by omega), wr_in (n := (l.wAt k).x1 - (l.wAt k).x0 + (l.wAt k).y1 - (l.wAt k).y0) (by omega), wr_in (n := (l.wAt k).x1 - (l.wAt k).x0 + (l.wAt k).y1 - (l.wAt k).y0 + 1) (by omega), wr_in (by omega)]
  rfl
theorem many_8 {l : Lay} (hh : l.head = true) {k : Nat} (hk : k ≤ 6000) (hb : ∀ j, j < k → Wi.code l (l.wAt j) = 0) (h0 : Wi.code l (l.wAt k) = 0) : IntKind.wrap .i64 (l.pts k + wmany8 (l.wAt k)) = l.pts (k + 1) := by
  have h1 := pts_in hh k hb
  have h3 := code_wire _ h0
  have hd := head_of hh
  unfold wmany8
  rw [wr_in (n := 1 + (l.wAt k).x1) (by omega), wr_in (n := 1 + (l.wAt k).x1 - (l.wAt k).x0) (by omega), wr_in (n := 1 + (l.wAt k).x1 - (l.wAt k).x0 + (l.wAt k).y1) (by omega), wr_in (n := 1 + (l.wAt k).x1 - (l.wAt k).x0 + (l.wAt k).y1 - (l.wAt k).y0) (by omega), wr_in (by omega)]
  simp only [Lay.pts, Wi.many]
  omega

theorem rs7 : Try.f7.results.toList = [.tmp 2] := by kernel_rfl
theorem fin7 {f : List PV} {e y : Int} (h : f.getD 2 .undef = .int .i64 e) (he : e = y) : (Ex.ret = .normal ∨ Ex.ret = .ret) ∧ ∀ H, resOf Try.prog Try.f7 ⟨f, H⟩ = some (.int .i64 y) := by
  subst he; exact ⟨.inr rfl, fun H => by simp only [resOf, rs7, resAll, resVar, h]⟩

theorem pc7 (l : Lay) : PC Try.prog 7 [.agg l.pv] (.int .i64 l.fault) := by
  refine PC.fnV (c := c7) Try.func7 (by kernel_rfl) (.int _ _) ?_
  rw [e7 l 0 0 0, c7_eq]
  have hz : FrzA [Blk.cells l.pv none] [(1, .ptr 0 0)] [(1, .rptr l.pv)] := .cons (Frz.ptr (cs := l.pv) (off := 0) (tg := none) rfl puL) .nil
  refine .sq (.treeH cx orc0_ok [1] 100 (t7_0 l 0 0 0) (.leaf ⟨mkF 228 [(1, .rptr l.pv)], ?_, ?_, puF, ?_⟩))
  · exact (hz.mkF 228).1
  · exact (hz.mkF 228).2
  refine .sq (.tree cx orc0_ok [1, 2] 100 (t7_1 l 0 0 0) ?_)
  by_cases hh : l.head = true
  case neg =>
    refine .br (fun _ => .leaf ⟨puF, fin7 rfl (by simp [Lay.fault, hh])⟩) fun h1 => .br (fun _ => .leaf ⟨puF, fin7 rfl (by simp [Lay.fault, hh])⟩) fun h2 => .br (fun _ => .leaf ⟨puF, fin7 rfl (by simp [Lay.fault, hh])⟩) fun h3 => .br (fun _ => .leaf ⟨puF, fin7 rfl (by simp [Lay.fault, hh])⟩) fun h4 => ?_
    exfalso; apply hh; simp at h1 h2 h3 h4; simp [Lay.head, h1, h2, h3, h4]
  have hd := head_of hh
  obtain ⟨wr1, wr2, wr3, wr4, wr5⟩ := wraps hh
  refine .br (fun h => ?_) fun _ => .br (fun h => ?_) fun _ => .br (fun h => ?_) fun _ => .br (fun h => ?_) fun _ => .leaf ⟨puF, ?_⟩
  · exfalso; simp [Lay.head] at hh; simp_all
  · exfalso; simp [Lay.head] at hh; simp_all
  · exfalso; simp [Lay.head] at hh; simp_all
  · exfalso; simp [Lay.head] at hh; simp_all
  refine .sq (.tree cx orc0_ok [1, 2] 100 (t7_2 l 0 0 0) ?_)
  by_cases hm : l.many = true
  case pos =>
    refine .br (fun _ => .leaf ⟨puF, fin7 rfl (by simp [Lay.fault, hh, hm])⟩) fun h1 => .br (fun _ => .leaf ⟨puF, fin7 rfl (by simp [Lay.fault, hh, hm])⟩) fun h2 => .br (fun _ => .leaf ⟨puF, fin7 rfl (by simp [Lay.fault, hh, hm])⟩) fun h3 => .br (fun _ => .leaf ⟨puF, fin7 rfl (by simp [Lay.fault, hh, hm])⟩) fun h4 => ?_
    exfalso; simp at h1 h2 h3 h4; simp [Lay.many] at hm; omega
  have hc : l.ws.length ≤ 6000 ∧ l.vs.length ≤ 6000 ∧ l.ps.length ≤ 4000 ∧ l.xs.length ≤ 64 := by simp [Lay.many] at hm; omega
  have hf : l.fault = first (Wi.code l) l.ws (first (Vi.code l) l.vs (first (Pi.code l) l.ps (first (Wa.code l) l.xs (if 200000 < l.pts l.ws.length then 3 else 0)))) := by simp [Lay.fault, hh, hm]
  refine .br (fun h => ?_) fun _ => .br (fun h => ?_) fun _ => .br (fun h => ?_) fun _ => .br (fun h => ?_) fun _ => .leaf ⟨puF, ?_⟩
  · exfalso; simp at h; omega
  · exfalso; simp at h; omega
  · exfalso; simp at h; omega
  · exfalso; simp at h; omega
  refine .sq (.tree cx orc0_ok [1, 3] 100 (t7_3 l 0 0 0) (.leaf ⟨puF, ?_⟩))
  refine .sq (.sq (.tree cx orc0_ok [1, 3, 58, 59, 60] 100 (t7_4 l 0 0 0) (.leaf ⟨puF, ?_⟩)))
  refine .blk (.scan (fun k : Nat => mkF 228 [(1, .rptr l.pv), (3, .int .i64 (l.pts k)), (58, .lst (l.ws.map Wi.pv) false), (59, .int .i64 (List.length (List.map Wi.pv l.ws))), (60, .int .i64 k)]) l.ws.length (fun k => Wi.code l (l.wAt k) ≠ 0) (fun _ _ => puF) (fun k hk hb => ?_) fun hw => ?_)
  · refine .tree cx orc0_ok [1, 2, 3, 58, 59, 60] 100 (t7_5 l (l.pts k) _ k) (.br (fun _ => .need ⟨rfl, rfl, dindexAddr_lst (e := 50) (sz := szWi) (by kernel_rfl) (by kernel_rfl) (fun _ => rfl) _ _ (by omega) (by omega)⟩ ?_) fun h => by simp at h; omega)
    have bad : ∀ {c : Int}, c ≠ 0 → c = Wi.code l (l.wAt k) → ∀ {f : List PV}, f.getD 2 .undef = .int .i64 c → Wi.code l (l.wAt k) ≠ 0 ∧ ((Ex.ret = .normal ∨ Ex.ret = .ret) ∧ ∀ H, resOf Try.prog Try.f7 ⟨f, H⟩ = some (.int .i64 l.fault)) := by
      intro c h0 hcc f hfr
      have hbad : Wi.code l (l.wAt k) ≠ 0 := hcc ▸ h0
      exact ⟨hbad, fin7 hfr (hcc.trans (hf.trans (first_at _ _ k hk (fun j hj => Decidable.not_not.1 (hb j hj)) hbad)).symm)⟩
    have next : Wi.code l (l.wAt k) = 0 → IntKind.wrap .i64 (l.pts k + wmany7 (l.wAt k)) = l.pts (k + 1) := fun h0 => many_7 hh (by omega) (fun j hj => Decidable.not_not.1 (hb j hj)) h0
    have good : Wi.code l (l.wAt k) = 0 → ¬ Wi.code l (l.wAt k) ≠ 0 ∧ mkF 228 [(1, .rptr l.pv), (3, .int .i64 (IntKind.wrap .i64 (l.pts k + wmany7 (l.wAt k)))), (58, .lst (l.ws.map Wi.pv) false), (59, .int .i64 (List.length (List.map Wi.pv l.ws))), (60, .int .i64 (IntKind.wrap .i64 (k + 1)))] = mkF 228 [(1, .rptr l.pv), (3, .int .i64 (l.pts (k + 1))), (58, .lst (l.ws.map Wi.pv) false), (59, .int .i64 (List.length (List.map Wi.pv l.ws))), (60, .int .i64 ((k + 1 : Nat)))] := fun h0 => ⟨fun h => h h0, by rw [next h0]; rw [wr_in (n := (k : Int) + 1) (by omega)]; rfl⟩
    refine .need ⟨pc19 hh _, puL⟩ (.br (fun h => .leaf ⟨puF, bad (by simpa using h) rfl rfl⟩) fun h => .leaf ⟨puF, good (by simpa using h)⟩)
  refine .tree cx orc0_ok [1, 2, 3, 58, 59, 60] 100 (t7_5 l (l.pts l.ws.length) _ l.ws.length) (.br (fun h => by simp at h) fun _ => .leaf ⟨puF, fun h => (by cases h), ?_⟩)
  show (if 0 = 0 then _ else _)
  rw [if_pos rfl]
  refine .cut [1, 3] (fr' := mkF 228 [(1, .rptr l.pv), (3, .int .i64 (l.pts l.ws.length))]) (by kernel_rfl) ?_
  refine .sq (.sq (.tree cx orc0_ok [1, 3, 86, 87, 88] 100 (t7_6 l (l.pts l.ws.length) 0 0) (.leaf ⟨puF, ?_⟩)))
  refine .blk (.scan (fun k : Nat => mkF 228 [(1, .rptr l.pv), (3, .int .i64 (l.pts l.ws.length)), (86, .lst (l.vs.map Vi.pv) false), (87, .int .i64 (List.length (List.map Vi.pv l.vs))), (88, .int .i64 k)]) l.vs.length (fun k => Vi.code l (l.vAt k) ≠ 0) (fun _ _ => puF) (fun k hk hb => ?_) fun hv => ?_)
  · refine .tree cx orc0_ok [1, 2, 3, 86, 87, 88] 100 (t7_7 l (l.pts l.ws.length) _ k) (.br (fun _ => .need ⟨rfl, rfl, dindexAddr_lst (e := 54) (sz := szVi) (by kernel_rfl) (by kernel_rfl) (fun _ => rfl) _ _ (by omega) (by omega)⟩ ?_) fun h => by simp at h; omega)
    have bad : ∀ {c : Int}, c ≠ 0 → c = Vi.code l (l.vAt k) → ∀ {f : List PV}, f.getD 2 .undef = .int .i64 c → Vi.code l (l.vAt k) ≠ 0 ∧ ((Ex.ret = .normal ∨ Ex.ret = .ret) ∧ ∀ H, resOf Try.prog Try.f7 ⟨f, H⟩ = some (.int .i64 l.fault)) := by
      intro c h0 hcc f hfr
      have hbad : Vi.code l (l.vAt k) ≠ 0 := hcc ▸ h0
      exact ⟨hbad, fin7 hfr (hcc.trans ((hf.trans (first_all _ _ fun j hj => Decidable.not_not.1 (hw j hj))).trans (first_at _ _ k hk (fun j hj => Decidable.not_not.1 (hb j hj)) hbad)).symm)⟩
    have good : Vi.code l (l.vAt k) = 0 → ¬ Vi.code l (l.vAt k) ≠ 0 ∧ mkF 228 [(1, .rptr l.pv), (3, .int .i64 (l.pts l.ws.length)), (86, .lst (l.vs.map Vi.pv) false), (87, .int .i64 (List.length (List.map Vi.pv l.vs))), (88, .int .i64 (IntKind.wrap .i64 (k + 1)))] = mkF 228 [(1, .rptr l.pv), (3, .int .i64 (l.pts l.ws.length)), (86, .lst (l.vs.map Vi.pv) false), (87, .int .i64 (List.length (List.map Vi.pv l.vs))), (88, .int .i64 ((k + 1 : Nat)))] := fun h0 => ⟨fun h => h h0, by rw [wr_in (n := (k : Int) + 1) (by omega)]; rfl⟩
    rw [wr1, wr2, wr4, wr5]
    repeat' refine Tr.sat.br (fun _ => ?_) (fun _ => ?_)
    all_goals refine Tr.sat.leaf ⟨puF, ?_⟩
    all_goals first
      | exact bad (by decide) (by simp_all [Vi.code, inn] <;> omega) rfl
      | exact good (by simp_all [Vi.code, inn] <;> omega)
  refine .tree cx orc0_ok [1, 2, 3, 86, 87, 88] 100 (t7_7 l (l.pts l.ws.length) _ l.vs.length) (.br (fun h => by simp at h) fun _ => .leaf ⟨puF, fun h => (by cases h), ?_⟩)
  show (if 2 = 2 then _ else _)
  rw [if_pos rfl]
  refine .cut [1, 3] (fr' := mkF 228 [(1, .rptr l.pv), (3, .int .i64 (l.pts l.ws.length))]) (by kernel_rfl) ?_
  refine .sq (.sq (.tree cx orc0_ok [1, 3, 126, 127, 128] 100 (t7_8 l (l.pts l.ws.length) 0 0) (.leaf ⟨puF, ?_⟩)))
  refine .blk (.scan (fun k : Nat => mkF 228 [(1, .rptr l.pv), (3, .int .i64 (l.pts l.ws.length)), (126, .lst (l.ps.map Pi.pv) false), (127, .int .i64 (List.length (List.map Pi.pv l.ps))), (128, .int .i64 k)]) l.ps.length (fun k => Pi.code l (l.pAt k) ≠ 0) (fun _ _ => puF) (fun k hk hb => ?_) fun hp => ?_)
  · refine .tree cx orc0_ok [1, 2, 3, 126, 127, 128] 100 (t7_9 l (l.pts l.ws.length) _ k) (.br (fun _ => .need ⟨rfl, rfl, dindexAddr_lst (e := 48) (sz := szPi) (by kernel_rfl) (by kernel_rfl) (fun _ => rfl) _ _ (by omega) (by omega)⟩ ?_) fun h => by simp at h; omega)
    have bad : ∀ {c : Int}, c ≠ 0 → c = Pi.code l (l.pAt k) → ∀ {f : List PV}, f.getD 2 .undef = .int .i64 c → Pi.code l (l.pAt k) ≠ 0 ∧ ((Ex.ret = .normal ∨ Ex.ret = .ret) ∧ ∀ H, resOf Try.prog Try.f7 ⟨f, H⟩ = some (.int .i64 l.fault)) := by
      intro c h0 hcc f hfr
      have hbad : Pi.code l (l.pAt k) ≠ 0 := hcc ▸ h0
      exact ⟨hbad, fin7 hfr (hcc.trans (((hf.trans (first_all _ _ fun j hj => Decidable.not_not.1 (hw j hj))).trans (first_all _ _ fun j hj => Decidable.not_not.1 (hv j hj))).trans (first_at _ _ k hk (fun j hj => Decidable.not_not.1 (hb j hj)) hbad)).symm)⟩
    have good : Pi.code l (l.pAt k) = 0 → ¬ Pi.code l (l.pAt k) ≠ 0 ∧ mkF 228 [(1, .rptr l.pv), (3, .int .i64 (l.pts l.ws.length)), (126, .lst (l.ps.map Pi.pv) false), (127, .int .i64 (List.length (List.map Pi.pv l.ps))), (128, .int .i64 (IntKind.wrap .i64 (k + 1)))] = mkF 228 [(1, .rptr l.pv), (3, .int .i64 (l.pts l.ws.length)), (126, .lst (l.ps.map Pi.pv) false), (127, .int .i64 (List.length (List.map Pi.pv l.ps))), (128, .int .i64 ((k + 1 : Nat)))] := fun h0 => ⟨fun h => h h0, by rw [wr_in (n := (k : Int) + 1) (by omega)]; rfl⟩
    rw [wr1, wr2, wr5]
    repeat' refine Tr.sat.br (fun _ => ?_) (fun _ => ?_)
    all_goals refine Tr.sat.leaf ⟨puF, ?_⟩
    all_goals first
      | exact bad (by decide) (by simp_all [Pi.code, inn] <;> omega) rfl
      | exact good (by simp_all [Pi.code, inn] <;> omega)
  refine .tree cx orc0_ok [1, 2, 3, 126, 127, 128] 100 (t7_9 l (l.pts l.ws.length) _ l.ps.length) (.br (fun h => by simp at h) fun _ => .leaf ⟨puF, fun h => (by cases h), ?_⟩)
  show (if 4 = 4 then _ else _)
  rw [if_pos rfl]
  refine .cut [1, 3] (fr' := mkF 228 [(1, .rptr l.pv), (3, .int .i64 (l.pts l.ws.length))]) (by kernel_rfl) ?_
  refine .sq (.sq (.tree cx orc0_ok [1, 3, 172, 173, 174] 100 (t7_10 l (l.pts l.ws.length) 0 0) (.leaf ⟨puF, ?_⟩)))
  refine .blk (.scan (fun k : Nat => mkF 228 [(1, .rptr l.pv), (3, .int .i64 (l.pts l.ws.length)), (172, .lst (l.xs.map Wa.pv) false), (173, .int .i64 (List.length (List.map Wa.pv l.xs))), (174, .int .i64 k)]) l.xs.length (fun k => Wa.code l (l.xAt k) ≠ 0) (fun _ _ => puF) (fun k hk hb => ?_) fun hx => ?_)
  · refine .tree cx orc0_ok [1, 2, 3, 172, 173, 174] 100 (t7_11 l (l.pts l.ws.length) _ k) (.br (fun _ => .need ⟨rfl, rfl, dindexAddr_lst (e := 56) (sz := szWa) (by kernel_rfl) (by kernel_rfl) (fun _ => rfl) _ _ (by omega) (by omega)⟩ ?_) fun h => by simp at h; omega)
    have bad : ∀ {c : Int}, c ≠ 0 → c = Wa.code l (l.xAt k) → ∀ {f : List PV}, f.getD 2 .undef = .int .i64 c → Wa.code l (l.xAt k) ≠ 0 ∧ ((Ex.ret = .normal ∨ Ex.ret = .ret) ∧ ∀ H, resOf Try.prog Try.f7 ⟨f, H⟩ = some (.int .i64 l.fault)) := by
      intro c h0 hcc f hfr
      have hbad : Wa.code l (l.xAt k) ≠ 0 := hcc ▸ h0
      exact ⟨hbad, fin7 hfr (hcc.trans ((((hf.trans (first_all _ _ fun j hj => Decidable.not_not.1 (hw j hj))).trans (first_all _ _ fun j hj => Decidable.not_not.1 (hv j hj))).trans (first_all _ _ fun j hj => Decidable.not_not.1 (hp j hj))).trans (first_at _ _ k hk (fun j hj => Decidable.not_not.1 (hb j hj)) hbad)).symm)⟩
    have good : Wa.code l (l.xAt k) = 0 → ¬ Wa.code l (l.xAt k) ≠ 0 ∧ mkF 228 [(1, .rptr l.pv), (3, .int .i64 (l.pts l.ws.length)), (172, .lst (l.xs.map Wa.pv) false), (173, .int .i64 (List.length (List.map Wa.pv l.xs))), (174, .int .i64 (IntKind.wrap .i64 (k + 1)))] = mkF 228 [(1, .rptr l.pv), (3, .int .i64 (l.pts l.ws.length)), (172, .lst (l.xs.map Wa.pv) false), (173, .int .i64 (List.length (List.map Wa.pv l.xs))), (174, .int .i64 ((k + 1 : Nat)))] := fun h0 => ⟨fun h => h h0, by rw [wr_in (n := (k : Int) + 1) (by omega)]; rfl⟩
    rw [wr1, wr2, wr3]
    repeat' refine Tr.sat.br (fun _ => ?_) (fun _ => ?_)
    all_goals refine Tr.sat.leaf ⟨puF, ?_⟩
    all_goals first
      | exact bad (by decide) (by simp_all [Wa.code, inn] <;> omega) rfl
      | exact good (by simp_all [Wa.code, inn] <;> omega)
  refine .tree cx orc0_ok [1, 2, 3, 172, 173, 174] 100 (t7_11 l (l.pts l.ws.length) _ l.xs.length) (.br (fun h => by simp at h) fun _ => .leaf ⟨puF, fun h => (by cases h), ?_⟩)
  show (if 6 = 6 then _ else _)
  rw [if_pos rfl]
  refine .cut [3] (fr' := mkF 228 [(3, .int .i64 (l.pts l.ws.length))]) (by kernel_rfl) ?_
  refine .tree cx orc0_ok [2] 100 (t7_12 l (l.pts l.ws.length) 0 0) ?_
  have hend : l.fault = if 200000 < l.pts l.ws.length then 3 else 0 := ((((hf.trans (first_all _ _ fun j hj => Decidable.not_not.1 (hw j hj))).trans (first_all _ _ fun j hj => Decidable.not_not.1 (hv j hj))).trans (first_all _ _ fun j hj => Decidable.not_not.1 (hp j hj))).trans (first_all _ _ fun j hj => Decidable.not_not.1 (hx j hj)))
  refine .br (fun h => .leaf ⟨puF, fin7 rfl ?_⟩) fun h => .leaf ⟨puF, fin7 rfl ?_⟩
  · rw [hend, if_pos (by simpa using h)]
  · rw [hend, if_neg (by simpa using h)]
end Go.MW.Rc
