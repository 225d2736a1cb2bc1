/-
  Parts of the proof for HoldBetter: Better and the specification's answer, for lists of ends.
-/
import Derived.Test.YtfieobmlocgcnaaDoorG2
import Derived.IntWalk
namespace Go.MW.Hb
open Go.Proofs
set_option maxRecDepth 100000

def badAt (b a : En) : Bool := bad b.s.k b.s.v a.s.k a.s.v || bad b.h.k b.h.v a.h.k a.h.v
def better (bs cs : List En) (i : Int) : Bool :=
  decide (bs.length = cs.length) && decide (0 ≤ i) && decide (i < bs.length) && decide ((bs.getD i.toNat default).h.v < (cs.getD i.toNat default).h.v) &&
    (List.range bs.length).all fun k => !badAt (bs.getD k default) (cs.getD k default)

def En.ca (e : En) : Nat → Int
  | 0 => e.f
  | 1 => e.i
  | 3 => e.s.v
  | 4 => e.s.f
  | 6 => e.h.v
  | _ => e.h.f
def En.cb (e : En) : Nat → Bool
  | 2 => e.s.k
  | _ => e.h.k
theorem badAt_s {b c : En} (h : bad (b.cb 2) (b.ca 3) (c.cb 2) (c.ca 3) = true) : badAt b c = true := by
  have h : bad b.s.k b.s.v c.s.k c.s.v = true := h
  unfold badAt; rw [h]; rfl
theorem badAt_h {b c : En} (h : bad (b.cb 5) (b.ca 6) (c.cb 5) (c.ca 6) = true) : badAt b c = true := by
  have h : bad b.h.k b.h.v c.h.k c.h.v = true := h
  unfold badAt; rw [h]; simp
theorem badAt_f {b c : En} (h1 : bad (b.cb 2) (b.ca 3) (c.cb 2) (c.ca 3) = false) (h2 : bad (b.cb 5) (b.ca 6) (c.cb 5) (c.ca 6) = false) : badAt b c = false := by
  have h1 : bad b.s.k b.s.v c.s.k c.s.v = false := h1
  have h2 : bad b.h.k b.h.v c.h.k c.h.v = false := h2
  unfold badAt; rw [h1, h2]; rfl
theorem pv_mk (e : En) (c : Nat → ByteArray) (d : Nat → PV) : e.pv = mkC [(.int .i64), (.int .i64), .bool, (.int .i64), (.int .i64), .bool, (.int .i64), (.int .i64)] e.ca e.cb c d 0 := rfl
theorem el_of (l : List En) (k : Nat) (h : k < l.length) : List.getD (l.map En.pv) k [] = (l.getD k default).pv := by simp [List.getD, h]

theorem pu_list (l : List En) (t : Bool) : Pu (.lst (l.map En.pv) t) := .lst fun x hx c hc => by
  obtain ⟨e, _, rfl⟩ := List.mem_map.1 hx
  simp [En.pv] at hc
  rcases hc with rfl | rfl | rfl | rfl | rfl | rfl | rfl | rfl <;> exact isPu_snd 5 _ rfl

theorem c8_eq : c8 = .seq (Code.l c8) (.seq (Code.l (Code.r c8)) (.seq (.seq (Code.l (Code.l (Code.r (Code.r c8)))) (.block 0 (.loop (Code.i (Code.i (Code.r (Code.l (Code.r (Code.r c8))))))))) (Code.r (Code.r (Code.r c8))))) := by kernel_rfl
theorem c9_eq : c9 = .seq (Code.l c9) (.seq (Code.l (Code.r c9)) (.seq (.seq (Code.l (Code.l (Code.r (Code.r c9)))) (.block 0 (.loop (Code.i (Code.i (Code.r (Code.l (Code.r (Code.r c9))))))))) (Code.r (Code.r (Code.r c9))))) := by kernel_rfl

theorem t8a (B A I : PV) : (codeS Tryd.prog cx.E orc1 100 (Code.l c8) ⟨mkF 68 [(0, B), (1, A), (2, I)], [], []⟩).cut [0, 1, 2, 6] false = .leaf (.normal, ⟨mkF 68 [(0, B), (1, A), (2, I), (6, .bool false)], []⟩) := by kernel_rfl
theorem t9a (B A I : PV) : (codeS Tryd.prog cx.E orc1 100 (Code.l c9) ⟨mkF 71 [(0, B), (1, A), (2, I)], [], []⟩).cut [0, 1, 2, 6] false = .leaf (.normal, ⟨mkF 71 [(0, B), (1, A), (2, I), (6, .bool false)], []⟩) := by kernel_rfl
theorem t8c (bs cs : List En) (tb ta : Bool) (i : Int) : (codeS Tryd.prog cx.E orc1 100 (Code.l (Code.l (Code.r (Code.r c8)))) ⟨mkF 68 [(0, .lst (bs.map En.pv) tb), (1, .lst (cs.map En.pv) ta), (2, .int .i64 i), (6, .bool false)], [], []⟩).cut [0, 1, 6, 39, 40] false =
    (.leaf (.normal, ⟨mkF 68 [(0, (.lst (List.map Go.MW.Hb.En.pv bs) tb)), (1, (.lst (List.map Go.MW.Hb.En.pv cs) ta)), (6, (.bool Bool.false)), (39, (.int .i64 ((↑(List.length (List.map Go.MW.Hb.En.pv bs)) : Int)))), (40, (.int .i64 (0)))], []⟩)) := by kernel_rfl
theorem t9c (bs cs : List En) (tb ta : Bool) (i : Int) : (codeS Tryd.prog cx.E orc1 100 (Code.l (Code.l (Code.r (Code.r c9)))) ⟨mkF 71 [(0, .lst (bs.map En.pv) tb), (1, .lst (cs.map En.pv) ta), (2, .int .i64 i), (6, .bool false)], [], []⟩).cut [0, 1, 6, 37, 38, 39] false =
    (.leaf (.normal, ⟨mkF 71 [(0, (.lst (List.map Go.MW.Hb.En.pv bs) tb)), (1, (.lst (List.map Go.MW.Hb.En.pv cs) ta)), (6, (.bool Bool.false)), (37, (.lst (List.map Go.MW.Hb.En.pv cs) ta)), (38, (.int .i64 ((↑(List.length (List.map Go.MW.Hb.En.pv cs)) : Int)))), (39, (.int .i64 (0)))], []⟩)) := by kernel_rfl
theorem t9b (bs cs : List En) (tb ta : Bool) (i : Int) : (codeS Tryd.prog cx.E orc1 100 (Code.l (Code.r c9)) ⟨mkF 71 [(0, .lst (bs.map En.pv) tb), (1, .lst (cs.map En.pv) ta), (2, .int .i64 i), (6, .bool false)], [], []⟩).cut [0, 1, 2, 6] false =
    (.br ((↑(List.length (List.map Go.MW.Hb.En.pv bs)) : Int) != (↑(List.length (List.map Go.MW.Hb.En.pv cs)) : Int))
     (.leaf (.ret, ⟨mkF 71 [(0, (.lst (List.map Go.MW.Hb.En.pv bs) tb)), (1, (.lst (List.map Go.MW.Hb.En.pv cs) ta)), (2, (.int .i64 i)), (6, (.bool Bool.false))], []⟩))
     (.br (!(Decidable.decide (0 ≤ i) &&
    Decidable.decide (i ≤ Go.IntKind.wrap Go.IntKind.i64 ((↑(List.length (List.map Go.MW.Hb.En.pv bs)) : Int) - 1))))
      (.leaf (.ret, ⟨mkF 71 [(0, (.lst (List.map Go.MW.Hb.En.pv bs) tb)), (1, (.lst (List.map Go.MW.Hb.En.pv cs) ta)), (2, (.int .i64 i)), (6, (.bool Bool.false))], []⟩))
      (.br (Decidable.decide (0 ≤ i) && Decidable.decide (i < (↑(List.length (List.map Go.MW.Hb.En.pv cs)) : Int)))
       (.el (List.getD (List.map Go.MW.Hb.En.pv cs) (Int.toNat i) []) [(.int .i64), (.int .i64), .bool, (.int .i64), (.int .i64), .bool, (.int .i64), (.int .i64)] (fun a1 b1 c1 d1 =>
        (.br (Decidable.decide (0 ≤ i) && Decidable.decide (i < (↑(List.length (List.map Go.MW.Hb.En.pv bs)) : Int)))
         (.el (List.getD (List.map Go.MW.Hb.En.pv bs) (Int.toNat i) []) [(.int .i64), (.int .i64), .bool, (.int .i64), (.int .i64), .bool, (.int .i64), (.int .i64)] (fun a2 b2 c2 d2 =>
          (.br (Decidable.decide (a1 6 ≤ a2 6))
           (.leaf (.ret, ⟨mkF 71 [(0, (.lst (List.map Go.MW.Hb.En.pv bs) tb)), (1, (.lst (List.map Go.MW.Hb.En.pv cs) ta)), (2, (.int .i64 i)), (6, (.bool Bool.false))], []⟩))
           (.leaf (.normal, ⟨mkF 71 [(0, (.lst (List.map Go.MW.Hb.En.pv bs) tb)), (1, (.lst (List.map Go.MW.Hb.En.pv cs) ta)), (2, (.int .i64 i)), (6, (.bool Bool.false))], []⟩)))))
         .fail)))
       .fail))) := by kernel_rfl
theorem t8e (B A N K : PV) : (codeS Tryd.prog cx.E orc1 100 (Code.r (Code.r (Code.r c8))) ⟨mkF 68 [(0, B), (1, A), (6, .bool false), (39, N), (40, K)], [], []⟩).cut [6] false =
    .leaf (.ret, ⟨mkF 68 [(6, (.bool Bool.true))], []⟩) := by kernel_rfl
theorem t9e (B A C N K : PV) : (codeS Tryd.prog cx.E orc1 100 (Code.r (Code.r (Code.r c9))) ⟨mkF 71 [(0, B), (1, A), (6, .bool false), (37, C), (38, N), (39, K)], [], []⟩).cut [6] false =
    .leaf (.ret, ⟨mkF 71 [(6, (.bool Bool.true))], []⟩) := by kernel_rfl

theorem rs8 : Tryd.f8.results.toList = [.tmp 6] := by kernel_rfl
theorem rs9 : Tryd.f9.results.toList = [.tmp 6] := by kernel_rfl
theorem fin8 {fr : List PV} {H : List Blk} {b y : Bool} (h : fr.getD 6 .undef = .bool b) (e : b = y) : (Ex.ret = .normal ∨ Ex.ret = .ret) ∧ ∃ v, resOf Tryd.prog Tryd.f8 ⟨fr, H⟩ = some v ∧ Frz H v (.bool y) := by
  subst e
  exact ⟨.inr rfl, _, by simp only [resOf, rs8, resAll, resVar, h], .pure (.bool _)⟩

theorem pc8 (bs cs : List En) (tb ta : Bool) (i : Int) (hmax : bs.length ≤ 9223372036854775807) : PC Tryd.prog 8 [.lst (bs.map En.pv) tb, .lst (cs.map En.pv) ta, .int .i64 i] (.bool (better bs cs i)) := by
  refine PC.fn (fn := Tryd.f8) (c := c8) Tryd.func8 (by kernel_rfl) (.bool _) ?_
  rw [c8_eq]
  have e0 : ([PV.lst (bs.map En.pv) tb, .lst (cs.map En.pv) ta, .int .i64 i] ++ List.replicate (Tryd.f8.ntmps - [PV.lst (bs.map En.pv) tb, .lst (cs.map En.pv) ta, .int .i64 i].length) .undef) = mkF 68 [(0, .lst (bs.map En.pv) tb), (1, .lst (cs.map En.pv) ta), (2, .int .i64 i)] := by kernel_rfl
  rw [e0]
  refine .sq' (.tree cx orc1_ok [0, 1, 2, 6] false 100 (t8a ..) ?_)
  show W _ _ _ _
  refine .sq' (.tree cx orc1_ok [0, 1, 2, 6] false 100 (t8b ..) ?_)
  refine ⟨fun h1 => fin8 rfl ?_, fun h1 => ⟨fun h2 => fin8 rfl ?_, fun h2 => ⟨fun h3 => fin8 rfl ?_, fun h3 => ⟨fun h4 => ?_, fun h4 => ?_⟩⟩⟩⟩
  · have : bs.length ≠ cs.length := by simp at h1; omega
    simp [better, this]
  · simp at h1 h2; simp [better, show ¬ 0 ≤ i by omega]
  · simp at h1 h2 h3; simp [better, show ¬ i < bs.length by omega]
  · simp at h1 h2 h3 h4
    obtain ⟨m, rfl⟩ := Int.eq_ofNat_of_zero_le h2
    have hm : m < bs.length := by omega
    have hl : bs.length = cs.length := by omega
    refine ⟨_, _, fun _ => .empty, fun _ => .undef, (el_of cs m (by omega)).trans (pv_mk _ _ _), ⟨fun h5 => ⟨_, _, fun _ => .empty, fun _ => .undef, (el_of bs m hm).trans (pv_mk _ _ _), ⟨fun h6 => fin8 rfl ?_, fun h6 => ?_⟩⟩, fun h5 => ?_⟩⟩
    · have h6 : (cs.getD m default).h.v ≤ (bs.getD m default).h.v := of_decide_eq_true h6
      have : ¬ (bs.getD m default).h.v < (cs.getD m default).h.v := by omega
      unfold better
      rw [show decide ((bs.getD (m : Int).toNat default).h.v < (cs.getD (m : Int).toNat default).h.v) = false from decide_eq_false this]
      simp
    · have h6 : ¬ (cs.getD m default).h.v ≤ (bs.getD m default).h.v := of_decide_eq_false h6
      have hbet : better bs cs m = (List.range bs.length).all fun k => !badAt (bs.getD k default) (cs.getD k default) := by
        unfold better
        rw [show decide ((bs.getD (m : Int).toNat default).h.v < (cs.getD (m : Int).toNat default).h.v) = true from decide_eq_true (by show _ < _; exact Int.not_le.1 h6)]
        simp [hl, show m < cs.length by omega]
      refine .sq' (.sq' (.tree cx orc1_ok [0, 1, 6, 39, 40] false 100 (t8c ..) ?_))
      show W _ _ _ _
      refine .blk ?_
      have hpu : ∀ (N K : PV), Pu N → Pu K → ∀ i, Pu ((mkF 68 [(0, .lst (bs.map En.pv) tb), (1, .lst (cs.map En.pv) ta), (6, .bool false), (39, N), (40, K)]).getD i .undef) := fun N K hN hK => mkF_pu fun p hp => by
        simp at hp
        rcases hp with rfl | rfl | rfl | rfl | rfl
        · exact pu_list _ _
        · exact pu_list _ _
        · exact .bool _
        · exact hN
        · exact hK
      refine .loopU [0, 1, 6, 39, 40] (fun k : Nat => mkF 68 [(0, .lst (bs.map En.pv) tb), (1, .lst (cs.map En.pv) ta), (6, .bool false), (39, .int .i64 (List.length (List.map En.pv bs))), (40, .int .i64 k)])
        (fun k => k ≤ bs.length ∧ ∀ j, j < k → badAt (bs.getD j default) (cs.getD j default) = false) (fun k => bs.length - k) 0 (by kernel_rfl) ⟨Nat.zero_le _, fun j hj => by omega⟩
        (fun k _ => hpu _ _ (.int _ _) (.int _ _)) fun k ⟨hk1, hk2⟩ => ?_
      refine .tree cx orc1_ok [0, 1, 6, 39, 40] false 100 (t8l ..) ?_
      refine ⟨fun g1 => ?_, fun g1 => ?_⟩
      · have hk : k < bs.length := by simpa using g1
        have hkc : k < cs.length := by omega
        have bad1 : badAt (bs.getD k default) (cs.getD k default) = true → better bs cs m = false := fun h => by
          rw [hbet]
          exact List.all_eq_false.2 ⟨k, List.mem_range.2 hk, by rw [h]; simp⟩
        refine ⟨fun _ => ⟨_, _, fun _ => .empty, fun _ => .undef, (el_of bs k hk).trans (pv_mk _ _ _), ⟨fun _ => ⟨_, _, fun _ => .empty, fun _ => .undef, (el_of cs k hkc).trans (pv_mk _ _ _), ⟨fun b1 => ?_, fun b1 => ⟨fun _ =>
          ⟨_, _, fun _ => .empty, fun _ => .undef, (el_of bs k hk).trans (pv_mk _ _ _), ⟨fun _ => ⟨_, _, fun _ => .empty, fun _ => .undef, (el_of cs k hkc).trans (pv_mk _ _ _), ⟨fun b2 => ?_, fun b2 => ?_⟩⟩, fun h => by simp at h; omega⟩⟩, fun h => by simp at h; omega⟩⟩⟩, fun h => by simp at h; omega⟩⟩, fun h => by simp at h; omega⟩
        · exact ⟨hpu _ _ (.int _ _) (.int _ _), fin8 rfl (bad1 (badAt_s b1)).symm⟩
        · exact ⟨hpu _ _ (.int _ _) (.int _ _), fin8 rfl (bad1 (badAt_h b2)).symm⟩
        · refine ⟨k + 1, ?_, ⟨by omega, fun j hj => ?_⟩, by omega⟩
          · show mkF 68 _ = mkF 68 _
            rw [show ((k + 1 : Nat) : Int) = IntKind.i64.wrap ((k : Int) + 1) from (IntWalk.i64_in _ ⟨by omega, by omega⟩).symm]
          · by_cases e : j = k
            · subst e
              exact badAt_f b1 b2
            · exact hk2 j (by omega)
      · have hk : k = bs.length := by have : ¬ k < bs.length := by simpa using g1
                                      omega
        refine ⟨hpu _ _ (.int _ _) (.int _ _), ?_⟩
        show (if 0 = 0 then _ else _)
        rw [if_pos rfl]
        refine .tree cx orc1_ok [6] false 100 (t8e ..) ?_
        refine fin8 rfl ?_
        rw [hbet]
        symm
        refine List.all_eq_true.2 fun j hj => ?_
        rw [hk2 j (by have := List.mem_range.1 hj; omega)]; rfl
    · simp at h5; omega
  · simp at h1 h2 h3 h4; omega
end Go.MW.Hb
