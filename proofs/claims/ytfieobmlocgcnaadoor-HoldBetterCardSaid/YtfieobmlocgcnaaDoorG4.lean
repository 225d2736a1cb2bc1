/-
  Parts of the proof for HoldBetter: the specification's answer, and slices that are nil.
-/
import Derived.Test.YtfieobmlocgcnaaDoorG3
namespace Go.MW.Hb
open Go.Proofs
set_option maxRecDepth 100000

theorem fin9 {fr : List PV} {H : List Blk} {b y : Bool} (h : fr.getD 6 .undef = .bool b) (e : b = y) : (Ex.ret = .normal ∨ Ex.ret = .ret) ∧ ∃ v, resOf Tryd.prog Tryd.f9 ⟨fr, H⟩ = some v ∧ Frz H v (.bool y) := by
  subst e
  exact ⟨.inr rfl, _, by simp only [resOf, rs9, resAll, resVar, h], .pure (.bool _)⟩

theorem bad_neg (k1 : Bool) (v1 : Int) (k2 : Bool) (v2 : Int) : bad k1 v1 k2 v2 = (neg k2 v2 && !neg k1 v1) := by
  have : decide (0 ≤ v1) = !decide (v1 < 0) := by
    by_cases h : v1 < 0
    · simp [h, show ¬ 0 ≤ v1 by omega]
    · simp [h, show 0 ≤ v1 by omega]
  unfold bad neg
  rw [this]
  cases k1 <;> cases k2 <;> simp
theorem badAt_neg (b c : En) : badAt b c = ((neg (c.cb 2) (c.ca 3) && !neg (b.cb 2) (b.ca 3)) || (neg (c.cb 5) (c.ca 6) && !neg (b.cb 5) (b.ca 6))) := by
  show (bad b.s.k b.s.v c.s.k c.s.v || bad b.h.k b.h.v c.h.k c.h.v) = ((neg c.s.k c.s.v && !neg b.s.k b.s.v) || (neg c.h.k c.h.v && !neg b.h.k b.h.v))
  rw [bad_neg, bad_neg]

theorem pc9 (bs cs : List En) (tb ta : Bool) (i : Int) (hmax : bs.length ≤ 9223372036854775807) : PC Tryd.prog 9 [.lst (bs.map En.pv) tb, .lst (cs.map En.pv) ta, .int .i64 i] (.bool (better bs cs i)) := by
  refine PC.fn (fn := Tryd.f9) (c := c9) Tryd.func9 (by kernel_rfl) (.bool _) ?_
  rw [c9_eq]
  have e0 : ([PV.lst (bs.map En.pv) tb, .lst (cs.map En.pv) ta, .int .i64 i] ++ List.replicate (Tryd.f9.ntmps - [PV.lst (bs.map En.pv) tb, .lst (cs.map En.pv) ta, .int .i64 i].length) .undef) = mkF 71 [(0, .lst (bs.map En.pv) tb), (1, .lst (cs.map En.pv) ta), (2, .int .i64 i)] := by kernel_rfl
  rw [e0]
  refine .sq' (.tree cx orc1_ok [0, 1, 2, 6] false 100 (t9a ..) ?_)
  show W _ _ _ _
  refine .sq' (.tree cx orc1_ok [0, 1, 2, 6] false 100 (t9b ..) ?_)
  have hwr : IntKind.i64.wrap (((List.length (List.map En.pv bs) : Nat) : Int) - 1) = (bs.length : Int) - 1 := by
    rw [List.length_map]; exact IntWalk.i64_in _ ⟨by omega, by omega⟩
  refine ⟨fun h1 => fin9 rfl ?_, fun h1 => ⟨fun h2 => fin9 rfl ?_, fun h2 => ⟨fun h4 => ?_, fun h4 => ?_⟩⟩⟩
  · have : bs.length ≠ cs.length := by simp at h1; omega
    simp [better, this]
  · rw [hwr] at h2
    have : ¬ (0 ≤ i ∧ i < bs.length) := by simp at h2; omega
    unfold better
    by_cases hi : 0 ≤ i
    · simp [show ¬ i < bs.length by omega]
    · simp [hi]
  · rw [hwr] at h2
    simp at h1 h2 h4
    obtain ⟨m, rfl⟩ := Int.eq_ofNat_of_zero_le h4.1
    have hm : m < bs.length := by omega
    have hl : bs.length = cs.length := by omega
    refine ⟨_, _, fun _ => .empty, fun _ => .undef, (el_of cs m (by omega)).trans (pv_mk _ _ _), ⟨fun h5 => ⟨_, _, fun _ => .empty, fun _ => .undef, (el_of bs m hm).trans (pv_mk _ _ _), ⟨fun h6 => fin9 rfl ?_, fun h6 => ?_⟩⟩, fun h5 => ?_⟩⟩
    · have h6 : (cs.getD m default).h.v ≤ (bs.getD m default).h.v := of_decide_eq_true h6
      have : ¬ (bs.getD m default).h.v < (cs.getD m default).h.v := by omega
      unfold better
      rw [show decide ((bs.getD (m : Int).toNat default).h.v < (cs.getD (m : Int).toNat default).h.v) = false from decide_eq_false this]
      simp
    · have h6 : ¬ (cs.getD m default).h.v ≤ (bs.getD m default).h.v := of_decide_eq_false h6
      have hbet : better bs cs m = (List.range bs.length).all fun k => !badAt (bs.getD k default) (cs.getD k default) := by
        unfold better
        rw [show decide ((bs.getD (m : Int).toNat default).h.v < (cs.getD (m : Int).toNat default).h.v) = true from decide_eq_true (by show _ < _; exact Int.not_le.1 h6)]
        simp [hl, show m < cs.length by omega]
      refine .sq' (.sq' (.tree cx orc1_ok [0, 1, 6, 37, 38, 39] false 100 (t9c ..) ?_))
      show W _ _ _ _
      refine .blk ?_
      have hpu : ∀ (N K : PV), Pu N → Pu K → ∀ i, Pu ((mkF 71 [(0, .lst (bs.map En.pv) tb), (1, .lst (cs.map En.pv) ta), (6, .bool false), (37, .lst (cs.map En.pv) ta), (38, N), (39, K)]).getD i .undef) := fun N K hN hK => mkF_pu fun p hp => by
        simp at hp
        rcases hp with rfl | rfl | rfl | rfl | rfl | rfl
        · exact pu_list _ _
        · exact pu_list _ _
        · exact .bool _
        · exact pu_list _ _
        · exact hN
        · exact hK
      refine .loopU [0, 1, 6, 37, 38, 39] (fun k : Nat => mkF 71 [(0, .lst (bs.map En.pv) tb), (1, .lst (cs.map En.pv) ta), (6, .bool false), (37, .lst (cs.map En.pv) ta), (38, .int .i64 (List.length (List.map En.pv cs))), (39, .int .i64 k)])
        (fun k => k ≤ bs.length ∧ ∀ j, j < k → badAt (bs.getD j default) (cs.getD j default) = false) (fun k => bs.length - k) 0 (by kernel_rfl) ⟨Nat.zero_le _, fun j hj => by omega⟩
        (fun k _ => hpu _ _ (.int _ _) (.int _ _)) fun k ⟨hk1, hk2⟩ => ?_
      refine .tree cx orc1_ok [0, 1, 6, 37, 38, 39] false 100 (t9l ..) ?_
      refine ⟨fun g1 => ?_, fun g1 => ?_⟩
      · have hkc : k < cs.length := by simpa using g1
        have hk : k < bs.length := by omega
        have bad1 : badAt (bs.getD k default) (cs.getD k default) = true → better bs cs m = false := fun h => by
          rw [hbet]
          exact List.all_eq_false.2 ⟨k, List.mem_range.2 hk, by rw [h]; simp⟩
        have next : ∀ (H : List Blk), badAt (bs.getD k default) (cs.getD k default) = false → ∃ a' : Nat, mkF 71 [(0, .lst (bs.map En.pv) tb), (1, .lst (cs.map En.pv) ta), (6, .bool false), (37, .lst (cs.map En.pv) ta), (38, .int .i64 (List.length (List.map En.pv cs))), (39, .int .i64 (IntKind.i64.wrap ((k : Int) + 1)))] =
            mkF 71 [(0, .lst (bs.map En.pv) tb), (1, .lst (cs.map En.pv) ta), (6, .bool false), (37, .lst (cs.map En.pv) ta), (38, .int .i64 (List.length (List.map En.pv cs))), (39, .int .i64 a')] ∧ (a' ≤ bs.length ∧ ∀ j, j < a' → badAt (bs.getD j default) (cs.getD j default) = false) ∧ bs.length - a' < bs.length - k := fun _ hb => by
          refine ⟨k + 1, ?_, ⟨by omega, fun j hj => ?_⟩, by omega⟩
          · rw [show ((k + 1 : Nat) : Int) = IntKind.i64.wrap ((k : Int) + 1) from (IntWalk.i64_in _ ⟨by omega, by omega⟩).symm]
          · by_cases e : j = k
            · subst e; exact hb
            · exact hk2 j (by omega)
        refine ⟨fun _ => ⟨_, _, fun _ => .empty, fun _ => .undef, (el_of cs k hkc).trans (pv_mk _ _ _), ⟨fun b1 => ⟨fun _ => ⟨_, _, fun _ => .empty, fun _ => .undef, (el_of bs k hk).trans (pv_mk _ _ _), ⟨fun b2 => ?_, fun b2 => ⟨fun b3 => ⟨fun _ =>
          ⟨_, _, fun _ => .empty, fun _ => .undef, (el_of bs k hk).trans (pv_mk _ _ _), ⟨fun b4 => ?_, fun b4 => ?_⟩⟩, fun h => by simp at h; omega⟩, fun b3 => ?_⟩⟩⟩, fun h => by simp at h; omega⟩,
          fun b1 => ⟨fun b3 => ⟨fun _ => ⟨_, _, fun _ => .empty, fun _ => .undef, (el_of bs k hk).trans (pv_mk _ _ _), ⟨fun b4 => ?_, fun b4 => ?_⟩⟩, fun h => by simp at h; omega⟩, fun b3 => ?_⟩⟩⟩, fun h => by simp at h; omega⟩
        · exact ⟨hpu _ _ (.int _ _) (.int _ _), fin9 rfl (bad1 (by rw [badAt_neg, b1, b2]; rfl)).symm⟩
        · exact ⟨hpu _ _ (.int _ _) (.int _ _), fin9 rfl (bad1 (by rw [badAt_neg, b3, b4]; simp)).symm⟩
        · exact next [] (by rw [badAt_neg, b2, b4]; simp)
        · exact next [] (by rw [badAt_neg, b2, b3]; simp)
        · exact ⟨hpu _ _ (.int _ _) (.int _ _), fin9 rfl (bad1 (by rw [badAt_neg, b3, b4]; simp)).symm⟩
        · exact next [] (by rw [badAt_neg, b1, b4]; simp)
        · exact next [] (by rw [badAt_neg, b1, b3]; simp)
      · have hk : k = bs.length := by have : ¬ k < cs.length := by simpa using g1
                                      omega
        refine ⟨hpu _ _ (.int _ _) (.int _ _), ?_⟩
        show (if 0 = 0 then _ else _)
        rw [if_pos rfl]
        refine .tree cx orc1_ok [6] false 100 (t9e ..) ?_
        refine fin9 rfl ?_
        rw [hbet]
        symm
        refine List.all_eq_true.2 fun j hj => ?_
        rw [hk2 j (by have := List.mem_range.1 hj; omega)]; rfl
    · simp at h5; omega
  · rw [hwr] at h2
    simp at h1 h2 h4; omega

theorem t8n1 (cs : List En) (ta : Bool) (i : Int) : funS Tryd.prog cx.E orc1 100 8 [.nils, .lst (cs.map En.pv) ta, .int .i64 i] =
    (.br (0 != (↑(List.length (List.map Go.MW.Hb.En.pv cs)) : Int))
     (.leaf (.bool Bool.false))
     (.br (Decidable.decide (i < 0))
      (.leaf (.bool Bool.false))
      (.br (Decidable.decide (0 ≤ i))
       (.leaf (.bool Bool.false))
       (.br (Decidable.decide (0 ≤ i) && Decidable.decide (i < (↑(List.length (List.map Go.MW.Hb.En.pv cs)) : Int)))
        (.el (List.getD (List.map Go.MW.Hb.En.pv cs) (Int.toNat i) []) [(.int .i64), (.int .i64), .bool, (.int .i64), (.int .i64), .bool, (.int .i64), (.int .i64)] (fun a1 b1 c1 d1 =>
         .fail))
        .fail)))) := by kernel_rfl
theorem t8n2 (cs : List En) (ta : Bool) (i : Int) : funS Tryd.prog cx.E orc1 100 8 [.lst (cs.map En.pv) ta, .nils, .int .i64 i] =
    (.br ((↑(List.length (List.map Go.MW.Hb.En.pv cs)) : Int) != 0)
     (.leaf (.bool Bool.false))
     (.br (Decidable.decide (i < 0))
      (.leaf (.bool Bool.false))
      (.br (Decidable.decide ((↑(List.length (List.map Go.MW.Hb.En.pv cs)) : Int) ≤ i))
       (.leaf (.bool Bool.false))
       .fail))) := by kernel_rfl
theorem t8n3 (i : Int) : funS Tryd.prog cx.E orc1 100 8 [.nils, .nils, .int .i64 i] =
    (.br (Bool.false)
     (.leaf (.bool Bool.false))
     (.br (Decidable.decide (i < 0))
      (.leaf (.bool Bool.false))
      (.br (Decidable.decide (0 ≤ i))
       (.leaf (.bool Bool.false))
       .fail))) := by kernel_rfl
theorem t9n1 (cs : List En) (ta : Bool) (i : Int) : funS Tryd.prog cx.E orc1 100 9 [.nils, .lst (cs.map En.pv) ta, .int .i64 i] =
    (.br (0 != (↑(List.length (List.map Go.MW.Hb.En.pv cs)) : Int))
     (.leaf (.bool Bool.false))
     (.br (!(Decidable.decide (0 ≤ i) && Decidable.decide (i ≤ Go.IntKind.wrap Go.IntKind.i64 (0 - 1))))
      (.leaf (.bool Bool.false))
      (.br (Decidable.decide (0 ≤ i) && Decidable.decide (i < (↑(List.length (List.map Go.MW.Hb.En.pv cs)) : Int)))
       (.el (List.getD (List.map Go.MW.Hb.En.pv cs) (Int.toNat i) []) [(.int .i64), (.int .i64), .bool, (.int .i64), (.int .i64), .bool, (.int .i64), (.int .i64)] (fun a1 b1 c1 d1 =>
        .fail))
       .fail))) := by kernel_rfl
theorem t9n2 (cs : List En) (ta : Bool) (i : Int) : funS Tryd.prog cx.E orc1 100 9 [.lst (cs.map En.pv) ta, .nils, .int .i64 i] =
    (.br ((↑(List.length (List.map Go.MW.Hb.En.pv cs)) : Int) != 0)
     (.leaf (.bool Bool.false))
     (.br (!(Decidable.decide (0 ≤ i) &&
    Decidable.decide (i ≤ Go.IntKind.wrap Go.IntKind.i64 ((↑(List.length (List.map Go.MW.Hb.En.pv cs)) : Int) - 1))))
      (.leaf (.bool Bool.false))
      .fail)) := by kernel_rfl
theorem t9n3 (i : Int) : funS Tryd.prog cx.E orc1 100 9 [.nils, .nils, .int .i64 i] =
    (.br (Bool.false)
     (.leaf (.bool Bool.false))
     (.br (!(Decidable.decide (0 ≤ i) && Decidable.decide (i ≤ Go.IntKind.wrap Go.IntKind.i64 (0 - 1))))
      (.leaf (.bool Bool.false))
      .fail)) := by kernel_rfl
end Go.MW.Hb
