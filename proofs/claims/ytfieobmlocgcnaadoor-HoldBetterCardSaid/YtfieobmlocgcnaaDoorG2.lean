/-
  Parts of the proof for HoldBetter: the ways of the small functions and of the loops' rounds.
-/
import Derived.Test.YtfieobmlocgcnaaDoorG1
namespace Go.MW.Hb
open Go.Proofs
set_option maxRecDepth 100000

theorem t28 (k1 k2 : Bool) (v1 v2 f1 f2 : Int) : funS Tryd.prog cx.E orc0 100 28 [slk k1 v1 f1, slk k2 v2 f2] =
    (.br (k2)
     (.br (Decidable.decide (v2 < 0))
      (.br (!k1)
       (.leaf (.bool Bool.true))
       (.leaf (.bool (Decidable.decide (0 ≤ v1)))))
      (.leaf (.bool Bool.false)))
     (.leaf (.bool Bool.false))) := by kernel_rfl
theorem t29 (k1 : Bool) (v1 f1 : Int) : funS Tryd.prog cx.E orc0 100 29 [slk k1 v1 f1] =
    (.br (k1)
     (.leaf (.bool (Decidable.decide (v1 < 0))))
     (.leaf (.bool Bool.false))) := by kernel_rfl
theorem t14 (n l h : Int) : funS Tryd.prog cx.E orc0 100 14 [.int .i64 n, .int .i64 l, .int .i64 h] =
    (.br (Decidable.decide (l ≤ n))
     (.leaf (.bool (Decidable.decide (n ≤ h))))
     (.leaf (.bool Bool.false))) := by kernel_rfl

theorem pc28 (k1 : Bool) (v1 f1 : Int) (k2 : Bool) (v2 f2 : Int) : PC Tryd.prog 28 [slk k1 v1 f1, slk k2 v2 f2] (.bool (bad k1 v1 k2 v2)) := by
  refine PC.tree cx orc0_ok 100 (t28 ..) ?_
  cases k1 <;> cases k2 <;> by_cases h : v2 < 0 <;> simp [Tr.sat, bad, h]
theorem pc29 (k : Bool) (v f : Int) : PC Tryd.prog 29 [slk k v f] (.bool (neg k v)) := by
  refine PC.tree cx orc0_ok 100 (t29 ..) ?_
  cases k <;> simp [Tr.sat, neg]
theorem pc14 (n l h : Int) : PC Tryd.prog 14 [.int .i64 n, .int .i64 l, .int .i64 h] (.bool (decide (l ≤ n) && decide (n ≤ h))) := by
  refine PC.tree cx orc0_ok 100 (t14 ..) ?_
  by_cases h1 : l ≤ n <;> simp [Tr.sat, h1]

theorem orc1_ok : OrcS Tryd.prog orc1 := by
  intro f args H v H' h
  unfold orc1 at h
  split at h
  · simp at h; obtain ⟨rfl, rfl⟩ := h
    exact (pc28 _ _ _ _ _ _).call (fun x hx => by simp [slk] at hx; rcases hx with rfl | rfl <;> exact isPu_snd 5 _ rfl) _
  · simp at h; obtain ⟨rfl, rfl⟩ := h
    exact (pc29 _ _ _).call (fun x hx => by simp [slk] at hx; rcases hx with rfl; exact isPu_snd 5 _ rfl) _
  · simp at h; obtain ⟨rfl, rfl⟩ := h
    exact (pc14 _ _ _).call (fun x hx => by simp at hx; rcases hx with rfl | rfl | rfl <;> exact isPu_snd 5 _ rfl) _
  · cases h

theorem t8b (bs cs : List En) (tb ta : Bool) (i : Int) : (codeS Tryd.prog cx.E orc1 100 (Code.l (Code.r c8)) ⟨mkF 68 [(0, .lst (bs.map En.pv) tb), (1, .lst (cs.map En.pv) ta), (2, .int .i64 i), (6, .bool false)], [], []⟩).cut [0, 1, 2, 6] false =
    (.br ((↑(List.length (List.map Go.MW.Hb.En.pv bs)) : Int) != (↑(List.length (List.map Go.MW.Hb.En.pv cs)) : Int))
     (.leaf (.ret, ⟨mkF 68 [(0, (.lst (List.map Go.MW.Hb.En.pv bs) tb)), (1, (.lst (List.map Go.MW.Hb.En.pv cs) ta)), (2, (.int .i64 i)), (6, (.bool Bool.false))], []⟩))
     (.br (Decidable.decide (i < 0))
      (.leaf (.ret, ⟨mkF 68 [(0, (.lst (List.map Go.MW.Hb.En.pv bs) tb)), (1, (.lst (List.map Go.MW.Hb.En.pv cs) ta)), (2, (.int .i64 i)), (6, (.bool Bool.false))], []⟩))
      (.br (Decidable.decide ((↑(List.length (List.map Go.MW.Hb.En.pv bs)) : Int) ≤ i))
       (.leaf (.ret, ⟨mkF 68 [(0, (.lst (List.map Go.MW.Hb.En.pv bs) tb)), (1, (.lst (List.map Go.MW.Hb.En.pv cs) ta)), (2, (.int .i64 i)), (6, (.bool Bool.false))], []⟩))
       (.br (Decidable.decide (0 ≤ i) && Decidable.decide (i < (↑(List.length (List.map Go.MW.Hb.En.pv cs)) : Int)))
        (.el (List.getD (List.map Go.MW.Hb.En.pv cs) (Int.toNat i) []) [(.int .i64), (.int .i64), .bool, (.int .i64), (.int .i64), .bool, (.int .i64), (.int .i64)] (fun a1 b1 c1 d1 =>
         (.br (Decidable.decide (0 ≤ i) && Decidable.decide (i < (↑(List.length (List.map Go.MW.Hb.En.pv bs)) : Int)))
          (.el (List.getD (List.map Go.MW.Hb.En.pv bs) (Int.toNat i) []) [(.int .i64), (.int .i64), .bool, (.int .i64), (.int .i64), .bool, (.int .i64), (.int .i64)] (fun a2 b2 c2 d2 =>
           (.br (Decidable.decide (a1 6 ≤ a2 6))
            (.leaf (.ret, ⟨mkF 68 [(0, (.lst (List.map Go.MW.Hb.En.pv bs) tb)), (1, (.lst (List.map Go.MW.Hb.En.pv cs) ta)), (2, (.int .i64 i)), (6, (.bool Bool.false))], []⟩))
            (.leaf (.normal, ⟨mkF 68 [(0, (.lst (List.map Go.MW.Hb.En.pv bs) tb)), (1, (.lst (List.map Go.MW.Hb.En.pv cs) ta)), (2, (.int .i64 i)), (6, (.bool Bool.false))], []⟩)))))
          .fail)))
        .fail)))) := by kernel_rfl
theorem t8l (bs cs : List En) (tb ta : Bool) (n k : Int) : (codeS Tryd.prog cx.E orc1 100 (Code.i (Code.i (Code.r (Code.l (Code.r (Code.r c8)))))) ⟨mkF 68 [(0, .lst (bs.map En.pv) tb), (1, .lst (cs.map En.pv) ta), (6, .bool false), (39, .int .i64 n), (40, .int .i64 k)], [], []⟩).cut [0, 1, 6, 39, 40] false =
    (.br (Decidable.decide (k < n))
     (.br (Decidable.decide (0 ≤ k) && Decidable.decide (k < (↑(List.length (List.map Go.MW.Hb.En.pv bs)) : Int)))
      (.el (List.getD (List.map Go.MW.Hb.En.pv bs) (Int.toNat k) []) [(.int .i64), (.int .i64), .bool, (.int .i64), (.int .i64), .bool, (.int .i64), (.int .i64)] (fun a1 b1 c1 d1 =>
       (.br (Decidable.decide (0 ≤ k) && Decidable.decide (k < (↑(List.length (List.map Go.MW.Hb.En.pv cs)) : Int)))
        (.el (List.getD (List.map Go.MW.Hb.En.pv cs) (Int.toNat k) []) [(.int .i64), (.int .i64), .bool, (.int .i64), (.int .i64), .bool, (.int .i64), (.int .i64)] (fun a2 b2 c2 d2 =>
         (.br (Go.MW.Hb.bad (b1 2) (a1 3) (b2 2) (a2 3))
          (.leaf (.ret, ⟨mkF 68 [(0, (.lst (List.map Go.MW.Hb.En.pv bs) tb)), (1, (.lst (List.map Go.MW.Hb.En.pv cs) ta)), (6, (.bool Bool.false)), (39, (.int .i64 n)), (40, (.int .i64 k))], []⟩))
          (.br (Decidable.decide (0 ≤ k) && Decidable.decide (k < (↑(List.length (List.map Go.MW.Hb.En.pv bs)) : Int)))
           (.el (List.getD (List.map Go.MW.Hb.En.pv bs) (Int.toNat k) []) [(.int .i64), (.int .i64), .bool, (.int .i64), (.int .i64), .bool, (.int .i64), (.int .i64)] (fun a3 b3 c3 d3 =>
            (.br (Decidable.decide (0 ≤ k) && Decidable.decide (k < (↑(List.length (List.map Go.MW.Hb.En.pv cs)) : Int)))
             (.el (List.getD (List.map Go.MW.Hb.En.pv cs) (Int.toNat k) []) [(.int .i64), (.int .i64), .bool, (.int .i64), (.int .i64), .bool, (.int .i64), (.int .i64)] (fun a4 b4 c4 d4 =>
              (.br (Go.MW.Hb.bad (b3 5) (a3 6) (b4 5) (a4 6))
               (.leaf (.ret, ⟨mkF 68 [(0, (.lst (List.map Go.MW.Hb.En.pv bs) tb)), (1, (.lst (List.map Go.MW.Hb.En.pv cs) ta)), (6, (.bool Bool.false)), (39, (.int .i64 n)), (40, (.int .i64 k))], []⟩))
               (.leaf (.normal, ⟨mkF 68 [(0, (.lst (List.map Go.MW.Hb.En.pv bs) tb)), (1, (.lst (List.map Go.MW.Hb.En.pv cs) ta)), (6, (.bool Bool.false)), (39, (.int .i64 n)), (40, (.int .i64 (Go.IntKind.wrap Go.IntKind.i64 (k + 1))))], []⟩)))))
             .fail)))
           .fail))))
        .fail)))
      .fail)
     (.leaf ((.exit (0)), ⟨mkF 68 [(0, (.lst (List.map Go.MW.Hb.En.pv bs) tb)), (1, (.lst (List.map Go.MW.Hb.En.pv cs) ta)), (6, (.bool Bool.false)), (39, (.int .i64 n)), (40, (.int .i64 k))], []⟩))) := by kernel_rfl
theorem t9l (bs cs : List En) (tb ta : Bool) (n k : Int) : (codeS Tryd.prog cx.E orc1 100 (Code.i (Code.i (Code.r (Code.l (Code.r (Code.r c9)))))) ⟨mkF 71 [(0, .lst (bs.map En.pv) tb), (1, .lst (cs.map En.pv) ta), (6, .bool false), (37, .lst (cs.map En.pv) ta), (38, .int .i64 n), (39, .int .i64 k)], [], []⟩).cut [0, 1, 6, 37, 38, 39] false =
    (.br (Decidable.decide (k < n))
     (.br (Decidable.decide (0 ≤ k) && Decidable.decide (k < (↑(List.length (List.map Go.MW.Hb.En.pv cs)) : Int)))
      (.el (List.getD (List.map Go.MW.Hb.En.pv cs) (Int.toNat k) []) [(.int .i64), (.int .i64), .bool, (.int .i64), (.int .i64), .bool, (.int .i64), (.int .i64)] (fun a1 b1 c1 d1 =>
       (.br (Go.MW.Hb.neg (b1 2) (a1 3))
        (.br (Decidable.decide (0 ≤ k) && Decidable.decide (k < (↑(List.length (List.map Go.MW.Hb.En.pv bs)) : Int)))
         (.el (List.getD (List.map Go.MW.Hb.En.pv bs) (Int.toNat k) []) [(.int .i64), (.int .i64), .bool, (.int .i64), (.int .i64), .bool, (.int .i64), (.int .i64)] (fun a2 b2 c2 d2 =>
          (.br (!Go.MW.Hb.neg (b2 2) (a2 3))
           (.leaf (.ret, ⟨mkF 71 [(0, (.lst (List.map Go.MW.Hb.En.pv bs) tb)), (1, (.lst (List.map Go.MW.Hb.En.pv cs) ta)), (6, (.bool Bool.false)), (37, (.lst (List.map Go.MW.Hb.En.pv cs) ta)), (38, (.int .i64 n)), (39, (.int .i64 k))], [Go.MW.Blk.dead]⟩))
           (.br (Go.MW.Hb.neg (b1 5) (a1 6))
            (.br (Decidable.decide (0 ≤ k) && Decidable.decide (k < (↑(List.length (List.map Go.MW.Hb.En.pv bs)) : Int)))
             (.el (List.getD (List.map Go.MW.Hb.En.pv bs) (Int.toNat k) []) [(.int .i64), (.int .i64), .bool, (.int .i64), (.int .i64), .bool, (.int .i64), (.int .i64)] (fun a3 b3 c3 d3 =>
              (.br (!Go.MW.Hb.neg (b3 5) (a3 6))
               (.leaf (.ret, ⟨mkF 71 [(0, (.lst (List.map Go.MW.Hb.En.pv bs) tb)), (1, (.lst (List.map Go.MW.Hb.En.pv cs) ta)), (6, (.bool Bool.false)), (37, (.lst (List.map Go.MW.Hb.En.pv cs) ta)), (38, (.int .i64 n)), (39, (.int .i64 k))], [Go.MW.Blk.dead]⟩))
               (.leaf (.normal, ⟨mkF 71 [(0, (.lst (List.map Go.MW.Hb.En.pv bs) tb)), (1, (.lst (List.map Go.MW.Hb.En.pv cs) ta)), (6, (.bool Bool.false)), (37, (.lst (List.map Go.MW.Hb.En.pv cs) ta)), (38, (.int .i64 n)), (39, (.int .i64 (Go.IntKind.wrap Go.IntKind.i64 (k + 1))))], [Go.MW.Blk.dead]⟩)))))
             .fail)
            (.leaf (.normal, ⟨mkF 71 [(0, (.lst (List.map Go.MW.Hb.En.pv bs) tb)), (1, (.lst (List.map Go.MW.Hb.En.pv cs) ta)), (6, (.bool Bool.false)), (37, (.lst (List.map Go.MW.Hb.En.pv cs) ta)), (38, (.int .i64 n)), (39, (.int .i64 (Go.IntKind.wrap Go.IntKind.i64 (k + 1))))], [Go.MW.Blk.dead]⟩))))))
         .fail)
        (.br (Go.MW.Hb.neg (b1 5) (a1 6))
         (.br (Decidable.decide (0 ≤ k) && Decidable.decide (k < (↑(List.length (List.map Go.MW.Hb.En.pv bs)) : Int)))
          (.el (List.getD (List.map Go.MW.Hb.En.pv bs) (Int.toNat k) []) [(.int .i64), (.int .i64), .bool, (.int .i64), (.int .i64), .bool, (.int .i64), (.int .i64)] (fun a4 b4 c4 d4 =>
           (.br (!Go.MW.Hb.neg (b4 5) (a4 6))
            (.leaf (.ret, ⟨mkF 71 [(0, (.lst (List.map Go.MW.Hb.En.pv bs) tb)), (1, (.lst (List.map Go.MW.Hb.En.pv cs) ta)), (6, (.bool Bool.false)), (37, (.lst (List.map Go.MW.Hb.En.pv cs) ta)), (38, (.int .i64 n)), (39, (.int .i64 k))], [Go.MW.Blk.dead]⟩))
            (.leaf (.normal, ⟨mkF 71 [(0, (.lst (List.map Go.MW.Hb.En.pv bs) tb)), (1, (.lst (List.map Go.MW.Hb.En.pv cs) ta)), (6, (.bool Bool.false)), (37, (.lst (List.map Go.MW.Hb.En.pv cs) ta)), (38, (.int .i64 n)), (39, (.int .i64 (Go.IntKind.wrap Go.IntKind.i64 (k + 1))))], [Go.MW.Blk.dead]⟩)))))
          .fail)
         (.leaf (.normal, ⟨mkF 71 [(0, (.lst (List.map Go.MW.Hb.En.pv bs) tb)), (1, (.lst (List.map Go.MW.Hb.En.pv cs) ta)), (6, (.bool Bool.false)), (37, (.lst (List.map Go.MW.Hb.En.pv cs) ta)), (38, (.int .i64 n)), (39, (.int .i64 (Go.IntKind.wrap Go.IntKind.i64 (k + 1))))], [Go.MW.Blk.dead]⟩))))))
      .fail)
     (.leaf ((.exit (0)), ⟨mkF 71 [(0, (.lst (List.map Go.MW.Hb.En.pv bs) tb)), (1, (.lst (List.map Go.MW.Hb.En.pv cs) ta)), (6, (.bool Bool.false)), (37, (.lst (List.map Go.MW.Hb.En.pv cs) ta)), (38, (.int .i64 n)), (39, (.int .i64 k))], []⟩))) := by kernel_rfl
end Go.MW.Hb
