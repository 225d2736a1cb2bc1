/-
  Parts of the proof about layouts: what the small functions answer.
-/
import Derived.Test.YtemgdpnkhknhlaaR1
namespace Go.MW.Rc
open Go.Proofs
set_option maxRecDepth 100000

theorem t18 (n l h : Int) : funS Try.prog cx.E orcN {} 100 18 [.int .i64 n, .int .i64 l, .int .i64 h] =
    .br (decide (l ≤ n)) (.leaf (.bool (decide (n ≤ h)))) (.leaf (.bool false)) := by kernel_rfl
theorem t20 (n l h : Int) : funS Try.prog cx.E orcN {} 100 20 [.int .i64 n, .int .i64 l, .int .i64 h] =
    .br (decide (l ≤ n)) (.leaf (.bool (decide (n ≤ h)))) (.leaf (.bool false)) := by kernel_rfl
theorem t21 (a b c d w h : Int) : funS Try.prog cx.E orcN {} 100 21 [.int .i64 a, .int .i64 b, .int .i64 c, .int .i64 d, .int .i64 w, .int .i64 h] =
    .br (decide (0 ≤ a)) (.br (decide (a ≤ c)) (.br (decide (c < w)) (.br (decide (0 ≤ b)) (.br (decide (b ≤ d)) (.leaf (.bool (decide (d < h)))) (.leaf (.bool false))) (.leaf (.bool false))) (.leaf (.bool false))) (.leaf (.bool false))) (.leaf (.bool false)) := by kernel_rfl

theorem pc18 (n l h : Int) : PC Try.prog 18 [.int .i64 n, .int .i64 l, .int .i64 h] (.bool (inn n l h)) := by
  refine PC.tree cx orcN_ok 100 (t18 ..) ?_
  by_cases h1 : l ≤ n <;> simp [Tr.sat, h1, inn]
theorem pc20 (n l h : Int) : PC Try.prog 20 [.int .i64 n, .int .i64 l, .int .i64 h] (.bool (inn n l h)) := by
  refine PC.tree cx orcN_ok 100 (t20 ..) ?_
  by_cases h1 : l ≤ n <;> simp [Tr.sat, h1, inn]
theorem pc21 (a b c d w h : Int) : PC Try.prog 21 [.int .i64 a, .int .i64 b, .int .i64 c, .int .i64 d, .int .i64 w, .int .i64 h] (.bool (decide (0 ≤ a) && decide (a ≤ c) && decide (c < w) && decide (0 ≤ b) && decide (b ≤ d) && decide (d < h))) := by
  refine PC.tree cx orcN_ok 100 (t21 ..) ?_
  by_cases h1 : 0 ≤ a <;> by_cases h2 : a ≤ c <;> by_cases h3 : c < w <;> by_cases h4 : 0 ≤ b <;> by_cases h5 : b ≤ d <;> simp [Tr.sat, h1, h2, h3, h4, h5]

theorem orc0_ok : OrcS Try.prog orc0 := by
  intro f args H v H' h
  unfold orc0 at h
  split at h
  · simp at h; obtain ⟨rfl, rfl⟩ := h; exact (pc18 _ _ _).call puL _
  · simp at h; obtain ⟨rfl, rfl⟩ := h; exact (pc20 _ _ _).call puL _
  · simp at h; obtain ⟨rfl, rfl⟩ := h; exact (pc21 _ _ _ _ _ _).call puL _
  · cases h

theorem t19 (l : Lay) (x : Wi) : funS Try.prog cx.E orc0 {} 100 19 [.agg l.pv, .agg x.pv] =
    (.br (!inn (Wi.net x) 0 (IntKind.wrap IntKind.i64 (Lay.nets l - 1)))
     (.leaf (.int .i64 (7)))
     (.br (!inn (Wi.layer x) 0 (IntKind.wrap IntKind.i64 (Lay.layers l - 1)))
      (.leaf (.int .i64 (2)))
      (.br (!inn (Wi.x0 x) 0 (IntKind.wrap IntKind.i64 (Lay.w l - 1)))
       (.leaf (.int .i64 (2)))
       (.br (!inn (Wi.y0 x) 0 (IntKind.wrap IntKind.i64 (Lay.h l - 1)))
        (.leaf (.int .i64 (2)))
        (.br (!inn (Wi.x1 x) (Wi.x0 x) (IntKind.wrap IntKind.i64 (Lay.w l - 1)))
         (.leaf (.int .i64 (2)))
         (.br (!inn (Wi.y1 x) (Wi.y0 x) (IntKind.wrap IntKind.i64 (Lay.h l - 1)))
          (.leaf (.int .i64 (2)))
          (.br (Int.tmod (Wi.layer x) 2 == 0)
           (.br (Wi.y0 x != Wi.y1 x)
            (.leaf (.int .i64 (4)))
            (.br (Int.tmod (Wi.layer x) 2 == 1)
             (.br (Wi.x0 x != Wi.x1 x)
              (.leaf (.int .i64 (4)))
              (.leaf (.int .i64 (0))))
             (.leaf (.int .i64 (0)))))
           (.br (Int.tmod (Wi.layer x) 2 == 1)
            (.br (Wi.x0 x != Wi.x1 x)
             (.leaf (.int .i64 (4)))
             (.leaf (.int .i64 (0))))
            (.leaf (.int .i64 (0))))))))))) := by kernel_rfl

theorem head_of {l : Lay} (h : l.head = true) : (1 ≤ l.w ∧ l.w ≤ 512) ∧ (1 ≤ l.h ∧ l.h ≤ 512) ∧ (1 ≤ l.layers ∧ l.layers ≤ 6) ∧ (0 ≤ l.nets ∧ l.nets ≤ 700) := by
  simp [Lay.head, inn] at h
  omega
theorem wraps {l : Lay} (h : l.head = true) : IntKind.wrap .i64 (l.w - 1) = l.w - 1 ∧ IntKind.wrap .i64 (l.h - 1) = l.h - 1 ∧ IntKind.wrap .i64 (l.layers - 1) = l.layers - 1 ∧ IntKind.wrap .i64 (l.layers - 2) = l.layers - 2 ∧ IntKind.wrap .i64 (l.nets - 1) = l.nets - 1 := by
  have := head_of h
  exact ⟨wr_in (by omega), wr_in (by omega), wr_in (by omega), wr_in (by omega), wr_in (by omega)⟩

theorem pc19 {l : Lay} (h : l.head = true) (x : Wi) : PC Try.prog 19 [.agg l.pv, .agg x.pv] (.int .i64 (x.code l)) := by
  refine PC.tree cx orc0_ok 100 (t19 ..) ?_
  obtain ⟨e1, e2, e3, _, e5⟩ := wraps h
  rw [e1, e2, e3, e5]
  unfold Wi.code
  repeat' refine Tr.sat.br (fun _ => ?_) (fun _ => ?_)
  all_goals refine Tr.sat.leaf ?_
  all_goals simp_all
end Go.MW.Rc
