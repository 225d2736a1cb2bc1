/-
  Parts of the proof for HoldBetter: the guard, run by the kernel, and the law itself.
-/
import Derived.Test.YtfieobmlocgcnaaDoorG4
namespace Go.MW.Hb
open Go.Proofs
set_option maxRecDepth 100000

theorem pc7 : PC Tryd.prog 7 [] (.bool true) := PC.den cx (base := orc0) orc0_ok 20 (by kernel_rfl)

def RL (p : PV) (l : List En) : Prop := (p = .nils ∧ l = []) ∨ ∃ t, p = .lst (l.map En.pv) t
theorem RL.pu {p : PV} {l : List En} (h : RL p l) : Pu p := by
  rcases h with ⟨rfl, _⟩ | ⟨t, rfl⟩
  · exact .nils
  · exact pu_list _ _

theorem better_nil1 (cs : List En) (i : Int) : better [] cs i = false := by
  unfold better
  by_cases h : 0 ≤ i
  · simp [show ¬ i < 0 by omega]
  · simp [h]
theorem better_nil2 (bs : List En) (i : Int) : better bs [] i = false := by
  unfold better
  cases bs with
  | nil => exact better_nil1 [] i
  | cons b bs => simp

theorem pc8' {p q : PV} {bs cs : List En} (hp : RL p bs) (hq : RL q cs) (i : Int) (hmax : bs.length ≤ 9223372036854775807) : PC Tryd.prog 8 [p, q, .int .i64 i] (.bool (better bs cs i)) := by
  rcases hp with ⟨rfl, rfl⟩ | ⟨tb, rfl⟩ <;> rcases hq with ⟨rfl, rfl⟩ | ⟨ta, rfl⟩
  · rw [better_nil1]
    refine PC.tree cx orc1_ok 100 (t8n3 ..) ?_
    refine ⟨fun _ => rfl, fun _ => ⟨fun _ => rfl, fun h1 => ⟨fun _ => rfl, fun h2 => ?_⟩⟩⟩
    simp at h1 h2; omega
  · rw [better_nil1]
    refine PC.tree cx orc1_ok 100 (t8n1 ..) ?_
    refine ⟨fun _ => rfl, fun _ => ⟨fun _ => rfl, fun h1 => ⟨fun _ => rfl, fun h2 => ?_⟩⟩⟩
    simp at h1 h2; omega
  · rw [better_nil2]
    refine PC.tree cx orc1_ok 100 (t8n2 ..) ?_
    refine ⟨fun _ => rfl, fun h0 => ⟨fun _ => rfl, fun h1 => ⟨fun _ => rfl, fun h2 => ?_⟩⟩⟩
    simp at h0 h1 h2
    subst h0; simp at h2; omega
  · exact pc8 _ _ _ _ _ hmax

theorem pc9' {p q : PV} {bs cs : List En} (hp : RL p bs) (hq : RL q cs) (i : Int) (hmax : bs.length ≤ 9223372036854775807) : PC Tryd.prog 9 [p, q, .int .i64 i] (.bool (better bs cs i)) := by
  have hw1 : IntKind.i64.wrap (-1) = -1 := IntWalk.i64_in _ ⟨by omega, by omega⟩
  rcases hp with ⟨rfl, rfl⟩ | ⟨tb, rfl⟩ <;> rcases hq with ⟨rfl, rfl⟩ | ⟨ta, rfl⟩
  · rw [better_nil1]
    refine PC.tree cx orc1_ok 100 (t9n3 ..) ?_
    simp [Tr.sat, hw1]; try omega
  · rw [better_nil1]
    refine PC.tree cx orc1_ok 100 (t9n1 ..) ?_
    simp [Tr.sat, hw1]; try omega
  · rw [better_nil2]
    refine PC.tree cx orc1_ok 100 (t9n2 ..) ?_
    simp [Tr.sat]
    rintro rfl
    simp [hw1]; try omega
  · exact pc9 _ _ _ _ _ hmax

noncomputable def c3 : Code := Tryd.f3.body.getD .skip
noncomputable def ops3 : Array Oper := match Code.l (Code.r c3) with
  | .region _ o _ => o
  | _ => #[]
noncomputable def op3 (k : Nat) : Oper := ops3[k]!
theorem ops3_eq : ops3.toList = [op3 0, op3 1, op3 2, op3 3, op3 4, op3 5, op3 6, op3 7, op3 8, op3 9, op3 10, op3 11, op3 12] := by kernel_rfl
theorem rs3 : Tryd.f3.results.toList = [.tmp 6] := by kernel_rfl

theorem pc3 {p q : PV} {bs cs : List En} (hp : RL p bs) (hq : RL q cs) (i : Int) (hmax : bs.length ≤ 9223372036854775807) : PC Tryd.prog 3 [p, q, .int .i64 i] (.bool true) := by
  have hpu : ∀ x ∈ [p, q, PV.int .i64 i], Pu x := fun x hx => by
    simp at hx
    rcases hx with rfl | rfl | rfl
    · exact hp.pu
    · exact hq.pu
    · exact .int _ _
  have h8 := fun H => (pc8' hp hq i hmax).call hpu H
  have h9 := fun H => (pc9' hp hq i hmax).call hpu H
  have h7 := fun H => pc7.call (fun x hx => by simp at hx) H
  generalize better bs cs i = b at h8 h9
  refine PC.fn (fn := Tryd.f3) (c := c3) Tryd.func3 (by kernel_rfl) (.bool _) ?_
  have ec : c3 = .seq (Code.l c3) (.seq (Code.l (Code.r c3)) .ret) := by kernel_rfl
  have e1 : Code.l (Code.r c3) = .region 1 ops3 false := by kernel_rfl
  have e0 : ([p, q, PV.int .i64 i] ++ List.replicate (Tryd.f3.ntmps - [p, q, PV.int .i64 i].length) .undef) = mkF 19 [(0, p), (1, q), (2, .int .i64 i)] := by kernel_rfl
  rw [ec, e0, e1]
  refine .sq' (.tree cx orc1_ok [0, 1, 2, 6] false 100 (t := .leaf (.normal, ⟨mkF 19 [(0, p), (1, q), (2, .int .i64 i), (6, .bool false)], []⟩)) (by kernel_rfl) ?_)
  show W _ _ _ _
  refine .sq' (.region ?_)
  rw [ops3_eq]
  refine .call (by kernel_rfl) (f := 7) (args := []) (by kernel_rfl) (h7 _) ?_
  rintro v H ⟨rfl, rfl⟩
  refine .eff cx (by kernel_rfl) (v := .bool true) (H' := []) (by kernel_rfl) ?_
  refine .eff cx (by kernel_rfl) (v := p) (H' := []) (by kernel_rfl) ?_
  refine .eff cx (by kernel_rfl) (v := q) (H' := []) (by kernel_rfl) ?_
  refine .eff cx (by kernel_rfl) (v := .int .i64 i) (H' := []) (by kernel_rfl) ?_
  refine .call (by kernel_rfl) (f := 8) (args := [p, q, .int .i64 i]) (by kernel_rfl) (h8 _) ?_
  rintro v H ⟨rfl, rfl⟩
  refine .eff cx (by kernel_rfl) (v := p) (H' := []) (by kernel_rfl) ?_
  refine .eff cx (by kernel_rfl) (v := q) (H' := []) (by kernel_rfl) ?_
  refine .eff cx (by kernel_rfl) (v := .int .i64 i) (H' := []) (by kernel_rfl) ?_
  refine .call (by kernel_rfl) (f := 9) (args := [p, q, .int .i64 i]) (by kernel_rfl) (h9 _) ?_
  rintro v H ⟨rfl, rfl⟩
  cases b
  · refine .eff cx (by kernel_rfl) (v := .bool true) (H' := []) (by kernel_rfl) ?_
    refine .eff cx (by kernel_rfl) (v := .bool true) (H' := []) (by kernel_rfl) ?_
    refine .eff cx (by kernel_rfl) (v := .bool true) (H' := []) (by kernel_rfl) ?_
    exact .nil (.ret ⟨.inr rfl, .bool true, by kernel_rfl, .pure (.bool _)⟩)
  · refine .eff cx (by kernel_rfl) (v := .bool true) (H' := []) (by kernel_rfl) ?_
    refine .eff cx (by kernel_rfl) (v := .bool true) (H' := []) (by kernel_rfl) ?_
    refine .eff cx (by kernel_rfl) (v := .bool true) (H' := []) (by kernel_rfl) ?_
    exact .nil (.ret ⟨.inr rfl, .bool true, by kernel_rfl, .pure (.bool _)⟩)
end Go.MW.Hb
