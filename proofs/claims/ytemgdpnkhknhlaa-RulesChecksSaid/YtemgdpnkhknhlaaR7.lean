/-
  RulesChecks: the given row: for every layout the law answers true, and the layout reads as it read before.
-/
import Derived.Test.YtemgdpnkhknhlaaR6
import Derived.Test.YtemgdpnkhknhlaaRows
import Derived.WalkKit
import Derived.ProofKit
import Derived.OpenShut
import Derived.ShutString
import Derived.ChangeOld
import Derived.Below
import Derived.SizedLaws
import Derived.LaidLaws
import Derived.LaidHandle
namespace Go.MW.Rc
open Go.Proofs
set_option maxRecDepth 100000
section
variable {H : Type} {enc : TypeId × Value → H} {w : World} {base : Nat} {spare : Nat → Bool} {held : Bool}
theorem co_Wi : Try.prog.cellsOf 50 = 6 := by kernel_rfl
theorem told_Wi {fuel : Nat} {cs : List Value} {x : DataW H × List MemPlace} (h : DataW.trod enc Try.prog w base spare held fuel 50 cs = some x) : ∃ e : Wi, Told w e.pv cs := by
  obtain ⟨xs, n, _, _, hl, hlen, hf⟩ := DataW.trod_struct Try.underlying50 h
  rw [co_Wi] at hl
  match xs, hlen with
  | [y0, y1, y2, y3, y4, y5], _ =>
    have f0 : DataW.trod enc Try.prog w base spare held n 3 ((cs.drop 0).take (Try.prog.cellsOf 3)) = some y0 := hf 0 _ rfl
    rw [show Try.prog.cellsOf 3 = 1 by kernel_rfl] at f0
    have f1 : DataW.trod enc Try.prog w base spare held n 3 ((cs.drop 1).take (Try.prog.cellsOf 3)) = some y1 := hf 1 _ rfl
    rw [show Try.prog.cellsOf 3 = 1 by kernel_rfl] at f1
    have f2 : DataW.trod enc Try.prog w base spare held n 3 ((cs.drop 2).take (Try.prog.cellsOf 3)) = some y2 := hf 2 _ rfl
    rw [show Try.prog.cellsOf 3 = 1 by kernel_rfl] at f2
    have f3 : DataW.trod enc Try.prog w base spare held n 3 ((cs.drop 3).take (Try.prog.cellsOf 3)) = some y3 := hf 3 _ rfl
    rw [show Try.prog.cellsOf 3 = 1 by kernel_rfl] at f3
    have f4 : DataW.trod enc Try.prog w base spare held n 3 ((cs.drop 4).take (Try.prog.cellsOf 3)) = some y4 := hf 4 _ rfl
    rw [show Try.prog.cellsOf 3 = 1 by kernel_rfl] at f4
    have f5 : DataW.trod enc Try.prog w base spare held n 3 ((cs.drop 5).take (Try.prog.cellsOf 3)) = some y5 := hf 5 _ rfl
    rw [show Try.prog.cellsOf 3 = 1 by kernel_rfl] at f5
    obtain ⟨a0, t0⟩ := told_int (w := w) Try.underlying3 f0
    obtain ⟨a1, t1⟩ := told_int (w := w) Try.underlying3 f1
    obtain ⟨a2, t2⟩ := told_int (w := w) Try.underlying3 f2
    obtain ⟨a3, t3⟩ := told_int (w := w) Try.underlying3 f3
    obtain ⟨a4, t4⟩ := told_int (w := w) Try.underlying3 f4
    obtain ⟨a5, t5⟩ := told_int (w := w) Try.underlying3 f5
    match cs, hl with
    | [c0, c1, c2, c3, c4, c5], _ => exact ⟨⟨a0, a1, a2, a3, a4, a5⟩, (((((t0.append t1).append t2).append t3).append t4).append t5)⟩
theorem co_Vi : Try.prog.cellsOf 54 = 4 := by kernel_rfl
theorem told_Vi {fuel : Nat} {cs : List Value} {x : DataW H × List MemPlace} (h : DataW.trod enc Try.prog w base spare held fuel 54 cs = some x) : ∃ e : Vi, Told w e.pv cs := by
  obtain ⟨xs, n, _, _, hl, hlen, hf⟩ := DataW.trod_struct Try.underlying54 h
  rw [co_Vi] at hl
  match xs, hlen with
  | [y0, y1, y2, y3], _ =>
    have f0 : DataW.trod enc Try.prog w base spare held n 3 ((cs.drop 0).take (Try.prog.cellsOf 3)) = some y0 := hf 0 _ rfl
    rw [show Try.prog.cellsOf 3 = 1 by kernel_rfl] at f0
    have f1 : DataW.trod enc Try.prog w base spare held n 3 ((cs.drop 1).take (Try.prog.cellsOf 3)) = some y1 := hf 1 _ rfl
    rw [show Try.prog.cellsOf 3 = 1 by kernel_rfl] at f1
    have f2 : DataW.trod enc Try.prog w base spare held n 3 ((cs.drop 2).take (Try.prog.cellsOf 3)) = some y2 := hf 2 _ rfl
    rw [show Try.prog.cellsOf 3 = 1 by kernel_rfl] at f2
    have f3 : DataW.trod enc Try.prog w base spare held n 3 ((cs.drop 3).take (Try.prog.cellsOf 3)) = some y3 := hf 3 _ rfl
    rw [show Try.prog.cellsOf 3 = 1 by kernel_rfl] at f3
    obtain ⟨a0, t0⟩ := told_int (w := w) Try.underlying3 f0
    obtain ⟨a1, t1⟩ := told_int (w := w) Try.underlying3 f1
    obtain ⟨a2, t2⟩ := told_int (w := w) Try.underlying3 f2
    obtain ⟨a3, t3⟩ := told_int (w := w) Try.underlying3 f3
    match cs, hl with
    | [c0, c1, c2, c3], _ => exact ⟨⟨a0, a1, a2, a3⟩, (((t0.append t1).append t2).append t3)⟩
theorem co_Pi : Try.prog.cellsOf 48 = 5 := by kernel_rfl
theorem told_Pi {fuel : Nat} {cs : List Value} {x : DataW H × List MemPlace} (h : DataW.trod enc Try.prog w base spare held fuel 48 cs = some x) : ∃ e : Pi, Told w e.pv cs := by
  obtain ⟨xs, n, _, _, hl, hlen, hf⟩ := DataW.trod_struct Try.underlying48 h
  rw [co_Pi] at hl
  match xs, hlen with
  | [y0, y1, y2, y3, y4], _ =>
    have f0 : DataW.trod enc Try.prog w base spare held n 3 ((cs.drop 0).take (Try.prog.cellsOf 3)) = some y0 := hf 0 _ rfl
    rw [show Try.prog.cellsOf 3 = 1 by kernel_rfl] at f0
    have f1 : DataW.trod enc Try.prog w base spare held n 3 ((cs.drop 1).take (Try.prog.cellsOf 3)) = some y1 := hf 1 _ rfl
    rw [show Try.prog.cellsOf 3 = 1 by kernel_rfl] at f1
    have f2 : DataW.trod enc Try.prog w base spare held n 3 ((cs.drop 2).take (Try.prog.cellsOf 3)) = some y2 := hf 2 _ rfl
    rw [show Try.prog.cellsOf 3 = 1 by kernel_rfl] at f2
    have f3 : DataW.trod enc Try.prog w base spare held n 4 ((cs.drop 3).take (Try.prog.cellsOf 4)) = some y3 := hf 3 _ rfl
    rw [show Try.prog.cellsOf 4 = 1 by kernel_rfl] at f3
    have f4 : DataW.trod enc Try.prog w base spare held n 3 ((cs.drop 4).take (Try.prog.cellsOf 3)) = some y4 := hf 4 _ rfl
    rw [show Try.prog.cellsOf 3 = 1 by kernel_rfl] at f4
    obtain ⟨a0, t0⟩ := told_int (w := w) Try.underlying3 f0
    obtain ⟨a1, t1⟩ := told_int (w := w) Try.underlying3 f1
    obtain ⟨a2, t2⟩ := told_int (w := w) Try.underlying3 f2
    obtain ⟨a3, t3⟩ := told_bool (w := w) Try.underlying4 f3
    obtain ⟨a4, t4⟩ := told_int (w := w) Try.underlying3 f4
    match cs, hl with
    | [c0, c1, c2, c3, c4], _ => exact ⟨⟨a0, a1, a2, a3, a4⟩, ((((t0.append t1).append t2).append t3).append t4)⟩
theorem co_Wa : Try.prog.cellsOf 56 = 5 := by kernel_rfl
theorem told_Wa {fuel : Nat} {cs : List Value} {x : DataW H × List MemPlace} (h : DataW.trod enc Try.prog w base spare held fuel 56 cs = some x) : ∃ e : Wa, Told w e.pv cs := by
  obtain ⟨xs, n, _, _, hl, hlen, hf⟩ := DataW.trod_struct Try.underlying56 h
  rw [co_Wa] at hl
  match xs, hlen with
  | [y0, y1, y2, y3, y4], _ =>
    have f0 : DataW.trod enc Try.prog w base spare held n 3 ((cs.drop 0).take (Try.prog.cellsOf 3)) = some y0 := hf 0 _ rfl
    rw [show Try.prog.cellsOf 3 = 1 by kernel_rfl] at f0
    have f1 : DataW.trod enc Try.prog w base spare held n 3 ((cs.drop 1).take (Try.prog.cellsOf 3)) = some y1 := hf 1 _ rfl
    rw [show Try.prog.cellsOf 3 = 1 by kernel_rfl] at f1
    have f2 : DataW.trod enc Try.prog w base spare held n 3 ((cs.drop 2).take (Try.prog.cellsOf 3)) = some y2 := hf 2 _ rfl
    rw [show Try.prog.cellsOf 3 = 1 by kernel_rfl] at f2
    have f3 : DataW.trod enc Try.prog w base spare held n 3 ((cs.drop 3).take (Try.prog.cellsOf 3)) = some y3 := hf 3 _ rfl
    rw [show Try.prog.cellsOf 3 = 1 by kernel_rfl] at f3
    have f4 : DataW.trod enc Try.prog w base spare held n 3 ((cs.drop 4).take (Try.prog.cellsOf 3)) = some y4 := hf 4 _ rfl
    rw [show Try.prog.cellsOf 3 = 1 by kernel_rfl] at f4
    obtain ⟨a0, t0⟩ := told_int (w := w) Try.underlying3 f0
    obtain ⟨a1, t1⟩ := told_int (w := w) Try.underlying3 f1
    obtain ⟨a2, t2⟩ := told_int (w := w) Try.underlying3 f2
    obtain ⟨a3, t3⟩ := told_int (w := w) Try.underlying3 f3
    obtain ⟨a4, t4⟩ := told_int (w := w) Try.underlying3 f4
    match cs, hl with
    | [c0, c1, c2, c3, c4], _ => exact ⟨⟨a0, a1, a2, a3, a4⟩, ((((t0.append t1).append t2).append t3).append t4)⟩
theorem co_Lay : Try.prog.cellsOf 27 = 8 := by kernel_rfl
theorem told_Lay {fuel : Nat} {cs : List Value} {x : DataW H × List MemPlace} (h : DataW.trod enc Try.prog w base spare held fuel 27 cs = some x) : ∃ e : Lay, Told w e.pv cs := by
  obtain ⟨xs, n, _, _, hl, hlen, hf⟩ := DataW.trod_struct Try.underlying27 h
  rw [co_Lay] at hl
  match xs, hlen with
  | [y0, y1, y2, y3, y4, y5, y6, y7], _ =>
    have f0 : DataW.trod enc Try.prog w base spare held n 3 ((cs.drop 0).take (Try.prog.cellsOf 3)) = some y0 := hf 0 _ rfl
    rw [show Try.prog.cellsOf 3 = 1 by kernel_rfl] at f0
    have f1 : DataW.trod enc Try.prog w base spare held n 3 ((cs.drop 1).take (Try.prog.cellsOf 3)) = some y1 := hf 1 _ rfl
    rw [show Try.prog.cellsOf 3 = 1 by kernel_rfl] at f1
    have f2 : DataW.trod enc Try.prog w base spare held n 3 ((cs.drop 2).take (Try.prog.cellsOf 3)) = some y2 := hf 2 _ rfl
    rw [show Try.prog.cellsOf 3 = 1 by kernel_rfl] at f2
    have f3 : DataW.trod enc Try.prog w base spare held n 3 ((cs.drop 3).take (Try.prog.cellsOf 3)) = some y3 := hf 3 _ rfl
    rw [show Try.prog.cellsOf 3 = 1 by kernel_rfl] at f3
    have f4 : DataW.trod enc Try.prog w base spare held n 22 ((cs.drop 4).take (Try.prog.cellsOf 22)) = some y4 := hf 4 _ rfl
    rw [show Try.prog.cellsOf 22 = 1 by kernel_rfl] at f4
    have f5 : DataW.trod enc Try.prog w base spare held n 23 ((cs.drop 5).take (Try.prog.cellsOf 23)) = some y5 := hf 5 _ rfl
    rw [show Try.prog.cellsOf 23 = 1 by kernel_rfl] at f5
    have f6 : DataW.trod enc Try.prog w base spare held n 24 ((cs.drop 6).take (Try.prog.cellsOf 24)) = some y6 := hf 6 _ rfl
    rw [show Try.prog.cellsOf 24 = 1 by kernel_rfl] at f6
    have f7 : DataW.trod enc Try.prog w base spare held n 25 ((cs.drop 7).take (Try.prog.cellsOf 25)) = some y7 := hf 7 _ rfl
    rw [show Try.prog.cellsOf 25 = 1 by kernel_rfl] at f7
    obtain ⟨a0, t0⟩ := told_int (w := w) Try.underlying3 f0
    obtain ⟨a1, t1⟩ := told_int (w := w) Try.underlying3 f1
    obtain ⟨a2, t2⟩ := told_int (w := w) Try.underlying3 f2
    obtain ⟨a3, t3⟩ := told_int (w := w) Try.underlying3 f3
    obtain ⟨a4, t4⟩ := told_list (α := Wi) Wi.pv Try.underlying22 (by rw [co_Wi]; omega) (fun fuel cs x hx _ => told_Wi hx) f4
    obtain ⟨a5, t5⟩ := told_list (α := Vi) Vi.pv Try.underlying23 (by rw [co_Vi]; omega) (fun fuel cs x hx _ => told_Vi hx) f5
    obtain ⟨a6, t6⟩ := told_list (α := Pi) Pi.pv Try.underlying24 (by rw [co_Pi]; omega) (fun fuel cs x hx _ => told_Pi hx) f6
    obtain ⟨a7, t7⟩ := told_list (α := Wa) Wa.pv Try.underlying25 (by rw [co_Wa]; omega) (fun fuel cs x hx _ => told_Wa hx) f7
    match cs, hl with
    | [c0, c1, c2, c3, c4, c5, c6, c7], _ => exact ⟨⟨a0, a1, a2, a3, a4, a5, a6, a7⟩, (((((((t0.append t1).append t2).append t3).append t4).append t5).append t6).append t7)⟩
end
end Go.MW.Rc
namespace Go.Proofs.Ytemgdpnkhknhlaa.rulesChecks
open Go.ChangeShapes Go.WideShapes Go.ChangeAt Go.RowKit
open Go.MW Go.MW.Rc
set_option linter.unusedVariables false
theorem own : ownKnob Try.prog.godebug = none := by kernel_rfl
theorem laidOut : laidOutB Try.prog = true := by kernel_rfl
set_option maxRecDepth 100000 in
theorem lifted (os : Os) (started : os.Started) (H : Type) (enc : TypeId × Value → H) :
    ReturnsInHanded {} Try.checked os 3 .any (Rows.rulesChecksSpec.pre6 enc Try.prog Try.f3 Rows.rulesChecksRow.domain false) (Rows.rulesChecksSpec.post enc Try.prog Try.f3 false true false false) := by
  refine returnsInHanded_of_change_sized (C := Try.checked) own started (by kernel_rfl) Try.func3
    (ChangeSpec.witness6 (enc := enc) (C := Try.checked) false ⟨#[], #[.agg #[.int .i64 0, .int .i64 0, .int .i64 0, .int .i64 0, .slice none 0 0, .slice none 0 0, .slice none 0 0, .slice none 0 0]], []⟩ 8 (by kernel_rfl) (by kernel_rfl) (by kernel_rfl) (by kernel_rfl)) ?_
  intro W base args ds gs before hval0 hW hcnd hsz0 _
  have hval : ∀ (j : Nat) t v, Try.f3.params[j]? = some t → args[j]? = some v → Value.okWide Try.prog W .any base t v := hval0
  have hW' := hW
  obtain ⟨p, q, hA0, hV, rfl, hfz, hnd⟩ := hW
  have hA : DataW.TrodAll enc Try.prog W 0 (fun _ => true) true Try.f3.params.toList args.toList ds p := hA0
  rw [Try.params3] at hA hval
  obtain ⟨v0, vs0, d0, ds0, p0, q0, hargs, rfl, rfl, h0, r0⟩ := trodAll_cons hA
  obtain ⟨rfl, rfl, rfl⟩ := trodAll_nil r0
  obtain rfl : args = #[v0] := by cases args; simp_all
  obtain ⟨rfl, rfl⟩ := trodVars_none hV
  have k0 := h0
  have lt0 : ∀ x ∈ p0, x.block < W.heap.size := by obtain ⟨m, hm⟩ := k0; exact DataW.trod_lt m _ _ _ hm
  obtain ⟨cs0, rfl, _⟩ := okWide_struct Try.underlying27 (hval 0 27 v0 rfl rfl)
  obtain ⟨f0, g0⟩ := h0
  obtain ⟨x0, T0⟩ := told_Lay (w := W) (by simpa [Value.cells] using g0)
  have V0 := T0.agg
  have hav : AV W (allS W) [.agg x0.pv] #[.agg cs0] := ⟨rfl, fun t ht => by
    match t, ht with
    | 0, _ => exact V0⟩
  clear hA0 hval0 hsz0
  refine ((pc3 x0).calls hav).mono fun e W' ⟨he, bel⟩ => ?_
  subst he
  exact ⟨_, rfl, _, _, _, [], _, [], hW', trodAll_mk1 (shut_bool Try.underlying4 _), (trodAll_cons_mk (Below.trod laidOut (by kernel_rfl) (of_decide_eq_true (by kernel_rfl)) k0 bel lt0) trodAll_mk0), rfl, bel.frame _, fun h => by cases h⟩
theorem over : Rows.rulesChecksRow.holds Try.pinned (OpenSpec.ofChange Rows.rulesChecksSpec) :=
  OpenClaim.holds_of_wide 3 Try.f3 rfl rfl rfl rfl rfl rfl rfl ⟨rfl, rfl, rfl, rfl, rfl⟩ rfl rfl rfl rfl rfl (by kernel_rfl) Try.func3 (by kernel_rfl)
    (of_decide_eq_true (by kernel_rfl)) (by unfold Func.isWrapper; first | (rw [if_pos (by decide +kernel)]; kernel_rfl) | (rw [if_neg (by decide +kernel)]; exact ⟨rfl, rfl⟩))
    (fun os started H enc _ => lifted os started H enc)
theorem proved : Rows.RulesChecksSaid := over
end Go.Proofs.Ytemgdpnkhknhlaa.rulesChecks

namespace Go.Proofs.Ytemgdpnkhknhlaa
theorem rulesChecks_holds : Rows.RulesChecksSaid := rulesChecks.proved
end Go.Proofs.Ytemgdpnkhknhlaa
