/-
  Parts of the proof for HoldBetter: the ends that come in.
-/
import Derived.Test.YtfieobmlocgcnaaDoorG5
import Derived.Test.YtfieobmlocgcnaaDoorMw27
namespace Go.MW.Hb
open Go.Proofs
set_option maxRecDepth 100000

theorem co3 : Tryd.prog.cellsOf 3 = 1 := by kernel_rfl
theorem co4 : Tryd.prog.cellsOf 4 = 1 := by kernel_rfl
theorem co58 : Tryd.prog.cellsOf 58 = 3 := by kernel_rfl
theorem co60 : Tryd.prog.cellsOf 60 = 8 := by kernel_rfl

section
variable {H : Type} {enc : TypeId × Value → H} {w : World} {base : Nat} {spare : Nat → Bool} {held : Bool}

theorem told58 {fuel : Nat} {cs : List Value} {x : DataW H × List MemPlace} (h : DataW.trod enc Tryd.prog w base spare held fuel 58 cs = some x) : ∃ s : Sl, Told w [.bool s.k, .int .i64 s.v, .int .i64 s.f] cs := by
  obtain ⟨xs, n, _, _, hl, hlen, hf⟩ := DataW.trod_struct Tryd.underlying58 h
  rw [co58] at hl
  match xs, hlen with
  | [y0, y1, y2], _ =>
    have f0 : DataW.trod enc Tryd.prog w base spare held n 4 ((cs.drop 0).take (Tryd.prog.cellsOf 4)) = some y0 := hf 0 _ rfl
    have f1 : DataW.trod enc Tryd.prog w base spare held n 3 ((cs.drop 1).take (Tryd.prog.cellsOf 3)) = some y1 := hf 1 _ rfl
    have f2 : DataW.trod enc Tryd.prog w base spare held n 3 ((cs.drop 2).take (Tryd.prog.cellsOf 3)) = some y2 := hf 2 _ rfl
    rw [co4] at f0
    rw [co3] at f1 f2
    obtain ⟨b, t0⟩ := told_bool (w := w) Tryd.underlying4 f0
    obtain ⟨v, t1⟩ := told_int (w := w) Tryd.underlying3 f1
    obtain ⟨f, t2⟩ := told_int (w := w) Tryd.underlying3 f2
    match cs, hl with
    | [c0, c1, c2], _ => exact ⟨⟨b, v, f⟩, (t0.append t1).append t2⟩

theorem told60 {fuel : Nat} {cs : List Value} {x : DataW H × List MemPlace} (h : DataW.trod enc Tryd.prog w base spare held fuel 60 cs = some x) : ∃ e : En, Told w e.pv cs := by
  obtain ⟨xs, n, _, _, hl, hlen, hf⟩ := DataW.trod_struct Tryd.underlying60 h
  rw [co60] at hl
  match xs, hlen with
  | [y0, y1, y2, y3], _ =>
    have f0 : DataW.trod enc Tryd.prog w base spare held n 3 ((cs.drop 0).take (Tryd.prog.cellsOf 3)) = some y0 := hf 0 _ rfl
    have f1 : DataW.trod enc Tryd.prog w base spare held n 3 ((cs.drop 1).take (Tryd.prog.cellsOf 3)) = some y1 := hf 1 _ rfl
    have f2 : DataW.trod enc Tryd.prog w base spare held n 58 ((cs.drop 2).take (Tryd.prog.cellsOf 58)) = some y2 := hf 2 _ rfl
    have f3 : DataW.trod enc Tryd.prog w base spare held n 58 ((cs.drop 5).take (Tryd.prog.cellsOf 58)) = some y3 := hf 3 _ rfl
    rw [co3] at f0 f1
    rw [co58] at f2 f3
    obtain ⟨a, t0⟩ := told_int (w := w) Tryd.underlying3 f0
    obtain ⟨b, t1⟩ := told_int (w := w) Tryd.underlying3 f1
    obtain ⟨s, t2⟩ := told58 (w := w) f2
    obtain ⟨g, t3⟩ := told58 (w := w) f3
    match cs, hl with
    | [c0, c1, c2, c3, c4, c5, c6, c7], _ => exact ⟨⟨a, b, s, g⟩, ((t0.append t1).append t2).append t3⟩

/-- A slice of ends that comes in. -/
theorem came {fuel : Nat} {v : Value} {x : DataW H × List MemPlace} (h : DataW.trod enc Tryd.prog w base spare held fuel 22 [v] = some x) : ∃ p l, RL p l ∧ l.length ≤ maxLen ∧ VR w (allS w) p v ∧ ∀ a len cap, v = .slice a len cap → l.length = len := by
  rcases told_slice (α := En) En.pv Tryd.underlying22 (by rw [co60]; omega) (fun fuel cs x hx _ => told60 hx) h with rfl | ⟨l, a, cap, rfl, h1, h2, h3⟩
  · exact ⟨.nils, [], .inl ⟨rfl, rfl⟩, Nat.zero_le _, .nils, fun a len cap e => by cases e; rfl⟩
  · exact ⟨_, l, .inr ⟨false, rfl⟩, by omega, h3, fun a len cap e => by cases e; rfl⟩
end
end Go.MW.Hb
