/-
  Parts of the proof about layouts: the guard, run by the kernel, and the law about what is wrong with a layout.
-/
import Derived.Test.YtemgdpnkhknhlaaR5
namespace Go.MW.Rc
open Go.Proofs
set_option maxRecDepth 100000

theorem pc6 : PC Try.prog 6 [] (.bool true) := PC.den cx (base := orcN) orcN_ok 40 (by kernel_rfl)

def hn3 (l : Lay) : Hint where
  q := fun f _ => match f with
    | 6 => some (.bool true)
    | 7 => some (.int .i64 l.fault)
    | 8 => some (.int .i64 l.fault)
    | _ => none

theorem t3 (l : Lay) : funS Try.prog cx.E orcN (hn3 l) 100 3 [.agg l.pv] =
    .need (CallQ Try.prog 6 [] (.bool true)) (.br true (.need (CallQ Try.prog 7 [.agg l.pv] (.int .i64 l.fault)) (.need (CallQ Try.prog 8 [.agg l.pv] (.int .i64 l.fault)) (.leaf (.bool (l.fault == l.fault))))) (.leaf (.bool false))) := by kernel_rfl

theorem pc3 (l : Lay) : PC Try.prog 3 [.agg l.pv] (.bool true) := by
  refine PC.tree cx orcN_ok 100 (t3 l) ?_
  exact .need ⟨pc6, fun x hx => by simp at hx⟩ (.br (fun _ => .need ⟨pc7 l, puL⟩ (.need ⟨pc8 l, puL⟩ (.leaf (by simp)))) fun h => by cases h)
end Go.MW.Rc
