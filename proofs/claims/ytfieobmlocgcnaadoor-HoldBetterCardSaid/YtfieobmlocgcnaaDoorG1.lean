/-
  Parts of the proof for HoldBetter: what the program's small functions answer.
-/
import Derived.Test.YtfieobmlocgcnaaDoorProg
import Derived.KernelRfl
import Derived.Test.YtfieobmlocgcnaaDoorMw25
namespace Go.MW.Hb
open Go.Proofs
set_option maxRecDepth 100000

def es : List TypeId := [58, 60]
theorem es_ok : es.all (fun t => !Tryd.prog.stoodInHeld t && !Tryd.prog.eqGuardType Tryd.prog.depth t) = true := by kernel_rfl
noncomputable def cx : Cx Tryd.prog where
  E := fun t => es.contains t
  held := fun t h => by
    have := List.all_eq_true.1 es_ok t (List.contains_iff_mem.1 h)
    simp at this; exact this.1
  guard := fun t h => by
    have := List.all_eq_true.1 es_ok t (List.contains_iff_mem.1 h)
    simp at this; exact this.2
  mixed := by kernel_rfl

def orc0 : Orc := fun _ _ _ => none
theorem orc0_ok : OrcS Tryd.prog orc0 := .none

def slk (k : Bool) (v f : Int) : PV := .agg [.bool k, .int .i64 v, .int .i64 f]
def bad (k1 : Bool) (v1 : Int) (k2 : Bool) (v2 : Int) : Bool := k2 && decide (v2 < 0) && (!k1 || decide (0 ≤ v1))
def neg (k : Bool) (v : Int) : Bool := k && decide (v < 0)

structure Sl where
  k : Bool
  v : Int
  f : Int
structure En where
  f : Int
  i : Int
  s : Sl
  h : Sl
instance : Inhabited Sl := ⟨⟨false, 0, 0⟩⟩
instance : Inhabited En := ⟨⟨0, 0, default, default⟩⟩
def En.pv (e : En) : List PV := [.int .i64 e.f, .int .i64 e.i, .bool e.s.k, .int .i64 e.s.v, .int .i64 e.s.f, .bool e.h.k, .int .i64 e.h.v, .int .i64 e.h.f]

def orc1 : Orc := fun f args H => match f, args with
  | 28, [.agg [.bool k1, .int .i64 v1, .int .i64 _], .agg [.bool k2, .int .i64 v2, .int .i64 _]] => some (.bool (bad k1 v1 k2 v2), H)
  | 29, [.agg [.bool k, .int .i64 v, .int .i64 _]] => some (.bool (neg k v), H)
  | 14, [.int .i64 n, .int .i64 l, .int .i64 h] => some (.bool (decide (l ≤ n) && decide (n ≤ h)), H)
  | _, _ => none

noncomputable def c8 : Code := Tryd.f8.body.getD .skip
noncomputable def c9 : Code := Tryd.f9.body.getD .skip
end Go.MW.Hb
