/-
  Parts of the proof about layouts: layouts told by values, what is wrong with a layout.
-/
import Derived.Test.YtemgdpnkhknhlaaProg
import Derived.KernelRfl
import Derived.Test.YtemgdpnkhknhlaaMw28
namespace Go.MW.Rc
open Go.Proofs
set_option maxRecDepth 100000

def es : List TypeId := [37, 36, 39, 38, 111, 110]
theorem es_ok : es.all (fun t => !Try.prog.stoodInHeld t && !Try.prog.eqGuardType Try.prog.depth t) = true := by kernel_rfl
noncomputable def cx : Cx Try.prog where
  E := fun t => es.contains t
  held := fun t h => by
    have := List.all_eq_true.1 es_ok t (List.contains_iff_mem.1 h)
    simp at this; exact this.1
  guard := fun t h => by
    have := List.all_eq_true.1 es_ok t (List.contains_iff_mem.1 h)
    simp at this; exact this.2
  mixed := by kernel_rfl

def orcN : Orc := fun _ _ _ => none
theorem orcN_ok : OrcS Try.prog orcN := .none

structure Wi where
  net : Int
  layer : Int
  x0 : Int
  y0 : Int
  x1 : Int
  y1 : Int
instance : Inhabited Wi := ⟨⟨0, 0, 0, 0, 0, 0⟩⟩
def Wi.pv (x : Wi) : List PV := [.int .i64 x.net, .int .i64 x.layer, .int .i64 x.x0, .int .i64 x.y0, .int .i64 x.x1, .int .i64 x.y1]
instance (x : Wi) : PuL x.pv := by unfold Wi.pv; infer_instance
structure Vi where
  net : Int
  layer : Int
  x : Int
  y : Int
instance : Inhabited Vi := ⟨⟨0, 0, 0, 0⟩⟩
def Vi.pv (x : Vi) : List PV := [.int .i64 x.net, .int .i64 x.layer, .int .i64 x.x, .int .i64 x.y]
instance (x : Vi) : PuL x.pv := by unfold Vi.pv; infer_instance
structure Pi where
  net : Int
  x : Int
  y : Int
  drive : Bool
  size : Int
instance : Inhabited Pi := ⟨⟨0, 0, 0, false, 0⟩⟩
def Pi.pv (x : Pi) : List PV := [.int .i64 x.net, .int .i64 x.x, .int .i64 x.y, .bool x.drive, .int .i64 x.size]
instance (x : Pi) : PuL x.pv := by unfold Pi.pv; infer_instance
structure Wa where
  layer : Int
  x0 : Int
  y0 : Int
  x1 : Int
  y1 : Int
instance : Inhabited Wa := ⟨⟨0, 0, 0, 0, 0⟩⟩
def Wa.pv (x : Wa) : List PV := [.int .i64 x.layer, .int .i64 x.x0, .int .i64 x.y0, .int .i64 x.x1, .int .i64 x.y1]
instance (x : Wa) : PuL x.pv := by unfold Wa.pv; infer_instance
structure Lay where
  w : Int
  h : Int
  layers : Int
  nets : Int
  ws : List Wi
  vs : List Vi
  ps : List Pi
  xs : List Wa
instance : Inhabited Lay := ⟨⟨0, 0, 0, 0, [], [], [], []⟩⟩
def Lay.pv (x : Lay) : List PV := [.int .i64 x.w, .int .i64 x.h, .int .i64 x.layers, .int .i64 x.nets, .lst (x.ws.map Wi.pv) false, .lst (x.vs.map Vi.pv) false, .lst (x.ps.map Pi.pv) false, .lst (x.xs.map Wa.pv) false]
instance (x : Lay) : PuL x.pv := by unfold Lay.pv; infer_instance


def Lay.wAt (l : Lay) (k : Int) : Wi := l.ws.getD k.toNat default
def Lay.vAt (l : Lay) (k : Int) : Vi := l.vs.getD k.toNat default
def Lay.pAt (l : Lay) (k : Int) : Pi := l.ps.getD k.toNat default
def Lay.xAt (l : Lay) (k : Int) : Wa := l.xs.getD k.toNat default

/-! ### what is wrong -/

def inn (n low high : Int) : Bool := decide (low ≤ n) && decide (n ≤ high)
def Lay.head (l : Lay) : Bool := inn l.w 1 512 && inn l.h 1 512 && inn l.layers 1 6 && inn l.nets 0 700
def Lay.many (l : Lay) : Bool := decide (6000 < l.ws.length) || decide (6000 < l.vs.length) || decide (4000 < l.ps.length) || decide (64 < l.xs.length)
def Wi.code (l : Lay) (x : Wi) : Int :=
  if inn x.net 0 (l.nets - 1) = false then 7
  else if (inn x.layer 0 (l.layers - 1) && inn x.x0 0 (l.w - 1) && inn x.y0 0 (l.h - 1) && inn x.x1 x.x0 (l.w - 1) && inn x.y1 x.y0 (l.h - 1)) = false then 2
  else if (x.layer.tmod 2 = 0 ∧ x.y0 ≠ x.y1) ∨ (x.layer.tmod 2 = 1 ∧ x.x0 ≠ x.x1) then 4
  else 0
def Vi.code (l : Lay) (x : Vi) : Int :=
  if inn x.net 0 (l.nets - 1) = false then 7
  else if (inn x.layer 0 (l.layers - 2) && inn x.x 0 (l.w - 1) && inn x.y 0 (l.h - 1)) = false then 2
  else 0
def Pi.code (l : Lay) (x : Pi) : Int :=
  if inn x.net 0 (l.nets - 1) = false then 7
  else if (inn x.x 0 (l.w - 1) && inn x.y 0 (l.h - 1) && inn x.size 0 1000 && !(x.drive && decide (0 < x.size))) = false then 2
  else 0
def Wa.code (l : Lay) (x : Wa) : Int :=
  if (inn x.layer 0 (l.layers - 1) && inn x.x0 0 (l.w - 1) && inn x.y0 0 (l.h - 1) && inn x.x1 x.x0 (l.w - 1) && inn x.y1 x.y0 (l.h - 1)) = false then 2
  else 0
def Wi.many (x : Wi) : Int := x.x1 - x.x0 + x.y1 - x.y0 + 1
/-- How many points the first wires cover. -/
def Lay.pts (l : Lay) : Nat → Int
  | 0 => 0
  | k + 1 => l.pts k + (l.wAt k).many
def Lay.fault (l : Lay) : Int :=
  if l.head = false then 2
  else if l.many = true then 3
  else first (Wi.code l) l.ws (first (Vi.code l) l.vs (first (Pi.code l) l.ps (first (Wa.code l) l.xs (if 200000 < l.pts l.ws.length then 3 else 0))))

def orc0 : Orc := fun f args H => match f, args with
  | 18, [.int .i64 n, .int .i64 l, .int .i64 h] => some (.bool (inn n l h), H)
  | 20, [.int .i64 n, .int .i64 l, .int .i64 h] => some (.bool (inn n l h), H)
  | 21, [.int .i64 a, .int .i64 b, .int .i64 c, .int .i64 d, .int .i64 w, .int .i64 h] => some (.bool (decide (0 ≤ a) && decide (a ≤ c) && decide (c < w) && decide (0 ≤ b) && decide (b ≤ d) && decide (d < h)), H)
  | _, _ => none

/-- What is told of the calls and the elements. -/
def hn (l : Lay) : Hint where
  q := fun f args => match f, args with
    | 19, [_, .agg [.int .i64 a, .int .i64 b, .int .i64 c, .int .i64 d, .int .i64 e, .int .i64 g]] => some (.int .i64 (Wi.code l ⟨a, b, c, d, e, g⟩))
    | _, _ => none
  e := fun o f H => match o with
    | .indexAddr 22 _ i => match f i with
      | .int _ n => some (.rptr (l.wAt n).pv, H, .any)
      | _ => none
    | .indexAddr 23 _ i => match f i with
      | .int _ n => some (.rptr (l.vAt n).pv, H, .any)
      | _ => none
    | .indexAddr 24 _ i => match f i with
      | .int _ n => some (.rptr (l.pAt n).pv, H, .any)
      | _ => none
    | .indexAddr 25 _ i => match f i with
      | .int _ n => some (.rptr (l.xAt n).pv, H, .any)
      | _ => none
    | _ => none

noncomputable def c7 : Code := Try.f7.body.getD .skip
noncomputable def c8 : Code := Try.f8.body.getD .skip
end Go.MW.Rc
