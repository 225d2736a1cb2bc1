/-
  OUR OWN: from a call told by values to the kit's words.
-/
import Derived.Test.YtemgdpnkhknhlaaMw25
namespace Go.MW

/-- Every block that is there. -/
abbrev allS (w : World) : Rl := ⟨fun b => b < w.heap.size, fun _ => none⟩

theorem PC.calls {P : Program} {f : FuncId} {args : List PV} {b : Bool} (h : PC P f args (.bool b)) {w : World} {vals : Array Value} (hA : AV w (allS w) args vals) :
    Calls P f vals w fun e w' => e = .returned (.bool b) ∧ RowKit.Below w.heap.size w w' := by
  refine (h.2 w (allS w) vals (.none_of fun b hb => hb) hA).mono ?_
  rintro e w' ⟨u, v, ⟨S', β'⟩, H', rfl, hF, hv, hH', hst⟩
  have hv' := hF w' S' β' u hH' hv
  cases hv'
  refine ⟨rfl, hst.os, hst.tape, hst.output, hst.size, fun k hk => ?_⟩
  refine hst.kept k hk ?_
  rintro ⟨r, sh, hr, _⟩
  simp at hr

end Go.MW
