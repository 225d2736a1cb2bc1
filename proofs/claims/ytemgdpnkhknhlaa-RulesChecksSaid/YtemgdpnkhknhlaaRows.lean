/-
  No cell of these rows narrows 'for every input' (looked for: loops, veiled, ifaces, maps, wideKeys, modest, calm, conditions, laid).
  DERIVED. THE GIVEN ROWS OF THIS SEAT. 3 by the template 'for every input the law returns true; each argument reads behind the call as it read before'; 0 by the template 'total and deterministic' (their statements: YtemgdpnkhknhlaaTotals.lean).
  GIVEN WITH THE SEED: the statements are not yours to turn. If you find one false, say at which input.
  Laid BY PROGRAM, IN A SANDBOX (cutbox-rows.mjs): the forced cells as the released guide's own fill.sh prints them over the translation 579dec3c1657afc3… (all of the seat's roots in one cut). By AI agents, Wed Nov 11 2026. No macro, syntax, notation, axiom, sorry.
-/
import Derived.Test.YtemgdpnkhknhlaaChecked
import GoSem.Claim
import GoSem.ClaimJoined
import GoSem.ClaimMapViews
import Derived.JoinedTies
import Derived.KernelRfl
namespace Go.Proofs.Ytemgdpnkhknhlaa
/- THE CELL 'sum', in the pinned program and in every row, IS THE sha256 OF THE DUMP (.gsa) THAT YtemgdpnkhknhlaaProg.lean LOADS. Nothing in Lean hashes anything: it is a label: what it is worth is what the hold of that sum in a sandbox is worth. -/
noncomputable def Try.pinned : Pinned := { name := "ytemgdpnkhknhlaa", sum := "579dec3c1657afc3076ab03b55b1b3300bdd5fb85a59faeef9e9e60d76b65107", checked := Try.checked }
namespace Rows
def none {H : Type} : Left H := { results := [], args := [] }

/-- 'masklaw4.RulesChecks': WHATEVER THE INPUT: true; the input reads as it did. -/
def rulesChecksSpec : ChangeSpec := { name := "rulesChecks", fn := fun _ => fun
  | [d] => { results := [.lit (.bool true)], args := [d] }
  | _ => none }
def rulesChecksRow : OpenClaim := { program := "ytemgdpnkhknhlaa", sum := "579dec3c1657afc3076ab03b55b1b3300bdd5fb85a59faeef9e9e60d76b65107", func := "maskwright/masklaw4.RulesChecks", spec := "rulesChecks", unfollowed := true, recurses := true, plainKeys := false, apart := false }
def RulesChecksSaid : Prop := rulesChecksRow.holds Try.pinned (OpenSpec.ofChange rulesChecksSpec)

/-- ITS FALSE NEIGHBOUR: 'it returns false'. Refute it at one input. -/
def rulesChecksWrong : ChangeSpec := { name := "rulesChecks", fn := fun _ => fun
  | [d] => { results := [.lit (.bool false)], args := [d] }
  | _ => none }
def RulesChecksWrongFalsely : Prop := rulesChecksRow.holds Try.pinned (OpenSpec.ofChange rulesChecksWrong)

/-- 'masklaw4.RulesFaults': WHATEVER THE INPUT: true; the input reads as it did. -/
def rulesFaultsSpec : ChangeSpec := { name := "rulesFaults", fn := fun _ => fun
  | [d] => { results := [.lit (.bool true)], args := [d] }
  | _ => none }
def rulesFaultsRow : OpenClaim := { program := "ytemgdpnkhknhlaa", sum := "579dec3c1657afc3076ab03b55b1b3300bdd5fb85a59faeef9e9e60d76b65107", func := "maskwright/masklaw4.RulesFaults", spec := "rulesFaults", unfollowed := true, recurses := true, plainKeys := false, apart := false }
def RulesFaultsSaid : Prop := rulesFaultsRow.holds Try.pinned (OpenSpec.ofChange rulesFaultsSpec)

/-- ITS FALSE NEIGHBOUR: 'it returns false'. Refute it at one input. -/
def rulesFaultsWrong : ChangeSpec := { name := "rulesFaults", fn := fun _ => fun
  | [d] => { results := [.lit (.bool false)], args := [d] }
  | _ => none }
def RulesFaultsWrongFalsely : Prop := rulesFaultsRow.holds Try.pinned (OpenSpec.ofChange rulesFaultsWrong)

/-- 'masklaw4.RulesGroups': WHATEVER THE INPUT: true; the input reads as it did. -/
def rulesGroupsSpec : ChangeSpec := { name := "rulesGroups", fn := fun _ => fun
  | [d] => { results := [.lit (.bool true)], args := [d] }
  | _ => none }
def rulesGroupsRow : OpenClaim := { program := "ytemgdpnkhknhlaa", sum := "579dec3c1657afc3076ab03b55b1b3300bdd5fb85a59faeef9e9e60d76b65107", func := "maskwright/masklaw4.RulesGroups", spec := "rulesGroups", unfollowed := true, recurses := true, plainKeys := false, apart := false }
def RulesGroupsSaid : Prop := rulesGroupsRow.holds Try.pinned (OpenSpec.ofChange rulesGroupsSpec)

/-- ITS FALSE NEIGHBOUR: 'it returns false'. Refute it at one input. -/
def rulesGroupsWrong : ChangeSpec := { name := "rulesGroups", fn := fun _ => fun
  | [d] => { results := [.lit (.bool false)], args := [d] }
  | _ => none }
def RulesGroupsWrongFalsely : Prop := rulesGroupsRow.holds Try.pinned (OpenSpec.ofChange rulesGroupsWrong)

/- THE SECOND FORM. 'bulk': how many values and letters a reading holds, each counted each time it is reached (what is shared counts as often as it is met; a slice's spare places count too). A statement '..UptoSaid' is the law's where the arguments, and the package variables that the reading takes, are together of bulk at most 1048576: NARROWER than '..Said'. Prove '..Said' where nothing that the law and all that it calls make is longer than what came in: it says more and counts as full. Else prove '..UptoSaid'. A law counts once. -/
mutual
def uptoBulk {H : Type} : DataW H → Nat
  | .lit (.string bytes) => bytes.length + 1
  | .lit _ => 1
  | .nil => 1
  | .ptr d => uptoBulk d + 1
  | .slice elems spare => uptoBulkAll elems + uptoBulkAll spare + 1
  | .agg parts => uptoBulkAll parts + 1
  | .iface _ d => uptoBulk d + 1
  | .map entries => uptoBulkEntries entries + 1
  | .held _ => 1
def uptoBulkAll {H : Type} : List (DataW H) → Nat
  | [] => 0
  | d :: r => uptoBulk d + uptoBulkAll r
def uptoBulkEntries {H : Type} : List (Lit × DataW H) → Nat
  | [] => 0
  | x :: r => uptoBulkEntry x + uptoBulkEntries r
def uptoBulkEntry {H : Type} : Lit × DataW H → Nat
  | (.string bytes, d) => bytes.length + uptoBulk d + 1
  | (_, d) => uptoBulk d + 1
 end
def uptoSmall : (H : Type) → List (DataW H) → Bool := fun _ ds => decide (uptoBulkAll ds ≤ 1048576)
def OpenSpec.upto (s : _root_.Go.ChangeSpec) : _root_.Go.OpenSpec := { _root_.Go.OpenSpec.ofChange s with cond := some uptoSmall }

/-- 'masklaw4.RulesChecks', WHERE WHAT IT READS IS OF BULK AT MOST 1048576: true; the input reads as it did. -/
def rulesChecksUptoRow : OpenClaim := { program := "ytemgdpnkhknhlaa", sum := "579dec3c1657afc3076ab03b55b1b3300bdd5fb85a59faeef9e9e60d76b65107", func := "maskwright/masklaw4.RulesChecks", spec := "rulesChecks", unfollowed := true, recurses := true, plainKeys := false, apart := false, narrowed := true }
def RulesChecksUptoSaid : Prop := rulesChecksUptoRow.holds Try.pinned (OpenSpec.upto rulesChecksSpec)

/-- 'masklaw4.RulesFaults', WHERE WHAT IT READS IS OF BULK AT MOST 1048576: true; the input reads as it did. -/
def rulesFaultsUptoRow : OpenClaim := { program := "ytemgdpnkhknhlaa", sum := "579dec3c1657afc3076ab03b55b1b3300bdd5fb85a59faeef9e9e60d76b65107", func := "maskwright/masklaw4.RulesFaults", spec := "rulesFaults", unfollowed := true, recurses := true, plainKeys := false, apart := false, narrowed := true }
def RulesFaultsUptoSaid : Prop := rulesFaultsUptoRow.holds Try.pinned (OpenSpec.upto rulesFaultsSpec)

/-- 'masklaw4.RulesGroups', WHERE WHAT IT READS IS OF BULK AT MOST 1048576: true; the input reads as it did. -/
def rulesGroupsUptoRow : OpenClaim := { program := "ytemgdpnkhknhlaa", sum := "579dec3c1657afc3076ab03b55b1b3300bdd5fb85a59faeef9e9e60d76b65107", func := "maskwright/masklaw4.RulesGroups", spec := "rulesGroups", unfollowed := true, recurses := true, plainKeys := false, apart := false, narrowed := true }
def RulesGroupsUptoSaid : Prop := rulesGroupsUptoRow.holds Try.pinned (OpenSpec.upto rulesGroupsSpec)

end Rows
end Go.Proofs.Ytemgdpnkhknhlaa
