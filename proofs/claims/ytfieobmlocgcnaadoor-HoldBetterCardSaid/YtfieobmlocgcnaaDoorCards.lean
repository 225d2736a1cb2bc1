/-
  DERIVED. GIVEN WITH THE SEED: THE CARDS: each row of YtfieobmlocgcnaaDoorRows.lean that lists a variable, with what it lists TIED to the program's text (the seventh form; the later family's looks); each row that meets fmt, with fmt's text TOLD by the authors' own Lean function (tested against real Go, not proved from fmt's source: count such statements apart). THE CARD IS WHAT COUNTS. Prove the row's statement (the work); the ties are given (YtfieobmlocgcnaaDoorTie.lean); close each card by the builder's one call (the guide's Derived/Test/ToyasCard.lean, 'card_holds'). Laid BY PROGRAM, IN A SANDBOX (cutbox-door.mjs). By AI agents, Wed Nov 11 2026. No macro, syntax, notation, axiom, sorry.
-/
import Derived.Test.YtfieobmlocgcnaaDoorRows
import GoSem.ClaimSeven
namespace Go.Proofs.YtfieobmlocgcnaaDoor
namespace Rows

/-- THE TIED CARD OF 'masklaw4.HoldBetter'. -/
def holdBetterCard : Claim7 := { stood := { row := holdBetterRow, standIns := [], harness := (true, "ee31560ff20607f8c6473ef33a9f185954c12d06d16f59d64e9e7989a5e40534"), looks := false }, kinds := [], alts := [], laidByText := true, laidKinds := [.data, .data, .data], laidTests := true, laidLooks := .later }
def HoldBetterCardSaid : Prop := Claim7.holds Tryd.pinned (.plain (OpenSpec.ofChange holdBetterSpec)) holdBetterCard

/-- THE TIED CARD OF 'masklaw4.TimingArrives'. -/
def timingArrivesCard : Claim7 := { stood := { row := timingArrivesRow, standIns := [], harness := (true, "ee31560ff20607f8c6473ef33a9f185954c12d06d16f59d64e9e7989a5e40534"), looks := false }, kinds := [], alts := [], laidByText := true, laidKinds := [.data, .data, .data], laidTests := true, laidLooks := .later }
def TimingArrivesCardSaid : Prop := Claim7.holds Tryd.pinned (.plain (OpenSpec.ofChange timingArrivesSpec)) timingArrivesCard

/-- THE TIED CARD OF 'masklaw4.TimingPaths'. -/
def timingPathsCard : Claim7 := { stood := { row := timingPathsRow, standIns := [], harness := (true, "ee31560ff20607f8c6473ef33a9f185954c12d06d16f59d64e9e7989a5e40534"), looks := false }, kinds := [], alts := [], laidByText := true, laidKinds := [.data, .data, .data], laidTests := true, laidLooks := .later }
def TimingPathsCardSaid : Prop := Claim7.holds Tryd.pinned (.plain (OpenSpec.ofChange timingPathsSpec)) timingPathsCard

/-- THE TIED CARD OF 'masklaw4.HoldAdds'. -/
def holdAddsCard : Claim7 := { stood := { row := holdAddsRow, standIns := [], harness := (true, "ee31560ff20607f8c6473ef33a9f185954c12d06d16f59d64e9e7989a5e40534"), looks := false }, kinds := [], alts := [], laidByText := true, laidKinds := [.data, .data, .data], laidTests := true, laidLooks := .later }
def HoldAddsCardSaid : Prop := Claim7.holds Tryd.pinned (.plain (OpenSpec.ofChange holdAddsSpec)) holdAddsCard

/-- THE SECOND FORM's CARD OF 'masklaw4.HoldBetter'. -/
def holdBetterUptoCard : Claim7 := { stood := { row := holdBetterUptoRow, standIns := [], harness := (true, "ee31560ff20607f8c6473ef33a9f185954c12d06d16f59d64e9e7989a5e40534"), looks := false }, kinds := [], alts := [], laidByText := true, laidKinds := [.data, .data, .data], laidTests := true, laidLooks := .later }
def HoldBetterUptoCardSaid : Prop := Claim7.holds Tryd.pinned (.plain (OpenSpec.upto holdBetterSpec)) holdBetterUptoCard

/-- THE SECOND FORM's CARD OF 'masklaw4.TimingArrives'. -/
def timingArrivesUptoCard : Claim7 := { stood := { row := timingArrivesUptoRow, standIns := [], harness := (true, "ee31560ff20607f8c6473ef33a9f185954c12d06d16f59d64e9e7989a5e40534"), looks := false }, kinds := [], alts := [], laidByText := true, laidKinds := [.data, .data, .data], laidTests := true, laidLooks := .later }
def TimingArrivesUptoCardSaid : Prop := Claim7.holds Tryd.pinned (.plain (OpenSpec.upto timingArrivesSpec)) timingArrivesUptoCard

/-- THE SECOND FORM's CARD OF 'masklaw4.TimingPaths'. -/
def timingPathsUptoCard : Claim7 := { stood := { row := timingPathsUptoRow, standIns := [], harness := (true, "ee31560ff20607f8c6473ef33a9f185954c12d06d16f59d64e9e7989a5e40534"), looks := false }, kinds := [], alts := [], laidByText := true, laidKinds := [.data, .data, .data], laidTests := true, laidLooks := .later }
def TimingPathsUptoCardSaid : Prop := Claim7.holds Tryd.pinned (.plain (OpenSpec.upto timingPathsSpec)) timingPathsUptoCard

/-- THE SECOND FORM's CARD OF 'masklaw4.HoldAdds'. -/
def holdAddsUptoCard : Claim7 := { stood := { row := holdAddsUptoRow, standIns := [], harness := (true, "ee31560ff20607f8c6473ef33a9f185954c12d06d16f59d64e9e7989a5e40534"), looks := false }, kinds := [], alts := [], laidByText := true, laidKinds := [.data, .data, .data], laidTests := true, laidLooks := .later }
def HoldAddsUptoCardSaid : Prop := Claim7.holds Tryd.pinned (.plain (OpenSpec.upto holdAddsSpec)) holdAddsUptoCard
end Rows
end Go.Proofs.YtfieobmlocgcnaaDoor
