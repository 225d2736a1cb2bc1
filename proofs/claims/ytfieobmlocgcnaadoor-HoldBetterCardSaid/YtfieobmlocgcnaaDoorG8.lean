/-
  Part of a proof.
-/
import Derived.Test.YtfieobmlocgcnaaDoorG7
import Derived.Test.YtfieobmlocgcnaaDoorTie
import Derived.Test.YtfieobmlocgcnaaDoorCards
import Derived.SevenTiedAt
namespace Go.Proofs.YtfieobmlocgcnaaDoor
open Go
set_option maxRecDepth 100000
theorem holdBetter_card : Rows.HoldBetterCardSaid :=
  Claim7.holds_tied_plain_at .later [] [.data, .data, .data] true (true, "ee31560ff20607f8c6473ef33a9f185954c12d06d16f59d64e9e7989a5e40534") false
    holdBetter.over (fun _ h => by cases h) (by kernel_rfl) (fun _ h => by cases h) holdBetter_row_tie rfl ⟨rfl, rfl⟩ (by kernel_rfl) rfl
    (fun f fn hf hfn => by
      obtain rfl : f = 3 := Option.some.inj ((show Tryd.prog.funcNamed "maskwright/masklaw4.HoldBetter" = some 3 by kernel_rfl).symm.trans hf) |>.symm
      obtain rfl : fn = Tryd.f3 := (Option.some.inj (Tryd.func3.symm.trans hfn)).symm
      exact ⟨by kernel_rfl, fun j t ht => by
        rw [Tryd.params3] at ht
        have h3 : t = 22 ∨ t = 3 := by
          rcases j with _ | _ | _ | j
          · left; simpa using ht.symm
          · left; simpa using ht.symm
          · right; simpa using ht.symm
          · simp at ht
        rcases h3 with rfl | rfl
        · exact (show Tryd.prog.wantsStandIn 22 = false by kernel_rfl)
        · exact (show Tryd.prog.wantsStandIn 3 = false by kernel_rfl)⟩)
    (by kernel_rfl)
end Go.Proofs.YtfieobmlocgcnaaDoor
