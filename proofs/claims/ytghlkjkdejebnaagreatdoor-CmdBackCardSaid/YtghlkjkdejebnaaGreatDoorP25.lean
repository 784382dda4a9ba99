/- CmdBack's statement. -/
import Derived.Test.YtghlkjkdejebnaaGreatDoorP23
import Derived.Test.YtghlkjkdejebnaaGreatDoorP24
set_option linter.unusedSimpArgs false
set_option linter.unusedVariables false
set_option linter.unnecessarySimpa false
namespace Go.Proofs.YtghlkjkdejebnaaGreatDoor
open Rg Go Go.RowKit Go.WideShapes Go.ChangeShapes
theorem cmdBack_named : Tryz.prog.funcNamed "ringer/ringerlaw19.CmdBack" = some 4 := by kernel_rfl
theorem cmdBack_card : Rows.CmdBackCardSaid :=
  Claim7.holds_tied_plain_at .later [] Rows.cmdBackCard.laidKinds true Rows.cmdBackCard.stood.harness true
    cmdBack_holds (fun _ h => by cases h) (by kernel_rfl) (fun _ h => by cases h) cmdBack_row_tie rfl ⟨rfl, rfl⟩ (by kernel_rfl) rfl
    (fun f fn hf hfn => by
      obtain rfl : f = 4 := Option.some.inj (cmdBack_named.symm.trans hf) |>.symm
      obtain rfl : fn = Tryz.f4 := (Option.some.inj (Tryz.func4.symm.trans hfn)).symm
      exact ⟨by kernel_rfl, fun j t ht => by
        rw [Tryz.params4] at ht
        have h3 : (([27, 27, 3, 28] : List TypeId).all fun t => Tryz.prog.wantsStandIn t == false) = true := by kernel_rfl
        exact beq_iff_eq.1 (List.all_eq_true.1 h3 t (List.mem_of_getElem? (i := j) (by simpa using ht)))⟩)
    cmdBack_goes
#print axioms cmdBack_card
end Go.Proofs.YtghlkjkdejebnaaGreatDoor
