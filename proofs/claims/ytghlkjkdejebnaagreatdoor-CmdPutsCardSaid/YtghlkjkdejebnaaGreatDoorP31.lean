/- CmdPuts's statement. -/
import Derived.Test.YtghlkjkdejebnaaGreatDoorP29
import Derived.Test.YtghlkjkdejebnaaGreatDoorP30
set_option linter.unusedSimpArgs false
set_option linter.unusedVariables false
set_option linter.unnecessarySimpa false
namespace Go.Proofs.YtghlkjkdejebnaaGreatDoor
open Rg Go Go.RowKit Go.WideShapes Go.ChangeShapes
theorem cmdPuts_named : Tryz.prog.funcNamed "ringer/ringerlaw19.CmdPuts" = some 3 := by kernel_rfl
theorem cmdPuts_card : Rows.CmdPutsCardSaid :=
  Claim7.holds_tied_plain_at .later [] Rows.cmdPutsCard.laidKinds true Rows.cmdPutsCard.stood.harness true
    cmdPuts_holds (fun _ h => by cases h) (by kernel_rfl) (fun _ h => by cases h) cmdPuts_row_tie rfl ⟨rfl, rfl⟩ (by kernel_rfl) rfl
    (fun f fn hf hfn => by
      obtain rfl : f = 3 := Option.some.inj (cmdPuts_named.symm.trans hf) |>.symm
      obtain rfl : fn = Tryz.f3 := (Option.some.inj (Tryz.func3.symm.trans hfn)).symm
      exact ⟨by kernel_rfl, fun j t ht => by
        rw [Tryz.params3] at ht
        have h3 : (([27, 27, 28] : List TypeId).all fun t => Tryz.prog.wantsStandIn t == false) = true := by kernel_rfl
        exact beq_iff_eq.1 (List.all_eq_true.1 h3 t (List.mem_of_getElem? (i := j) (by simpa using ht)))⟩)
    cmdPuts_goes
#print axioms cmdPuts_card
end Go.Proofs.YtghlkjkdejebnaaGreatDoor
