/- JobBack's statement. -/
import Derived.Test.YtmoncokklkiikaaGreatDoorP31
import Derived.Test.YtmoncokklkiikaaGreatDoorP32
set_option linter.unusedSimpArgs false
set_option linter.unusedVariables false
set_option linter.unnecessarySimpa false
namespace Go.Proofs.YtmoncokklkiikaaGreatDoor
open Rg Go Go.RowKit Go.WideShapes Go.ChangeShapes
theorem jobBack_named : Tryz.prog.funcNamed "ringer/ringerlaw14.JobBack" = some 3 := by kernel_rfl
theorem jobBack_card : Rows.JobBackCardSaid :=
  Claim7.holds_tied_plain_at .later [] Rows.jobBackCard.laidKinds true Rows.jobBackCard.stood.harness true
    jobBack_holds (fun _ h => by cases h) (by kernel_rfl) (fun _ h => by cases h) jobBack_row_tie rfl ⟨rfl, rfl⟩ (by kernel_rfl) rfl
    (fun f fn hf hfn => by
      obtain rfl : f = 3 := Option.some.inj (jobBack_named.symm.trans hf) |>.symm
      obtain rfl : fn = Tryz.f3 := (Option.some.inj (Tryz.func3.symm.trans hfn)).symm
      exact ⟨by kernel_rfl, fun j t ht => by
        rw [Tryz.params3] at ht
        have h3 : (([25, 26, 26, 2, 2, 2, 3] : List TypeId).all fun t => Tryz.prog.wantsStandIn t == false) = true := by kernel_rfl
        exact beq_iff_eq.1 (List.all_eq_true.1 h3 t (List.mem_of_getElem? (i := j) (by simpa using ht)))⟩)
    jobBack_goes
#print axioms jobBack_card
end Go.Proofs.YtmoncokklkiikaaGreatDoor
