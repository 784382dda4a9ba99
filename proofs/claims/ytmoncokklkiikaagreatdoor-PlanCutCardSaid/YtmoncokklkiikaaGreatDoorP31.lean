/- PlanCut's statement. -/
import Derived.Test.YtmoncokklkiikaaGreatDoorP29
import Derived.Test.YtmoncokklkiikaaGreatDoorP30
set_option linter.unusedSimpArgs false
set_option linter.unusedVariables false
set_option linter.unnecessarySimpa false
namespace Go.Proofs.YtmoncokklkiikaaGreatDoor
open Rg Go Go.RowKit Go.WideShapes Go.ChangeShapes
theorem planCut_named : Tryz.prog.funcNamed "ringer/ringerlaw37.PlanCut" = some 13 := by kernel_rfl
theorem planCut_card : Rows.PlanCutCardSaid :=
  Claim7.holds_tied_plain_at .later [] Rows.planCutCard.laidKinds true Rows.planCutCard.stood.harness true
    planCut_holds (fun _ h => by cases h) (by kernel_rfl) (fun _ h => by cases h) planCut_row_tie rfl ⟨rfl, rfl⟩ (by kernel_rfl) rfl
    (fun f fn hf hfn => by
      obtain rfl : f = 13 := Option.some.inj (planCut_named.symm.trans hf) |>.symm
      obtain rfl : fn = Tryz.f13 := (Option.some.inj (Tryz.func13.symm.trans hfn)).symm
      exact ⟨by kernel_rfl, fun j t ht => by
        rw [Tryz.params13] at ht
        have h3 : (([95, 2, 2, 2] : List TypeId).all fun t => Tryz.prog.wantsStandIn t == false) = true := by kernel_rfl
        exact beq_iff_eq.1 (List.all_eq_true.1 h3 t (List.mem_of_getElem? (i := j) (by simpa using ht)))⟩)
    planCut_goes
#print axioms planCut_card
end Go.Proofs.YtmoncokklkiikaaGreatDoor
