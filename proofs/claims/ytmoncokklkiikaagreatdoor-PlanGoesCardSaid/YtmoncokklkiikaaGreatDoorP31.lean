/- PlanGoes's statement. -/
import Derived.Test.YtmoncokklkiikaaGreatDoorP29
import Derived.Test.YtmoncokklkiikaaGreatDoorP30
set_option linter.unusedSimpArgs false
set_option linter.unusedVariables false
set_option linter.unnecessarySimpa false
namespace Go.Proofs.YtmoncokklkiikaaGreatDoor
open Rg Go Go.RowKit Go.WideShapes Go.ChangeShapes
theorem planGoes_named : Tryz.prog.funcNamed "ringer/ringerlaw37.PlanGoes" = some 10 := by kernel_rfl
theorem planGoes_card : Rows.PlanGoesCardSaid :=
  Claim7.holds_tied_plain_at .later [] Rows.planGoesCard.laidKinds true Rows.planGoesCard.stood.harness true
    planGoes_holds (fun _ h => by cases h) (by kernel_rfl) (fun _ h => by cases h) planGoes_row_tie rfl ⟨rfl, rfl⟩ (by kernel_rfl) rfl
    (fun f fn hf hfn => by
      obtain rfl : f = 10 := Option.some.inj (planGoes_named.symm.trans hf) |>.symm
      obtain rfl : fn = Tryz.f10 := (Option.some.inj (Tryz.func10.symm.trans hfn)).symm
      exact ⟨by kernel_rfl, fun j t ht => by
        rw [Tryz.params10] at ht
        have h3 : (([95, 2, 2, 3, 3] : List TypeId).all fun t => Tryz.prog.wantsStandIn t == false) = true := by kernel_rfl
        exact beq_iff_eq.1 (List.all_eq_true.1 h3 t (List.mem_of_getElem? (i := j) (by simpa using ht)))⟩)
    planGoes_goes
#print axioms planGoes_card
end Go.Proofs.YtmoncokklkiikaaGreatDoor
