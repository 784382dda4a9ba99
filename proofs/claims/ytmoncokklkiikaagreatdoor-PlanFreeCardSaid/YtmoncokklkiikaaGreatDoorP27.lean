/- PlanFree's statement. -/
import Derived.Test.YtmoncokklkiikaaGreatDoorP25
import Derived.Test.YtmoncokklkiikaaGreatDoorP26
set_option linter.unusedSimpArgs false
set_option linter.unusedVariables false
set_option linter.unnecessarySimpa false
namespace Go.Proofs.YtmoncokklkiikaaGreatDoor
open Rg Go Go.RowKit Go.WideShapes Go.ChangeShapes
theorem planFree_named : Tryz.prog.funcNamed "ringer/ringerlaw37.PlanFree" = some 11 := by kernel_rfl
theorem planFree_card : Rows.PlanFreeCardSaid :=
  Claim7.holds_tied_plain_at .later [] Rows.planFreeCard.laidKinds true Rows.planFreeCard.stood.harness true
    planFree_holds (fun _ h => by cases h) (by kernel_rfl) (fun _ h => by cases h) planFree_row_tie rfl ⟨rfl, rfl⟩ (by kernel_rfl) rfl
    (fun f fn hf hfn => by
      obtain rfl : f = 11 := Option.some.inj (planFree_named.symm.trans hf) |>.symm
      obtain rfl : fn = Tryz.f11 := (Option.some.inj (Tryz.func11.symm.trans hfn)).symm
      exact ⟨by kernel_rfl, fun j t ht => by
        rw [Tryz.params11] at ht
        have h3 : (([95, 2, 2] : List TypeId).all fun t => Tryz.prog.wantsStandIn t == false) = true := by kernel_rfl
        exact beq_iff_eq.1 (List.all_eq_true.1 h3 t (List.mem_of_getElem? (i := j) (by simpa using ht)))⟩)
    planFree_goes
#print axioms planFree_card
end Go.Proofs.YtmoncokklkiikaaGreatDoor
