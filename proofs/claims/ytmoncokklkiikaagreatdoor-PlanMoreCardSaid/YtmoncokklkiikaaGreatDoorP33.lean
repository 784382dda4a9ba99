/- PlanMore's statement. -/
import Derived.Test.YtmoncokklkiikaaGreatDoorP31
import Derived.Test.YtmoncokklkiikaaGreatDoorP32
set_option linter.unusedSimpArgs false
set_option linter.unusedVariables false
set_option linter.unnecessarySimpa false
namespace Go.Proofs.YtmoncokklkiikaaGreatDoor
open Rg Go Go.RowKit Go.WideShapes Go.ChangeShapes
theorem planMore_named : Tryz.prog.funcNamed "ringer/ringerlaw37.PlanMore" = some 12 := by kernel_rfl
theorem planMore_card : Rows.PlanMoreCardSaid :=
  Claim7.holds_tied_plain_at .later [] Rows.planMoreCard.laidKinds true Rows.planMoreCard.stood.harness true
    planMore_holds (fun _ h => by cases h) (by kernel_rfl) (fun _ h => by cases h) planMore_row_tie rfl ⟨rfl, rfl⟩ (by kernel_rfl) rfl
    (fun f fn hf hfn => by
      obtain rfl : f = 12 := Option.some.inj (planMore_named.symm.trans hf) |>.symm
      obtain rfl : fn = Tryz.f12 := (Option.some.inj (Tryz.func12.symm.trans hfn)).symm
      exact ⟨by kernel_rfl, fun j t ht => by
        rw [Tryz.params12] at ht
        have h3 : (([95, 25, 2, 2] : List TypeId).all fun t => Tryz.prog.wantsStandIn t == false) = true := by kernel_rfl
        exact beq_iff_eq.1 (List.all_eq_true.1 h3 t (List.mem_of_getElem? (i := j) (by simpa using ht)))⟩)
    planMore_goes
#print axioms planMore_card
end Go.Proofs.YtmoncokklkiikaaGreatDoor
