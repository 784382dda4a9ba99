/- ZoneTells's statement. -/
import Derived.Test.YtmoncokklkiikaaGreatDoorP26
import Derived.Test.YtmoncokklkiikaaGreatDoorP27
set_option linter.unusedSimpArgs false
set_option linter.unusedVariables false
set_option linter.unnecessarySimpa false
namespace Go.Proofs.YtmoncokklkiikaaGreatDoor
open Rg Go Go.RowKit Go.WideShapes Go.ChangeShapes
theorem zoneTells_named : Tryz.prog.funcNamed "ringer/ringerlaw36.ZoneTells" = some 6 := by kernel_rfl
theorem zoneTells_card : Rows.ZoneTellsCardSaid :=
  Claim7.holds_tied_plain_at .later [] Rows.zoneTellsCard.laidKinds true Rows.zoneTellsCard.stood.harness true
    zoneTells_holds (fun _ h => by cases h) (by kernel_rfl) (fun _ h => by cases h) zoneTells_row_tie rfl ⟨rfl, rfl⟩ (by kernel_rfl) rfl
    (fun f fn hf hfn => by
      obtain rfl : f = 6 := Option.some.inj (zoneTells_named.symm.trans hf) |>.symm
      obtain rfl : fn = Tryz.f6 := (Option.some.inj (Tryz.func6.symm.trans hfn)).symm
      exact ⟨by kernel_rfl, fun j t ht => by
        rw [Tryz.params6] at ht
        have h3 : (([55, 2, 48] : List TypeId).all fun t => Tryz.prog.wantsStandIn t == false) = true := by kernel_rfl
        exact beq_iff_eq.1 (List.all_eq_true.1 h3 t (List.mem_of_getElem? (i := j) (by simpa using ht)))⟩)
    zoneTells_goes
#print axioms zoneTells_card
end Go.Proofs.YtmoncokklkiikaaGreatDoor
