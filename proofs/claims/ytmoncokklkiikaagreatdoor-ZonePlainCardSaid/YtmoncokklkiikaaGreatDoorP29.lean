/- ZonePlain's statement. -/
import Derived.Test.YtmoncokklkiikaaGreatDoorP27
import Derived.Test.YtmoncokklkiikaaGreatDoorP28
set_option linter.unusedSimpArgs false
set_option linter.unusedVariables false
set_option linter.unnecessarySimpa false
namespace Go.Proofs.YtmoncokklkiikaaGreatDoor
open Rg Go Go.RowKit Go.WideShapes Go.ChangeShapes
theorem zonePlain_named : Tryz.prog.funcNamed "ringer/ringerlaw36.ZonePlain" = some 5 := by kernel_rfl
theorem zonePlain_card : Rows.ZonePlainCardSaid :=
  Claim7.holds_tied_plain_at .later [] Rows.zonePlainCard.laidKinds true Rows.zonePlainCard.stood.harness true
    zonePlain_holds (fun _ h => by cases h) (by kernel_rfl) (fun _ h => by cases h) zonePlain_row_tie rfl ⟨rfl, rfl⟩ (by kernel_rfl) rfl
    (fun f fn hf hfn => by
      obtain rfl : f = 5 := Option.some.inj (zonePlain_named.symm.trans hf) |>.symm
      obtain rfl : fn = Tryz.f5 := (Option.some.inj (Tryz.func5.symm.trans hfn)).symm
      exact ⟨by kernel_rfl, fun j t ht => by
        rw [Tryz.params5] at ht
        have h3 : (([3, 42, 2, 36] : List TypeId).all fun t => Tryz.prog.wantsStandIn t == false) = true := by kernel_rfl
        exact beq_iff_eq.1 (List.all_eq_true.1 h3 t (List.mem_of_getElem? (i := j) (by simpa using ht)))⟩)
    zonePlain_goes
#print axioms zonePlain_card
end Go.Proofs.YtmoncokklkiikaaGreatDoor
