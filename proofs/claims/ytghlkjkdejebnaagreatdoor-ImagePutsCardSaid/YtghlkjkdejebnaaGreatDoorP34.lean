/- ImagePuts's statement. -/
import Derived.Test.YtghlkjkdejebnaaGreatDoorP32
import Derived.Test.YtghlkjkdejebnaaGreatDoorP33
set_option linter.unusedSimpArgs false
set_option linter.unusedVariables false
set_option linter.unnecessarySimpa false
namespace Go.Proofs.YtghlkjkdejebnaaGreatDoor
open Rg Go Go.RowKit Go.WideShapes Go.ChangeShapes
theorem imagePuts_named : Tryz.prog.funcNamed "ringer/ringerlaw21.ImagePuts" = some 5 := by kernel_rfl
theorem imagePuts_card : Rows.ImagePutsCardSaid :=
  Claim7.holds_tied_plain_at .later [] Rows.imagePutsCard.laidKinds true Rows.imagePutsCard.stood.harness true
    imagePuts_holds (fun _ h => by cases h) (by kernel_rfl) (fun _ h => by cases h) imagePuts_row_tie rfl ⟨rfl, rfl⟩ (by kernel_rfl) rfl
    (fun f fn hf hfn => by
      obtain rfl : f = 5 := Option.some.inj (imagePuts_named.symm.trans hf) |>.symm
      obtain rfl : fn = Tryz.f5 := (Option.some.inj (Tryz.func5.symm.trans hfn)).symm
      exact ⟨by kernel_rfl, fun j t ht => by
        rw [Tryz.params5] at ht
        have h3 : (([44, 28] : List TypeId).all fun t => Tryz.prog.wantsStandIn t == false) = true := by kernel_rfl
        exact beq_iff_eq.1 (List.all_eq_true.1 h3 t (List.mem_of_getElem? (i := j) (by simpa using ht)))⟩)
    imagePuts_goes
#print axioms imagePuts_card
end Go.Proofs.YtghlkjkdejebnaaGreatDoor
