/- ImagePuts: the row. -/
import Derived.Test.YtghlkjkdejebnaaGreatDoorP30
import Derived.Test.YtghlkjkdejebnaaGreatDoorP31
set_option linter.unusedSimpArgs false
set_option linter.unusedVariables false
set_option linter.unnecessarySimpa false
namespace Go.Proofs.YtghlkjkdejebnaaGreatDoor
open Rg Go Go.RowKit Go.WideShapes Go.ChangeShapes
theorem imagePuts_holds : Rows.ImagePutsSaid :=
  OpenClaim.holds_of_wide 5 Tryz.f5 rfl rfl rfl rfl rfl rfl rfl ⟨rfl, rfl, rfl, rfl, rfl⟩ rfl rfl rfl rfl rfl (by kernel_rfl) Tryz.func5 imagePuts_joined
    (of_decide_eq_true (by kernel_rfl)) (by unfold Func.isWrapper; first | (rw [if_pos (by decide +kernel)]; kernel_rfl) | (rw [if_neg (by decide +kernel)]; exact ⟨rfl, rfl⟩))
    (fun os started H enc _ => imagePuts_lifted os started H enc)
end Go.Proofs.YtghlkjkdejebnaaGreatDoor
