/- ZoneOnce: the row. -/
import Derived.Test.YtmoncokklkiikaaGreatDoorP28
import Derived.Test.YtmoncokklkiikaaGreatDoorP29
set_option linter.unusedSimpArgs false
set_option linter.unusedVariables false
set_option linter.unnecessarySimpa false
namespace Go.Proofs.YtmoncokklkiikaaGreatDoor
open Rg Go Go.RowKit Go.WideShapes Go.ChangeShapes
theorem zoneOnce_holds : Rows.ZoneOnceSaid :=
  OpenClaim.holds_of_wide 7 Tryz.f7 rfl rfl rfl rfl rfl rfl rfl ⟨rfl, rfl, rfl, rfl, rfl⟩ rfl rfl rfl rfl rfl (by kernel_rfl) Tryz.func7 zoneOnce_joined
    (of_decide_eq_true (by kernel_rfl)) (by unfold Func.isWrapper; first | (rw [if_pos (by decide +kernel)]; kernel_rfl) | (rw [if_neg (by decide +kernel)]; exact ⟨rfl, rfl⟩))
    (fun os started H enc _ => zoneOnce_lifted os started H enc)
end Go.Proofs.YtmoncokklkiikaaGreatDoor
