/- AuditLines: the row. -/
import Derived.Test.YtghlkjkdejebnaaDoorP20
import Derived.Test.YtghlkjkdejebnaaDoorP21
set_option linter.unusedSimpArgs false
set_option linter.unusedVariables false
set_option linter.unnecessarySimpa false
namespace Go.Proofs.YtghlkjkdejebnaaDoor
open Rg Go Go.RowKit Go.WideShapes Go.ChangeShapes
theorem auditLines_holds : Rows.AuditLinesSaid :=
  OpenClaim.holds_of_wide 3 Tryd.f3 rfl rfl rfl rfl rfl rfl rfl ⟨rfl, rfl, rfl, rfl, rfl⟩ rfl rfl rfl rfl rfl (by kernel_rfl) Tryd.func3 auditLines_joined
    (of_decide_eq_true (by kernel_rfl)) (by unfold Func.isWrapper; first | (rw [if_pos (by decide +kernel)]; kernel_rfl) | (rw [if_neg (by decide +kernel)]; exact ⟨rfl, rfl⟩))
    (fun os started H enc _ => auditLines_lifted os started H enc)
end Go.Proofs.YtghlkjkdejebnaaDoor
