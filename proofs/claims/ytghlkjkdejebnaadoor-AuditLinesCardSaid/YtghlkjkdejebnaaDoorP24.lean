/- AuditLines's statement. -/
import Derived.Test.YtghlkjkdejebnaaDoorP22
import Derived.Test.YtghlkjkdejebnaaDoorP23
set_option linter.unusedSimpArgs false
set_option linter.unusedVariables false
set_option linter.unnecessarySimpa false
namespace Go.Proofs.YtghlkjkdejebnaaDoor
open Rg Go Go.RowKit Go.WideShapes Go.ChangeShapes
theorem auditLines_named : Tryd.prog.funcNamed "ringer/ringerlaw40.AuditLines" = some 3 := by kernel_rfl
theorem auditLines_card : Rows.AuditLinesCardSaid :=
  Claim7.holds_tied_plain_at .later [] Rows.auditLinesCard.laidKinds true Rows.auditLinesCard.stood.harness true
    auditLines_holds (fun _ h => by cases h) (by kernel_rfl) (fun _ h => by cases h) auditLines_row_tie rfl ⟨rfl, rfl⟩ (by kernel_rfl) rfl
    (fun f fn hf hfn => by
      obtain rfl : f = 3 := Option.some.inj (auditLines_named.symm.trans hf) |>.symm
      obtain rfl : fn = Tryd.f3 := (Option.some.inj (Tryd.func3.symm.trans hfn)).symm
      exact ⟨by kernel_rfl, fun j t ht => by
        rw [Tryd.params3] at ht
        have h3 : (([23, 9] : List TypeId).all fun t => Tryd.prog.wantsStandIn t == false) = true := by kernel_rfl
        exact beq_iff_eq.1 (List.all_eq_true.1 h3 t (List.mem_of_getElem? (i := j) (by simpa using ht)))⟩)
    auditLines_goes
#print axioms auditLines_card
end Go.Proofs.YtghlkjkdejebnaaDoor
