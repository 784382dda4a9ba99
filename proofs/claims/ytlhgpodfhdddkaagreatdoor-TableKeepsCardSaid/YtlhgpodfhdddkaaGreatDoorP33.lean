/- TableKeeps's statement. -/
import Derived.Test.YtlhgpodfhdddkaaGreatDoorP31
import Derived.Test.YtlhgpodfhdddkaaGreatDoorP32
set_option linter.unusedSimpArgs false
set_option linter.unusedVariables false
set_option linter.unnecessarySimpa false
namespace Go.Proofs.YtlhgpodfhdddkaaGreatDoor
open Rg Go Go.RowKit Go.WideShapes Go.ChangeShapes
theorem tableKeeps_named : Tryz.prog.funcNamed "ringer/ringerlaw15.TableKeeps" = some 4 := by kernel_rfl
theorem tableKeeps_card : Rows.TableKeepsCardSaid :=
  Claim7.holds_tied_plain_at .later [] Rows.tableKeepsCard.laidKinds true Rows.tableKeepsCard.stood.harness true
    tableKeeps_holds (fun _ h => by cases h) (by kernel_rfl) (fun _ h => by cases h) tableKeeps_row_tie rfl ⟨rfl, rfl⟩ (by kernel_rfl) rfl
    (fun f fn hf hfn => by
      obtain rfl : f = 4 := Option.some.inj (tableKeeps_named.symm.trans hf) |>.symm
      obtain rfl : fn = Tryz.f4 := (Option.some.inj (Tryz.func4.symm.trans hfn)).symm
      exact ⟨by kernel_rfl, fun j t ht => by
        rw [Tryz.params4] at ht
        have h3 : (([22] : List TypeId).all fun t => Tryz.prog.wantsStandIn t == false) = true := by kernel_rfl
        exact beq_iff_eq.1 (List.all_eq_true.1 h3 t (List.mem_of_getElem? (i := j) (by simpa using ht)))⟩)
    tableKeeps_goes
#print axioms tableKeeps_card
end Go.Proofs.YtlhgpodfhdddkaaGreatDoor
