/- TablePlays's statement. -/
import Derived.Test.YtlhgpodfhdddkaaGreatDoorP36
import Derived.Test.YtlhgpodfhdddkaaGreatDoorP37
set_option linter.unusedSimpArgs false
set_option linter.unusedVariables false
set_option linter.unnecessarySimpa false
namespace Go.Proofs.YtlhgpodfhdddkaaGreatDoor
open Rg Go Go.RowKit Go.WideShapes Go.ChangeShapes
theorem tablePlays_named : Tryz.prog.funcNamed "ringer/ringerlaw15.TablePlays" = some 3 := by kernel_rfl
theorem tablePlays_card : Rows.TablePlaysCardSaid :=
  Claim7.holds_tied_plain_at .later [] Rows.tablePlaysCard.laidKinds true Rows.tablePlaysCard.stood.harness true
    tablePlays_holds (fun _ h => by cases h) (by kernel_rfl) (fun _ h => by cases h) tablePlays_row_tie rfl ⟨rfl, rfl⟩ (by kernel_rfl) rfl
    (fun f fn hf hfn => by
      obtain rfl : f = 3 := Option.some.inj (tablePlays_named.symm.trans hf) |>.symm
      obtain rfl : fn = Tryz.f3 := (Option.some.inj (Tryz.func3.symm.trans hfn)).symm
      exact ⟨by kernel_rfl, fun j t ht => by
        rw [Tryz.params3] at ht
        have h3 : (([22, 9] : List TypeId).all fun t => Tryz.prog.wantsStandIn t == false) = true := by kernel_rfl
        exact beq_iff_eq.1 (List.all_eq_true.1 h3 t (List.mem_of_getElem? (i := j) (by simpa using ht)))⟩)
    tablePlays_goes
#print axioms tablePlays_card
end Go.Proofs.YtlhgpodfhdddkaaGreatDoor
