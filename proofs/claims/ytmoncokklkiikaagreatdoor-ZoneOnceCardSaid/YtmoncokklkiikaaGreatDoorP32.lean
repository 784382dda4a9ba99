/- ZoneOnce's statement. -/
import Derived.Test.YtmoncokklkiikaaGreatDoorP30
import Derived.Test.YtmoncokklkiikaaGreatDoorP31
set_option linter.unusedSimpArgs false
set_option linter.unusedVariables false
set_option linter.unnecessarySimpa false
namespace Go.Proofs.YtmoncokklkiikaaGreatDoor
open Rg Go Go.RowKit Go.WideShapes Go.ChangeShapes
theorem zoneOnce_named : Tryz.prog.funcNamed "ringer/ringerlaw36.ZoneOnce" = some 7 := by kernel_rfl
theorem zoneOnce_card : Rows.ZoneOnceCardSaid :=
  Claim7.holds_tied_plain_at .later [] Rows.zoneOnceCard.laidKinds true Rows.zoneOnceCard.stood.harness true
    zoneOnce_holds (fun _ h => by cases h) (by kernel_rfl) (fun _ h => by cases h) zoneOnce_row_tie rfl ⟨rfl, rfl⟩ (by kernel_rfl) rfl
    (fun f fn hf hfn => by
      obtain rfl : f = 7 := Option.some.inj (zoneOnce_named.symm.trans hf) |>.symm
      obtain rfl : fn = Tryz.f7 := (Option.some.inj (Tryz.func7.symm.trans hfn)).symm
      exact ⟨by kernel_rfl, fun j t ht => by
        rw [Tryz.params7] at ht
        have h3 : (([55, 42, 2] : List TypeId).all fun t => Tryz.prog.wantsStandIn t == false) = true := by kernel_rfl
        exact beq_iff_eq.1 (List.all_eq_true.1 h3 t (List.mem_of_getElem? (i := j) (by simpa using ht)))⟩)
    zoneOnce_goes
#print axioms zoneOnce_card
end Go.Proofs.YtmoncokklkiikaaGreatDoor
