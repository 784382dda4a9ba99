/- ZoneTexts's statement. -/
import Derived.Test.YtmoncokklkiikaaGreatDoorP28
import Derived.Test.YtmoncokklkiikaaGreatDoorP29
set_option linter.unusedSimpArgs false
set_option linter.unusedVariables false
set_option linter.unnecessarySimpa false
namespace Go.Proofs.YtmoncokklkiikaaGreatDoor
open Rg Go Go.RowKit Go.WideShapes Go.ChangeShapes
theorem zoneTexts_named : Tryz.prog.funcNamed "ringer/ringerlaw36.ZoneTexts" = some 8 := by kernel_rfl
theorem zoneTexts_card : Rows.ZoneTextsCardSaid :=
  Claim7.holds_tied_plain_at .later [] Rows.zoneTextsCard.laidKinds true Rows.zoneTextsCard.stood.harness true
    zoneTexts_holds (fun _ h => by cases h) (by kernel_rfl) (fun _ h => by cases h) zoneTexts_row_tie rfl ⟨rfl, rfl⟩ (by kernel_rfl) rfl
    (fun f fn hf hfn => by
      obtain rfl : f = 8 := Option.some.inj (zoneTexts_named.symm.trans hf) |>.symm
      obtain rfl : fn = Tryz.f8 := (Option.some.inj (Tryz.func8.symm.trans hfn)).symm
      exact ⟨by kernel_rfl, fun j t ht => by
        rw [Tryz.params8] at ht
        have h3 : (([55, 9] : List TypeId).all fun t => Tryz.prog.wantsStandIn t == false) = true := by kernel_rfl
        exact beq_iff_eq.1 (List.all_eq_true.1 h3 t (List.mem_of_getElem? (i := j) (by simpa using ht)))⟩)
    zoneTexts_goes
#print axioms zoneTexts_card
end Go.Proofs.YtmoncokklkiikaaGreatDoor
