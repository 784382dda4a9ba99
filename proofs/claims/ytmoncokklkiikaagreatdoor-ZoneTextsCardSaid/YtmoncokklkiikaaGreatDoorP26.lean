/- ZoneTexts: from the walk to the row. -/
import Derived.Test.YtmoncokklkiikaaGreatDoorP22
import Derived.Test.YtmoncokklkiikaaGreatDoorP25
set_option linter.unusedSimpArgs false
set_option linter.unusedVariables false
set_option linter.unnecessarySimpa false
namespace Go.Proofs.YtmoncokklkiikaaGreatDoor
open Rg Go Go.RowKit Go.WideShapes Go.ChangeShapes
theorem zoneTexts_shapes : (([55, 9] : List TypeId).mapM fun t => shOf Tryz.prog 9 t) = some [.st [.int .i64, .sl (.st [.int .i64, .int .i64])], .str] := by kernel_rfl
theorem zoneTexts_reads : (([55, 9] : List TypeId).all fun t => Tryz.prog.readableRec t && decide (t < Tryz.prog.types.size)) = true := by kernel_rfl
theorem zoneTexts_law {H0 : Heap} (hG : GlobE H0) (xs : List AV) (h : fitsAll [.st [.int .i64, .sl (.st [.int .i64, .int .i64])], .str] xs) : ∃ K, AOk Tryz.prog 8 xs H0 (.sc (.bool true)) K := by
  obtain ⟨a0, r0, rfl, h0, a1, r1, rfl, h1, hz⟩ := h
  simp only [fitsAll] at hz
  subst hz
  obtain ⟨z, rfl, hz⟩ := fits_zone h0
  obtain ⟨s, rfl, hs⟩ := fits_str h1
  exact ⟨H0, zoneTexts_ok hG z _ s⟩
set_option maxRecDepth 100000 in
theorem zoneTexts_met (os : Os) (args : Array Value) : laidMet Tryz.prog Rows.zoneTextsRow.laid ((laidWorld os).forCall (fun _ _ => 0) ⟨#[], args, []⟩).memory :=
  laidMet_of_run' 8 (by kernel_rfl) (by kernel_rfl)
set_option maxRecDepth 100000 in
theorem zoneTexts_lifted (os : Os) (started : os.Started) (H : Type) (enc : TypeId × Value → H) :
    ReturnsInHanded {} Tryz.checked os 8 .any (fun w args => (Rows.zoneTextsSpec.pre enc Tryz.prog Tryz.f8 Rows.zoneTextsRow.domain false w args ∧ laidMet Tryz.prog Rows.zoneTextsRow.laid w) ∧ sizedMet enc Tryz.prog Tryz.f8 (OpenSpec.ofChange Rows.zoneTextsSpec) false w args)
      (Rows.zoneTextsSpec.post enc Tryz.prog Tryz.f8 false true false false) := by
  refine returnsInHanded_of_change_and_shaped (C := Tryz.checked) (X := fun w _ => laidMet Tryz.prog Rows.zoneTextsRow.laid w) (fun _ _ _ hh h => h.of_heap hh) own started (by kernel_rfl) Tryz.func8
    (ChangeSpec.witness_at (enc := enc) (C := Tryz.checked) (os := os) (X := fun w _ => laidMet Tryz.prog Rows.zoneTextsRow.laid w) false (laidWorld os) #[.agg #[.int .i64 0, .slice none 0 0], .string ⟨#[]⟩] 8 rfl (by kernel_rfl) (by kernel_rfl) (by kernel_rfl) (by kernel_rfl) (by kernel_rfl) (zoneTexts_met os _)) ?_
  intro W base args ds gs before hval hW hL hsh
  obtain ⟨t1, p1, t2, p2, hm⟩ := groE_reads hL (by simp [Rows.zoneTextsRow]) (by simp [Rows.zoneTextsRow]) (by simp [Rows.zoneTextsRow]) (by simp [Rows.zoneTextsRow])
  refine law_contract2 (P := Tryz.prog) (hfn := Tryz.func8) (ts := [55, 9]) (rt := 4) (n := 9) (by rw [Tryz.params8]) zoneTexts_shapes (by kernel_rfl) bool_type rfl (fun ds h => ?_) laidOut zoneTexts_reads W hm (zoneTexts_law (globE_gro t1 p1 t2 p2)) base args ds gs before hval hW
  match ds, h with
  | [_, _], _ => rfl
end Go.Proofs.YtmoncokklkiikaaGreatDoor
