/- ZoneTells: from the walk to the row. -/
import Derived.Test.YtmoncokklkiikaaGreatDoorP20
import Derived.Test.YtmoncokklkiikaaGreatDoorP23
set_option linter.unusedSimpArgs false
set_option linter.unusedVariables false
set_option linter.unnecessarySimpa false
namespace Go.Proofs.YtmoncokklkiikaaGreatDoor
open Rg Go Go.RowKit Go.WideShapes Go.ChangeShapes
theorem zoneTells_shapes : (([55, 2, 48] : List TypeId).mapM fun t => shOf Tryz.prog 9 t) = some [.st [.int .i64, .sl (.st [.int .i64, .int .i64])], .int .i64, .st [.st [.int .i64, .int .i64, .int .i64], .int .i64, .int .i64, .int .i64, .int .i64]] := by kernel_rfl
theorem zoneTells_reads : (([55, 2, 48] : List TypeId).all fun t => Tryz.prog.readableRec t && decide (t < Tryz.prog.types.size)) = true := by kernel_rfl
theorem zoneTells_law {H0 : Heap} (hG : GlobZ H0) (xs : List AV) (h : fitsAll [.st [.int .i64, .sl (.st [.int .i64, .int .i64])], .int .i64, .st [.st [.int .i64, .int .i64, .int .i64], .int .i64, .int .i64, .int .i64, .int .i64]] xs) : ∃ K, AOk Tryz.prog 6 xs H0 (.sc (.bool true)) K := by
  obtain ⟨a0, r0, rfl, h0, a1, r1, rfl, h1, a2, r2, rfl, h2, hz⟩ := h
  simp only [fitsAll] at hz
  subst hz
  obtain ⟨z, rfl, hz⟩ := fits_zone h0
  obtain ⟨m, rfl, m1, m2⟩ := fits_i64 h1
  obtain ⟨c, rfl, hc⟩ := fits_clock h2
  exact ⟨H0, zoneTells_ok hG z _ m c⟩
set_option maxRecDepth 100000 in
theorem zoneTells_met (os : Os) (args : Array Value) : laidMet Tryz.prog Rows.zoneTellsRow.laid ((laidWorld os).forCall (fun _ _ => 0) ⟨#[], args, []⟩).memory :=
  laidMet_of_run' 8 (by kernel_rfl) (by kernel_rfl)
set_option maxRecDepth 100000 in
theorem zoneTells_lifted (os : Os) (started : os.Started) (H : Type) (enc : TypeId × Value → H) :
    ReturnsInHanded {} Tryz.checked os 6 .any (fun w args => (Rows.zoneTellsSpec.pre enc Tryz.prog Tryz.f6 Rows.zoneTellsRow.domain false w args ∧ laidMet Tryz.prog Rows.zoneTellsRow.laid w) ∧ sizedMet enc Tryz.prog Tryz.f6 (OpenSpec.ofChange Rows.zoneTellsSpec) false w args)
      (Rows.zoneTellsSpec.post enc Tryz.prog Tryz.f6 false true false false) := by
  refine returnsInHanded_of_change_and_shaped (C := Tryz.checked) (X := fun w _ => laidMet Tryz.prog Rows.zoneTellsRow.laid w) (fun _ _ _ hh h => h.of_heap hh) own started (by kernel_rfl) Tryz.func6
    (ChangeSpec.witness_at (enc := enc) (C := Tryz.checked) (os := os) (X := fun w _ => laidMet Tryz.prog Rows.zoneTellsRow.laid w) false (laidWorld os) #[.agg #[.int .i64 0, .slice none 0 0], .int .i64 0, .agg #[.int .i64 0, .int .i64 0, .int .i64 0, .int .i64 0, .int .i64 0, .int .i64 0, .int .i64 0]] 8 rfl (by kernel_rfl) (by kernel_rfl) (by kernel_rfl) (by kernel_rfl) (by kernel_rfl) (zoneTells_met os _)) ?_
  intro W base args ds gs before hval hW hL hsh
  have hm := groZ_reads hL (by simp [Rows.zoneTellsRow]) (by simp [Rows.zoneTellsRow])
  refine law_contract2 (P := Tryz.prog) (hfn := Tryz.func6) (ts := [55, 2, 48]) (rt := 4) (n := 9) (by rw [Tryz.params6]) zoneTells_shapes (by kernel_rfl) bool_type rfl (fun ds h => ?_) laidOut zoneTells_reads W hm (zoneTells_law (globZ_gro)) base args ds gs before hval hW
  match ds, h with
  | [_, _, _], _ => rfl
end Go.Proofs.YtmoncokklkiikaaGreatDoor
