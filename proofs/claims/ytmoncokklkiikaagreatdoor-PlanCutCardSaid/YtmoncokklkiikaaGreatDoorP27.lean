/- PlanCut: from the walk to the row. -/
import Derived.Test.YtmoncokklkiikaaGreatDoorP23
import Derived.Test.YtmoncokklkiikaaGreatDoorP26
set_option linter.unusedSimpArgs false
set_option linter.unusedVariables false
set_option linter.unnecessarySimpa false
namespace Go.Proofs.YtmoncokklkiikaaGreatDoor
open Rg Go Go.RowKit Go.WideShapes Go.ChangeShapes
theorem planCut_shapes : (([95, 2, 2, 2] : List TypeId).mapM fun t => shOf Tryz.prog 9 t) = some [.sl (.st [.int .u64, .str, .str, .int .i64, .int .i64, .int .i64, .int .i64, .int .i64, .sl (.int .u64), .bool, .int .u64, .int .i64]), .int .i64, .int .i64, .int .i64] := by kernel_rfl
theorem planCut_reads : (([95, 2, 2, 2] : List TypeId).all fun t => Tryz.prog.readableRec t && decide (t < Tryz.prog.types.size)) = true := by kernel_rfl
theorem planCut_law {H0 : Heap} (hG : Glob H0) (xs : List AV) (h : fitsAll [.sl (.st [.int .u64, .str, .str, .int .i64, .int .i64, .int .i64, .int .i64, .int .i64, .sl (.int .u64), .bool, .int .u64, .int .i64]), .int .i64, .int .i64, .int .i64] xs) : ∃ K, AOk Tryz.prog 13 xs H0 (.sc (.bool true)) K := by
  obtain ⟨a0, r0, rfl, h0, a1, r1, rfl, h1, a2, r2, rfl, h2, a3, r3, rfl, h3, hz⟩ := h
  simp only [fitsAll] at hz
  subst hz
  obtain ⟨js, rfl, hjs1, hjs2⟩ := fits_jobs h0
  obtain ⟨fr, rfl, fr1, fr2⟩ := fits_i64 h1
  obtain ⟨mid, rfl, mid1, mid2⟩ := fits_i64 h2
  obtain ⟨tt, rfl, tt1, tt2⟩ := fits_i64 h3
  exact ⟨H0, planCut_ok hG hjs1 hjs2 fr mid tt⟩
set_option maxRecDepth 100000 in
theorem planCut_met (os : Os) (args : Array Value) : laidMet Tryz.prog Rows.planCutRow.laid ((laidWorld os).forCall (fun _ _ => 0) ⟨#[], args, []⟩).memory :=
  laidMet_of_run' 8 (by kernel_rfl) (by kernel_rfl)
set_option maxRecDepth 100000 in
theorem planCut_lifted (os : Os) (started : os.Started) (H : Type) (enc : TypeId × Value → H) :
    ReturnsInHanded {} Tryz.checked os 13 .any (fun w args => (Rows.planCutSpec.pre enc Tryz.prog Tryz.f13 Rows.planCutRow.domain false w args ∧ laidMet Tryz.prog Rows.planCutRow.laid w) ∧ sizedMet enc Tryz.prog Tryz.f13 (OpenSpec.ofChange Rows.planCutSpec) false w args)
      (Rows.planCutSpec.post enc Tryz.prog Tryz.f13 false true false false) := by
  refine returnsInHanded_of_change_and_shaped (C := Tryz.checked) (X := fun w _ => laidMet Tryz.prog Rows.planCutRow.laid w) (fun _ _ _ hh h => h.of_heap hh) own started (by kernel_rfl) Tryz.func13
    (ChangeSpec.witness_at (enc := enc) (C := Tryz.checked) (os := os) (X := fun w _ => laidMet Tryz.prog Rows.planCutRow.laid w) false (laidWorld os) #[.slice none 0 0, .int .i64 0, .int .i64 0, .int .i64 0] 8 rfl (by kernel_rfl) (by kernel_rfl) (by kernel_rfl) (by kernel_rfl) (by kernel_rfl) (planCut_met os _)) ?_
  intro W base args ds gs before hval hW hL hsh
  obtain ⟨m, hm⟩ := gro_reads hL hsh (by simp [Rows.planCutRow]) (by simp [Rows.planCutRow]) (by simp [Rows.planCutRow])
  refine law_contract2 (P := Tryz.prog) (hfn := Tryz.func13) (ts := [95, 2, 2, 2]) (rt := 4) (n := 9) (by rw [Tryz.params13]) planCut_shapes (by kernel_rfl) bool_type rfl (fun ds h => ?_) laidOut planCut_reads W hm (planCut_law (glob_gro m)) base args ds gs before hval hW
  match ds, h with
  | [_, _, _, _], _ => rfl
end Go.Proofs.YtmoncokklkiikaaGreatDoor
