/- PlanFree: from the walk to the row. -/
import Derived.Test.YtmoncokklkiikaaGreatDoorP19
import Derived.Test.YtmoncokklkiikaaGreatDoorP22
set_option linter.unusedSimpArgs false
set_option linter.unusedVariables false
set_option linter.unnecessarySimpa false
namespace Go.Proofs.YtmoncokklkiikaaGreatDoor
open Rg Go Go.RowKit Go.WideShapes Go.ChangeShapes
theorem planFree_shapes : (([95, 2, 2] : List TypeId).mapM fun t => shOf Tryz.prog 9 t) = some [.sl (.st [.int .u64, .str, .str, .int .i64, .int .i64, .int .i64, .int .i64, .int .i64, .sl (.int .u64), .bool, .int .u64, .int .i64]), .int .i64, .int .i64] := by kernel_rfl
theorem planFree_reads : (([95, 2, 2] : List TypeId).all fun t => Tryz.prog.readableRec t && decide (t < Tryz.prog.types.size)) = true := by kernel_rfl
theorem planFree_law {H0 : Heap} (hG : Glob H0) (xs : List AV) (h : fitsAll [.sl (.st [.int .u64, .str, .str, .int .i64, .int .i64, .int .i64, .int .i64, .int .i64, .sl (.int .u64), .bool, .int .u64, .int .i64]), .int .i64, .int .i64] xs) : ∃ K, AOk Tryz.prog 11 xs H0 (.sc (.bool true)) K := by
  obtain ⟨a0, r0, rfl, h0, a1, r1, rfl, h1, a2, r2, rfl, h2, hz⟩ := h
  simp only [fitsAll] at hz
  subst hz
  obtain ⟨js, rfl, hjs1, hjs2⟩ := fits_jobs h0
  obtain ⟨fr, rfl, fr1, fr2⟩ := fits_i64 h1
  obtain ⟨tt, rfl, tt1, tt2⟩ := fits_i64 h2
  exact ⟨H0, planFree_ok hG hjs1 hjs2 fr tt⟩
set_option maxRecDepth 100000 in
theorem planFree_met (os : Os) (args : Array Value) : laidMet Tryz.prog Rows.planFreeRow.laid ((laidWorld os).forCall (fun _ _ => 0) ⟨#[], args, []⟩).memory :=
  laidMet_of_run' 8 (by kernel_rfl) (by kernel_rfl)
set_option maxRecDepth 100000 in
theorem planFree_lifted (os : Os) (started : os.Started) (H : Type) (enc : TypeId × Value → H) :
    ReturnsInHanded {} Tryz.checked os 11 .any (fun w args => (Rows.planFreeSpec.pre enc Tryz.prog Tryz.f11 Rows.planFreeRow.domain false w args ∧ laidMet Tryz.prog Rows.planFreeRow.laid w) ∧ sizedMet enc Tryz.prog Tryz.f11 (OpenSpec.ofChange Rows.planFreeSpec) false w args)
      (Rows.planFreeSpec.post enc Tryz.prog Tryz.f11 false true false false) := by
  refine returnsInHanded_of_change_and_shaped (C := Tryz.checked) (X := fun w _ => laidMet Tryz.prog Rows.planFreeRow.laid w) (fun _ _ _ hh h => h.of_heap hh) own started (by kernel_rfl) Tryz.func11
    (ChangeSpec.witness_at (enc := enc) (C := Tryz.checked) (os := os) (X := fun w _ => laidMet Tryz.prog Rows.planFreeRow.laid w) false (laidWorld os) #[.slice none 0 0, .int .i64 0, .int .i64 0] 8 rfl (by kernel_rfl) (by kernel_rfl) (by kernel_rfl) (by kernel_rfl) (by kernel_rfl) (planFree_met os _)) ?_
  intro W base args ds gs before hval hW hL hsh
  obtain ⟨m, hm⟩ := gro_reads hL hsh (by simp [Rows.planFreeRow]) (by simp [Rows.planFreeRow]) (by simp [Rows.planFreeRow])
  refine law_contract2 (P := Tryz.prog) (hfn := Tryz.func11) (ts := [95, 2, 2]) (rt := 4) (n := 9) (by rw [Tryz.params11]) planFree_shapes (by kernel_rfl) bool_type rfl (fun ds h => ?_) laidOut planFree_reads W hm (planFree_law (glob_gro m)) base args ds gs before hval hW
  match ds, h with
  | [_, _, _], _ => rfl
end Go.Proofs.YtmoncokklkiikaaGreatDoor
