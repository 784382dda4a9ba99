/- JobBack: from the walk to the row. -/
import Derived.Test.YtmoncokklkiikaaGreatDoorP28
set_option linter.unusedSimpArgs false
set_option linter.unusedVariables false
set_option linter.unnecessarySimpa false
namespace Go.Proofs.YtmoncokklkiikaaGreatDoor
open Rg Go Go.RowKit Go.WideShapes Go.ChangeShapes
theorem jobBack_shapes : (([25, 26, 26, 2, 2, 2, 3] : List TypeId).mapM fun t => shOf Tryz.prog 9 t) = some [.st [.int .u64, .str, .str, .int .i64, .int .i64, .int .i64, .int .i64, .int .i64, .sl (.int .u64), .bool, .int .u64, .int .i64], .sl (.int .u8), .sl (.int .u8), .int .i64, .int .i64, .int .i64, .int .i64] := by kernel_rfl
theorem jobBack_reads : (([25, 26, 26, 2, 2, 2, 3] : List TypeId).all fun t => Tryz.prog.readableRec t && decide (t < Tryz.prog.types.size)) = true := by kernel_rfl
theorem jobBack_law {H0 : Heap} (hG : Glob H0) (xs : List AV) (h : fitsAll [.st [.int .u64, .str, .str, .int .i64, .int .i64, .int .i64, .int .i64, .int .i64, .sl (.int .u64), .bool, .int .u64, .int .i64], .sl (.int .u8), .sl (.int .u8), .int .i64, .int .i64, .int .i64, .int .i64] xs) : ∃ K, AOk Tryz.prog 3 xs H0 (.sc (.bool true)) K := by
  obtain ⟨a0, r0, rfl, h0, a1, r1, rfl, h1, a2, r2, rfl, h2, a3, r3, rfl, h3, a4, r4, rfl, h4, a5, r5, rfl, h5, a6, r6, rfl, h6, hz⟩ := h
  simp only [fitsAll] at hz
  subst hz
  obtain ⟨j, rfl, hj⟩ := fits_jobk h0
  obtain ⟨A, rfl, hA⟩ := fits_bytes h1
  obtain ⟨B, rfl, hB⟩ := fits_bytes h2
  obtain ⟨a, rfl, a1, a2⟩ := fits_i64 h3
  obtain ⟨mid, rfl, mid1, mid2⟩ := fits_i64 h4
  obtain ⟨b, rfl, b1, b2⟩ := fits_i64 h5
  obtain ⟨m, rfl, m1, m2⟩ := fits_i64 h6
  exact ⟨H0, jobBack_walk hG j .no hj A B .no .no a mid b m⟩
set_option maxRecDepth 100000 in
theorem jobBack_met (os : Os) (args : Array Value) : laidMet Tryz.prog Rows.jobBackRow.laid ((laidWorld os).forCall (fun _ _ => 0) ⟨#[], args, []⟩).memory :=
  laidMet_of_run' 8 (by kernel_rfl) (by kernel_rfl)
set_option maxRecDepth 100000 in
theorem jobBack_lifted (os : Os) (started : os.Started) (H : Type) (enc : TypeId × Value → H) :
    ReturnsInHanded {} Tryz.checked os 3 .any (fun w args => (Rows.jobBackSpec.pre enc Tryz.prog Tryz.f3 Rows.jobBackRow.domain false w args ∧ laidMet Tryz.prog Rows.jobBackRow.laid w) ∧ sizedMet enc Tryz.prog Tryz.f3 (OpenSpec.ofChange Rows.jobBackSpec) false w args)
      (Rows.jobBackSpec.post enc Tryz.prog Tryz.f3 false true false false) := by
  refine returnsInHanded_of_change_and_shaped (C := Tryz.checked) (X := fun w _ => laidMet Tryz.prog Rows.jobBackRow.laid w) (fun _ _ _ hh h => h.of_heap hh) own started (by kernel_rfl) Tryz.func3
    (ChangeSpec.witness_at (enc := enc) (C := Tryz.checked) (os := os) (X := fun w _ => laidMet Tryz.prog Rows.jobBackRow.laid w) false (laidWorld os) #[.agg #[.int .u64 0, .string ⟨#[]⟩, .string ⟨#[]⟩, .int .i64 0, .int .i64 0, .int .i64 0, .int .i64 0, .int .i64 0, .slice none 0 0, .bool false, .int .u64 0, .int .i64 0], .slice none 0 0, .slice none 0 0, .int .i64 0, .int .i64 0, .int .i64 0, .int .i64 0] 8 rfl (by kernel_rfl) (by kernel_rfl) (by kernel_rfl) (by kernel_rfl) (by kernel_rfl) (jobBack_met os _)) ?_
  intro W base args ds gs before hval hW hL hsh
  obtain ⟨m, hm⟩ := gro_reads hL hsh (by simp [Rows.jobBackRow]) (by simp [Rows.jobBackRow]) (by simp [Rows.jobBackRow])
  refine law_contract2 (P := Tryz.prog) (hfn := Tryz.func3) (ts := [25, 26, 26, 2, 2, 2, 3]) (rt := 4) (n := 9) (by rw [Tryz.params3]) jobBack_shapes (by kernel_rfl) bool_type rfl (fun ds h => ?_) laidOut jobBack_reads W hm (jobBack_law (glob_gro m)) base args ds gs before hval hW
  match ds, h with
  | [_, _, _, _, _, _, _], _ => rfl
end Go.Proofs.YtmoncokklkiikaaGreatDoor
