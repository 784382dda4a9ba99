/- TableKeeps: from the walk to the row. -/
import Derived.Test.YtlhgpodfhdddkaaGreatDoorP25
import Derived.Test.YtlhgpodfhdddkaaGreatDoorP28
set_option linter.unusedSimpArgs false
set_option linter.unusedVariables false
set_option linter.unnecessarySimpa false
namespace Go.Proofs.YtlhgpodfhdddkaaGreatDoor
open Rg Go Go.RowKit Go.WideShapes Go.ChangeShapes
theorem tableKeeps_shapes : (([22] : List TypeId).mapM fun t => shOf Tryz.prog 9 t) = some [.sl (.st [.int .i64, .int .u64, .st [.int .u64, .str, .str, .int .i64, .int .i64, .int .i64, .int .i64, .int .i64, .sl (.int .u64), .bool, .int .u64, .int .i64], .bool, .int .i64])] := by kernel_rfl
theorem tableKeeps_reads : (([22] : List TypeId).all fun t => Tryz.prog.readableRec t && decide (t < Tryz.prog.types.size)) = true := by kernel_rfl
theorem tableKeeps_law {H0 : Heap} (hG : Glob H0) (xs : List AV) (h : fitsAll [.sl (.st [.int .i64, .int .u64, .st [.int .u64, .str, .str, .int .i64, .int .i64, .int .i64, .int .i64, .int .i64, .sl (.int .u64), .bool, .int .u64, .int .i64], .bool, .int .i64])] xs) : ∃ K, AOk Tryz.prog 4 xs H0 (.sc (.bool true)) K := by
  obtain ⟨a0, r0, rfl, h0, hz⟩ := h
  simp only [fitsAll] at hz
  subst hz
  obtain ⟨l, rfl, hl⟩ := fits_ops h0
  exact ⟨H0, tableKeeps_walk hG l hl⟩
set_option maxRecDepth 100000 in
theorem tableKeeps_met (os : Os) (args : Array Value) : laidMet Tryz.prog Rows.tableKeepsRow.laid ((laidWorld os).forCall (fun _ _ => 0) ⟨#[], args, []⟩).memory :=
  laidMet_of_run' 8 (by kernel_rfl) (by kernel_rfl)
set_option maxRecDepth 100000 in
theorem tableKeeps_lifted (os : Os) (started : os.Started) (H : Type) (enc : TypeId × Value → H) :
    ReturnsInHanded {} Tryz.checked os 4 .any (fun w args => (Rows.tableKeepsSpec.pre enc Tryz.prog Tryz.f4 Rows.tableKeepsRow.domain false w args ∧ laidMet Tryz.prog Rows.tableKeepsRow.laid w) ∧ sizedMet enc Tryz.prog Tryz.f4 (OpenSpec.ofChange Rows.tableKeepsSpec) false w args)
      (Rows.tableKeepsSpec.post enc Tryz.prog Tryz.f4 false true false false) := by
  refine returnsInHanded_of_change_and_shaped (C := Tryz.checked) (X := fun w _ => laidMet Tryz.prog Rows.tableKeepsRow.laid w) (fun _ _ _ hh h => h.of_heap hh) own started (by kernel_rfl) Tryz.func4
    (ChangeSpec.witness_at (enc := enc) (C := Tryz.checked) (os := os) (X := fun w _ => laidMet Tryz.prog Rows.tableKeepsRow.laid w) false (laidWorld os) #[.slice none 0 0] 8 rfl (by kernel_rfl) (by kernel_rfl) (by kernel_rfl) (by kernel_rfl) (by kernel_rfl) (tableKeeps_met os _)) ?_
  intro W base args ds gs before hval hW hL hsh
  obtain ⟨m, hm⟩ := gro_reads hL hsh (by simp [Rows.tableKeepsRow]) (by simp [Rows.tableKeepsRow]) (by simp [Rows.tableKeepsRow])
  refine law_contract2 (P := Tryz.prog) (hfn := Tryz.func4) (ts := [22]) (rt := 4) (n := 9) (by rw [Tryz.params4]) tableKeeps_shapes (by kernel_rfl) bool_type rfl (fun ds h => ?_) laidOut tableKeeps_reads W hm (tableKeeps_law (glob_gro m)) base args ds gs before hval hW
  match ds, h with
  | [_], _ => rfl
end Go.Proofs.YtlhgpodfhdddkaaGreatDoor
