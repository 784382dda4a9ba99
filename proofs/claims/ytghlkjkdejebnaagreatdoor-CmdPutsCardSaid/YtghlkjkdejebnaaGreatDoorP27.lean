/- CmdPuts: from the walk to the row. -/
import Derived.Test.YtghlkjkdejebnaaGreatDoorP23
import Derived.Test.YtghlkjkdejebnaaGreatDoorP26
set_option linter.unusedSimpArgs false
set_option linter.unusedVariables false
set_option linter.unnecessarySimpa false
namespace Go.Proofs.YtghlkjkdejebnaaGreatDoor
open Rg Go Go.RowKit Go.WideShapes Go.ChangeShapes
theorem cmdPuts_shapes : (([27, 27, 28] : List TypeId).mapM fun t => shOf Tryz.prog 9 t) = some [.st [.int .i64, .int .u64, .int .u64, .int .u64, .int .i64, .int .u64, .int .u64, .st [.int .u64, .str, .str, .int .i64, .int .i64, .int .i64, .int .i64, .int .i64, .sl (.int .u64), .bool, .int .u64, .int .i64]], .st [.int .i64, .int .u64, .int .u64, .int .u64, .int .i64, .int .u64, .int .u64, .st [.int .u64, .str, .str, .int .i64, .int .i64, .int .i64, .int .i64, .int .i64, .sl (.int .u64), .bool, .int .u64, .int .i64]], .sl (.int .u8)] := by kernel_rfl
theorem cmdPuts_reads : (([27, 27, 28] : List TypeId).all fun t => Tryz.prog.readableRec t && decide (t < Tryz.prog.types.size)) = true := by kernel_rfl
theorem cmdPuts_law {H0 : Heap} (hG : Glob H0) (xs : List AV) (h : fitsAll [.st [.int .i64, .int .u64, .int .u64, .int .u64, .int .i64, .int .u64, .int .u64, .st [.int .u64, .str, .str, .int .i64, .int .i64, .int .i64, .int .i64, .int .i64, .sl (.int .u64), .bool, .int .u64, .int .i64]], .st [.int .i64, .int .u64, .int .u64, .int .u64, .int .i64, .int .u64, .int .u64, .st [.int .u64, .str, .str, .int .i64, .int .i64, .int .i64, .int .i64, .int .i64, .sl (.int .u64), .bool, .int .u64, .int .i64]], .sl (.int .u8)] xs) : ∃ K, AOk Tryz.prog 3 xs H0 (.sc (.bool true)) K := by
  obtain ⟨a0, r0, rfl, h0, a1, r1, rfl, h1, a2, r2, rfl, h2, hz⟩ := h
  simp only [fitsAll] at hz
  subst hz
  obtain ⟨c, rfl, hc⟩ := fits_cmd h0
  obtain ⟨d, rfl, hd⟩ := fits_cmd h1
  obtain ⟨b, rfl, hb⟩ := fits_bytes h2
  exact ⟨H0, cmdPuts_walk hG c d hc b⟩
set_option maxRecDepth 100000 in
theorem cmdPuts_met (os : Os) (args : Array Value) : laidMet Tryz.prog Rows.cmdPutsRow.laid ((laidWorld os).forCall (fun _ _ => 0) ⟨#[], args, []⟩).memory :=
  laidMet_of_run' 8 (by kernel_rfl) (by kernel_rfl)
set_option maxRecDepth 100000 in
theorem cmdPuts_lifted (os : Os) (started : os.Started) (H : Type) (enc : TypeId × Value → H) :
    ReturnsInHanded {} Tryz.checked os 3 .any (fun w args => (Rows.cmdPutsSpec.pre enc Tryz.prog Tryz.f3 Rows.cmdPutsRow.domain false w args ∧ laidMet Tryz.prog Rows.cmdPutsRow.laid w) ∧ sizedMet enc Tryz.prog Tryz.f3 (OpenSpec.ofChange Rows.cmdPutsSpec) false w args)
      (Rows.cmdPutsSpec.post enc Tryz.prog Tryz.f3 false true false false) := by
  refine returnsInHanded_of_change_and_shaped (C := Tryz.checked) (X := fun w _ => laidMet Tryz.prog Rows.cmdPutsRow.laid w) (fun _ _ _ hh h => h.of_heap hh) own started (by kernel_rfl) Tryz.func3
    (ChangeSpec.witness_at (enc := enc) (C := Tryz.checked) (os := os) (X := fun w _ => laidMet Tryz.prog Rows.cmdPutsRow.laid w) false (laidWorld os) #[.agg #[.int .i64 0, .int .u64 0, .int .u64 0, .int .u64 0, .int .i64 0, .int .u64 0, .int .u64 0, .int .u64 0, .string ⟨#[]⟩, .string ⟨#[]⟩, .int .i64 0, .int .i64 0, .int .i64 0, .int .i64 0, .int .i64 0, .slice none 0 0, .bool false, .int .u64 0, .int .i64 0], .agg #[.int .i64 0, .int .u64 0, .int .u64 0, .int .u64 0, .int .i64 0, .int .u64 0, .int .u64 0, .int .u64 0, .string ⟨#[]⟩, .string ⟨#[]⟩, .int .i64 0, .int .i64 0, .int .i64 0, .int .i64 0, .int .i64 0, .slice none 0 0, .bool false, .int .u64 0, .int .i64 0], .slice none 0 0] 8 rfl (by kernel_rfl) (by kernel_rfl) (by kernel_rfl) (by kernel_rfl) (by kernel_rfl) (cmdPuts_met os _)) ?_
  intro W base args ds gs before hval hW hL hsh
  obtain ⟨m, hm⟩ := gro_reads hL hsh (by simp [Rows.cmdPutsRow]) (by simp [Rows.cmdPutsRow]) (by simp [Rows.cmdPutsRow])
  refine law_contract2 (P := Tryz.prog) (hfn := Tryz.func3) (ts := [27, 27, 28]) (rt := 4) (n := 9) (by rw [Tryz.params3]) cmdPuts_shapes (by kernel_rfl) bool_type rfl (fun ds h => ?_) laidOut cmdPuts_reads W hm (cmdPuts_law (glob_gro m)) base args ds gs before hval hW
  match ds, h with
  | [_, _, _], _ => rfl
end Go.Proofs.YtghlkjkdejebnaaGreatDoor
