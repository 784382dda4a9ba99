/- CmdBack: from the walk to the row. -/
import Derived.Test.YtghlkjkdejebnaaGreatDoorP17
import Derived.Test.YtghlkjkdejebnaaGreatDoorP20
set_option linter.unusedSimpArgs false
set_option linter.unusedVariables false
set_option linter.unnecessarySimpa false
namespace Go.Proofs.YtghlkjkdejebnaaGreatDoor
open Rg Go Go.RowKit Go.WideShapes Go.ChangeShapes
theorem cmdBack_shapes : (([27, 27, 3, 28] : List TypeId).mapM fun t => shOf Tryz.prog 9 t) = some [.st [.int .i64, .int .u64, .int .u64, .int .u64, .int .i64, .int .u64, .int .u64, .st [.int .u64, .str, .str, .int .i64, .int .i64, .int .i64, .int .i64, .int .i64, .sl (.int .u64), .bool, .int .u64, .int .i64]], .st [.int .i64, .int .u64, .int .u64, .int .u64, .int .i64, .int .u64, .int .u64, .st [.int .u64, .str, .str, .int .i64, .int .i64, .int .i64, .int .i64, .int .i64, .sl (.int .u64), .bool, .int .u64, .int .i64]], .int .i64, .sl (.int .u8)] := by kernel_rfl
theorem cmdBack_reads : (([27, 27, 3, 28] : List TypeId).all fun t => Tryz.prog.readableRec t && decide (t < Tryz.prog.types.size)) = true := by kernel_rfl
theorem cmdBack_law {H0 : Heap} (hG : Glob H0) (xs : List AV) (h : fitsAll [.st [.int .i64, .int .u64, .int .u64, .int .u64, .int .i64, .int .u64, .int .u64, .st [.int .u64, .str, .str, .int .i64, .int .i64, .int .i64, .int .i64, .int .i64, .sl (.int .u64), .bool, .int .u64, .int .i64]], .st [.int .i64, .int .u64, .int .u64, .int .u64, .int .i64, .int .u64, .int .u64, .st [.int .u64, .str, .str, .int .i64, .int .i64, .int .i64, .int .i64, .int .i64, .sl (.int .u64), .bool, .int .u64, .int .i64]], .int .i64, .sl (.int .u8)] xs) : ∃ K, AOk Tryz.prog 4 xs H0 (.sc (.bool true)) K := by
  obtain ⟨a0, r0, rfl, h0, a1, r1, rfl, h1, a2, r2, rfl, h2, a3, r3, rfl, h3, hz⟩ := h
  simp only [fitsAll] at hz
  subst hz
  obtain ⟨c, rfl, hc⟩ := fits_cmd h0
  obtain ⟨d, rfl, hd⟩ := fits_cmd h1
  obtain ⟨cut, rfl, cut1, cut2⟩ := fits_i64 h2
  obtain ⟨q, rfl, hq⟩ := fits_bytes h3
  exact ⟨H0, cmdBack_walk hG c d hc hd cut q⟩
set_option maxRecDepth 100000 in
theorem cmdBack_met (os : Os) (args : Array Value) : laidMet Tryz.prog Rows.cmdBackRow.laid ((laidWorld os).forCall (fun _ _ => 0) ⟨#[], args, []⟩).memory :=
  laidMet_of_run' 8 (by kernel_rfl) (by kernel_rfl)
set_option maxRecDepth 100000 in
theorem cmdBack_lifted (os : Os) (started : os.Started) (H : Type) (enc : TypeId × Value → H) :
    ReturnsInHanded {} Tryz.checked os 4 .any (fun w args => (Rows.cmdBackSpec.pre enc Tryz.prog Tryz.f4 Rows.cmdBackRow.domain false w args ∧ laidMet Tryz.prog Rows.cmdBackRow.laid w) ∧ sizedMet enc Tryz.prog Tryz.f4 (OpenSpec.ofChange Rows.cmdBackSpec) false w args)
      (Rows.cmdBackSpec.post enc Tryz.prog Tryz.f4 false true false false) := by
  refine returnsInHanded_of_change_and_shaped (C := Tryz.checked) (X := fun w _ => laidMet Tryz.prog Rows.cmdBackRow.laid w) (fun _ _ _ hh h => h.of_heap hh) own started (by kernel_rfl) Tryz.func4
    (ChangeSpec.witness_at (enc := enc) (C := Tryz.checked) (os := os) (X := fun w _ => laidMet Tryz.prog Rows.cmdBackRow.laid w) false (laidWorld os) #[.agg #[.int .i64 0, .int .u64 0, .int .u64 0, .int .u64 0, .int .i64 0, .int .u64 0, .int .u64 0, .int .u64 0, .string ⟨#[]⟩, .string ⟨#[]⟩, .int .i64 0, .int .i64 0, .int .i64 0, .int .i64 0, .int .i64 0, .slice none 0 0, .bool false, .int .u64 0, .int .i64 0], .agg #[.int .i64 0, .int .u64 0, .int .u64 0, .int .u64 0, .int .i64 0, .int .u64 0, .int .u64 0, .int .u64 0, .string ⟨#[]⟩, .string ⟨#[]⟩, .int .i64 0, .int .i64 0, .int .i64 0, .int .i64 0, .int .i64 0, .slice none 0 0, .bool false, .int .u64 0, .int .i64 0], .int .i64 0, .slice none 0 0] 8 rfl (by kernel_rfl) (by kernel_rfl) (by kernel_rfl) (by kernel_rfl) (by kernel_rfl) (cmdBack_met os _)) ?_
  intro W base args ds gs before hval hW hL hsh
  obtain ⟨m, hm⟩ := gro_reads hL hsh (by simp [Rows.cmdBackRow]) (by simp [Rows.cmdBackRow]) (by simp [Rows.cmdBackRow])
  refine law_contract2 (P := Tryz.prog) (hfn := Tryz.func4) (ts := [27, 27, 3, 28]) (rt := 4) (n := 9) (by rw [Tryz.params4]) cmdBack_shapes (by kernel_rfl) bool_type rfl (fun ds h => ?_) laidOut cmdBack_reads W hm (cmdBack_law (glob_gro m)) base args ds gs before hval hW
  match ds, h with
  | [_, _, _, _], _ => rfl
end Go.Proofs.YtghlkjkdejebnaaGreatDoor
