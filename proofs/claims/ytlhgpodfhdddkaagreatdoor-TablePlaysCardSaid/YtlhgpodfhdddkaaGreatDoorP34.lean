/- TablePlays: from the walk to the row. -/
import Derived.Test.YtlhgpodfhdddkaaGreatDoorP30
import Derived.Test.YtlhgpodfhdddkaaGreatDoorP33
set_option linter.unusedSimpArgs false
set_option linter.unusedVariables false
set_option linter.unnecessarySimpa false
namespace Go.Proofs.YtlhgpodfhdddkaaGreatDoor
open Rg Go Go.RowKit Go.WideShapes Go.ChangeShapes
theorem tablePlays_shapes : (([22, 9] : List TypeId).mapM fun t => shOf Tryz.prog 9 t) = some [.sl (.st [.int .i64, .int .u64, .st [.int .u64, .str, .str, .int .i64, .int .i64, .int .i64, .int .i64, .int .i64, .sl (.int .u64), .bool, .int .u64, .int .i64], .bool, .int .i64]), .str] := by kernel_rfl
theorem tablePlays_reads : (([22, 9] : List TypeId).all fun t => Tryz.prog.readableRec t && decide (t < Tryz.prog.types.size)) = true := by kernel_rfl
theorem tablePlays_law {H0 : Heap} (hG : Glob H0) (xs : List AV) (h : fitsAll [.sl (.st [.int .i64, .int .u64, .st [.int .u64, .str, .str, .int .i64, .int .i64, .int .i64, .int .i64, .int .i64, .sl (.int .u64), .bool, .int .u64, .int .i64], .bool, .int .i64]), .str] xs) : ∃ K, AOk Tryz.prog 3 xs H0 (.sc (.bool true)) K := by
  obtain ⟨a0, r0, rfl, h0, a1, r1, rfl, h1, hz⟩ := h
  simp only [fitsAll] at hz
  subst hz
  obtain ⟨l, rfl, hl⟩ := fits_ops h0
  obtain ⟨name, rfl, hname⟩ := fits_str h1
  exact ⟨H0, tablePlays_walk hG l hl name (by simpa [maxLen] using hname)⟩
set_option maxRecDepth 100000 in
theorem tablePlays_met (os : Os) (args : Array Value) : laidMet Tryz.prog Rows.tablePlaysRow.laid ((laidWorld os).forCall (fun _ _ => 0) ⟨#[], args, []⟩).memory :=
  laidMet_of_run' 8 (by kernel_rfl) (by kernel_rfl)
set_option maxRecDepth 100000 in
theorem tablePlays_lifted (os : Os) (started : os.Started) (H : Type) (enc : TypeId × Value → H) :
    ReturnsInHanded {} Tryz.checked os 3 .any (fun w args => (Rows.tablePlaysSpec.pre enc Tryz.prog Tryz.f3 Rows.tablePlaysRow.domain false w args ∧ laidMet Tryz.prog Rows.tablePlaysRow.laid w) ∧ sizedMet enc Tryz.prog Tryz.f3 (OpenSpec.ofChange Rows.tablePlaysSpec) false w args)
      (Rows.tablePlaysSpec.post enc Tryz.prog Tryz.f3 false true false false) := by
  refine returnsInHanded_of_change_and_shaped (C := Tryz.checked) (X := fun w _ => laidMet Tryz.prog Rows.tablePlaysRow.laid w) (fun _ _ _ hh h => h.of_heap hh) own started (by kernel_rfl) Tryz.func3
    (ChangeSpec.witness_at (enc := enc) (C := Tryz.checked) (os := os) (X := fun w _ => laidMet Tryz.prog Rows.tablePlaysRow.laid w) false (laidWorld os) #[.slice none 0 0, .string ⟨#[]⟩] 8 rfl (by kernel_rfl) (by kernel_rfl) (by kernel_rfl) (by kernel_rfl) (by kernel_rfl) (tablePlays_met os _)) ?_
  intro W base args ds gs before hval hW hL hsh
  obtain ⟨m, hm⟩ := gro_reads hL hsh (by simp [Rows.tablePlaysRow]) (by simp [Rows.tablePlaysRow]) (by simp [Rows.tablePlaysRow])
  refine law_contract2 (P := Tryz.prog) (hfn := Tryz.func3) (ts := [22, 9]) (rt := 4) (n := 9) (by rw [Tryz.params3]) tablePlays_shapes (by kernel_rfl) bool_type rfl (fun ds h => ?_) laidOut tablePlays_reads W hm (tablePlays_law (glob_gro m)) base args ds gs before hval hW
  match ds, h with
  | [_, _], _ => rfl
end Go.Proofs.YtlhgpodfhdddkaaGreatDoor
