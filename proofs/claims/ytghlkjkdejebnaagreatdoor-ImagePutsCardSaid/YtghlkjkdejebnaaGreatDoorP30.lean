/- ImagePuts: from the walk to the row. -/
import Derived.Test.YtghlkjkdejebnaaGreatDoorP26
import Derived.Test.YtghlkjkdejebnaaGreatDoorP29
set_option linter.unusedSimpArgs false
set_option linter.unusedVariables false
set_option linter.unnecessarySimpa false
namespace Go.Proofs.YtghlkjkdejebnaaGreatDoor
open Rg Go Go.RowKit Go.WideShapes Go.ChangeShapes
theorem imagePuts_shapes : (([44, 28] : List TypeId).mapM fun t => shOf Tryz.prog 9 t) = some [.st [.sl (.st [.int .u64, .str, .str, .int .i64, .int .i64, .int .i64, .int .i64, .int .i64, .sl (.int .u64), .bool, .int .u64, .int .i64]), .int .u64, .sl (.st [.int .u64, .int .i64, .int .i64, .int .i64, .int .u64, .int .u64, .int .i64]), .sl (.st [.int .u64, .int .u64, .st [.int .i64, .int .u64]]), .int .i64, .int .u64], .sl (.int .u8)] := by kernel_rfl
theorem imagePuts_reads : (([44, 28] : List TypeId).all fun t => Tryz.prog.readableRec t && decide (t < Tryz.prog.types.size)) = true := by kernel_rfl
theorem imagePuts_law {H0 : Heap} (hG : Glob H0) (xs : List AV) (h : fitsAll [.st [.sl (.st [.int .u64, .str, .str, .int .i64, .int .i64, .int .i64, .int .i64, .int .i64, .sl (.int .u64), .bool, .int .u64, .int .i64]), .int .u64, .sl (.st [.int .u64, .int .i64, .int .i64, .int .i64, .int .u64, .int .u64, .int .i64]), .sl (.st [.int .u64, .int .u64, .st [.int .i64, .int .u64]]), .int .i64, .int .u64], .sl (.int .u8)] xs) : ∃ K, AOk Tryz.prog 5 xs H0 (.sc (.bool true)) K := by
  obtain ⟨a0, r0, rfl, h0, a1, r1, rfl, h1, hz⟩ := h
  simp only [fitsAll] at hz
  subst hz
  obtain ⟨p, rfl, hp1, hp2, hp3⟩ := fits_parts h0
  obtain ⟨b, rfl, hb⟩ := fits_bytes h1
  exact ⟨H0, imagePuts_walk hG p hp1 hp2 hp3 b⟩
set_option maxRecDepth 100000 in
theorem imagePuts_met (os : Os) (args : Array Value) : laidMet Tryz.prog Rows.imagePutsRow.laid ((laidWorld os).forCall (fun _ _ => 0) ⟨#[], args, []⟩).memory :=
  laidMet_of_run' 8 (by kernel_rfl) (by kernel_rfl)
set_option maxRecDepth 100000 in
theorem imagePuts_lifted (os : Os) (started : os.Started) (H : Type) (enc : TypeId × Value → H) :
    ReturnsInHanded {} Tryz.checked os 5 .any (fun w args => (Rows.imagePutsSpec.pre enc Tryz.prog Tryz.f5 Rows.imagePutsRow.domain false w args ∧ laidMet Tryz.prog Rows.imagePutsRow.laid w) ∧ sizedMet enc Tryz.prog Tryz.f5 (OpenSpec.ofChange Rows.imagePutsSpec) false w args)
      (Rows.imagePutsSpec.post enc Tryz.prog Tryz.f5 false true false false) := by
  refine returnsInHanded_of_change_and_shaped (C := Tryz.checked) (X := fun w _ => laidMet Tryz.prog Rows.imagePutsRow.laid w) (fun _ _ _ hh h => h.of_heap hh) own started (by kernel_rfl) Tryz.func5
    (ChangeSpec.witness_at (enc := enc) (C := Tryz.checked) (os := os) (X := fun w _ => laidMet Tryz.prog Rows.imagePutsRow.laid w) false (laidWorld os) #[.agg #[.slice none 0 0, .int .u64 0, .slice none 0 0, .slice none 0 0, .int .i64 0, .int .u64 0], .slice none 0 0] 8 rfl (by kernel_rfl) (by kernel_rfl) (by kernel_rfl) (by kernel_rfl) (by kernel_rfl) (imagePuts_met os _)) ?_
  intro W base args ds gs before hval hW hL hsh
  obtain ⟨m, hm⟩ := gro_reads hL hsh (by simp [Rows.imagePutsRow]) (by simp [Rows.imagePutsRow]) (by simp [Rows.imagePutsRow])
  refine law_contract2 (P := Tryz.prog) (hfn := Tryz.func5) (ts := [44, 28]) (rt := 4) (n := 9) (by rw [Tryz.params5]) imagePuts_shapes (by kernel_rfl) bool_type rfl (fun ds h => ?_) laidOut imagePuts_reads W hm (imagePuts_law (glob_gro m)) base args ds gs before hval hW
  match ds, h with
  | [_, _], _ => rfl
end Go.Proofs.YtghlkjkdejebnaaGreatDoor
