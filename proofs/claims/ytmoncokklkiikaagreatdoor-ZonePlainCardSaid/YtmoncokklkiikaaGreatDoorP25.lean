/- ZonePlain: from the walk to the row. -/
import Derived.Test.YtmoncokklkiikaaGreatDoorP21
import Derived.Test.YtmoncokklkiikaaGreatDoorP24
set_option linter.unusedSimpArgs false
set_option linter.unusedVariables false
set_option linter.unnecessarySimpa false
namespace Go.Proofs.YtmoncokklkiikaaGreatDoor
open Rg Go Go.RowKit Go.WideShapes Go.ChangeShapes
theorem zonePlain_shapes : (([3, 42, 2, 36] : List TypeId).mapM fun t => shOf Tryz.prog 9 t) = some [.int .i64, .st (List.replicate 5 (.st [.int .u64, .bool])), .int .i64, .sl (.int .i64)] := by kernel_rfl
theorem zonePlain_reads : (([3, 42, 2, 36] : List TypeId).all fun t => Tryz.prog.readableRec t && decide (t < Tryz.prog.types.size)) = true := by kernel_rfl
theorem zonePlain_law {H0 : Heap} (hG : GlobZ H0) (xs : List AV) (h : fitsAll [.int .i64, .st (List.replicate 5 (.st [.int .u64, .bool])), .int .i64, .sl (.int .i64)] xs) : ∃ K, AOk Tryz.prog 5 xs H0 (.sc (.bool true)) K := by
  obtain ⟨a0, r0, rfl, h0, a1, r1, rfl, h1, a2, r2, rfl, h2, a3, r3, rfl, h3, hz⟩ := h
  simp only [fitsAll] at hz
  subst hz
  obtain ⟨o, rfl, o1, o2⟩ := fits_i64 h0
  obtain ⟨x, rfl, hx⟩ := fits_expr h1
  obtain ⟨m, rfl, m1, m2⟩ := fits_i64 h2
  obtain ⟨A, rfl, hA⟩ := fits_i64l h3
  exact ⟨H0, zonePlain_ok hG o hx m A _ hA⟩
set_option maxRecDepth 100000 in
theorem zonePlain_met (os : Os) (args : Array Value) : laidMet Tryz.prog Rows.zonePlainRow.laid ((laidWorld os).forCall (fun _ _ => 0) ⟨#[], args, []⟩).memory :=
  laidMet_of_run' 8 (by kernel_rfl) (by kernel_rfl)
set_option maxRecDepth 100000 in
theorem zonePlain_lifted (os : Os) (started : os.Started) (H : Type) (enc : TypeId × Value → H) :
    ReturnsInHanded {} Tryz.checked os 5 .any (fun w args => (Rows.zonePlainSpec.pre enc Tryz.prog Tryz.f5 Rows.zonePlainRow.domain false w args ∧ laidMet Tryz.prog Rows.zonePlainRow.laid w) ∧ sizedMet enc Tryz.prog Tryz.f5 (OpenSpec.ofChange Rows.zonePlainSpec) false w args)
      (Rows.zonePlainSpec.post enc Tryz.prog Tryz.f5 false true false false) := by
  refine returnsInHanded_of_change_and_shaped (C := Tryz.checked) (X := fun w _ => laidMet Tryz.prog Rows.zonePlainRow.laid w) (fun _ _ _ hh h => h.of_heap hh) own started (by kernel_rfl) Tryz.func5
    (ChangeSpec.witness_at (enc := enc) (C := Tryz.checked) (os := os) (X := fun w _ => laidMet Tryz.prog Rows.zonePlainRow.laid w) false (laidWorld os) #[.int .i64 0, .agg #[.int .u64 0, .bool false, .int .u64 0, .bool false, .int .u64 0, .bool false, .int .u64 0, .bool false, .int .u64 0, .bool false], .int .i64 0, .slice none 0 0] 8 rfl (by kernel_rfl) (by kernel_rfl) (by kernel_rfl) (by kernel_rfl) (by kernel_rfl) (zonePlain_met os _)) ?_
  intro W base args ds gs before hval hW hL hsh
  have hm := groZ_reads hL (by simp [Rows.zonePlainRow]) (by simp [Rows.zonePlainRow])
  refine law_contract2 (P := Tryz.prog) (hfn := Tryz.func5) (ts := [3, 42, 2, 36]) (rt := 4) (n := 9) (by rw [Tryz.params5]) zonePlain_shapes (by kernel_rfl) bool_type rfl (fun ds h => ?_) laidOut zonePlain_reads W hm (zonePlain_law (globZ_gro)) base args ds gs before hval hW
  match ds, h with
  | [_, _, _, _], _ => rfl
end Go.Proofs.YtmoncokklkiikaaGreatDoor
