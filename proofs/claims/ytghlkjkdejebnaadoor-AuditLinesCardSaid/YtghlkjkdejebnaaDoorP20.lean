/- AuditLines: from the walk to the row. -/
import Derived.Test.YtghlkjkdejebnaaDoorP19
set_option linter.unusedSimpArgs false
set_option linter.unusedVariables false
set_option linter.unnecessarySimpa false
namespace Go.Proofs.YtghlkjkdejebnaaDoor
open Rg Go Go.RowKit Go.WideShapes Go.ChangeShapes
theorem auditLines_shapes : (([23, 9] : List TypeId).mapM fun t => shOf Tryd.prog 9 t) = some [.st [.int .u8, .int .i64], .str] := by kernel_rfl
theorem auditLines_reads : (([23, 9] : List TypeId).all fun t => Tryd.prog.readableRec t && decide (t < Tryd.prog.types.size)) = true := by kernel_rfl
theorem auditLines_law {H0 : Heap} (hG : GlobA H0) (xs : List AV) (h : fitsAll [.st [.int .u8, .int .i64], .str] xs) : ∃ K, AOk Tryd.prog 3 xs H0 (.sc (.bool true)) K := by
  obtain ⟨a0, r0, rfl, h0, a1, r1, rfl, h1, hz⟩ := h
  simp only [fitsAll] at hz
  subst hz
  obtain ⟨fk, fn, rfl, f1, f2, f3⟩ := fits_find h0
  obtain ⟨s, rfl, hs⟩ := fits_str h1
  exact ⟨H0, c_law hG fk fn s f1 f2 f3⟩
set_option maxRecDepth 100000 in
theorem auditLines_met (os : Os) (args : Array Value) : laidMet Tryd.prog Rows.auditLinesRow.laid ((laidWorld os).forCall (fun _ _ => 0) ⟨#[], args, []⟩).memory :=
  laidMet_of_run' 8 (by kernel_rfl) (by kernel_rfl)
set_option maxRecDepth 100000 in
theorem auditLines_lifted (os : Os) (started : os.Started) (H : Type) (enc : TypeId × Value → H) :
    ReturnsInHanded {} Tryd.checked os 3 .any (fun w args => (Rows.auditLinesSpec.pre enc Tryd.prog Tryd.f3 Rows.auditLinesRow.domain false w args ∧ laidMet Tryd.prog Rows.auditLinesRow.laid w) ∧ sizedMet enc Tryd.prog Tryd.f3 (OpenSpec.ofChange Rows.auditLinesSpec) false w args)
      (Rows.auditLinesSpec.post enc Tryd.prog Tryd.f3 false true false false) := by
  refine returnsInHanded_of_change_and_shaped (C := Tryd.checked) (X := fun w _ => laidMet Tryd.prog Rows.auditLinesRow.laid w) (fun _ _ _ hh h => h.of_heap hh) own started (by kernel_rfl) Tryd.func3
    (ChangeSpec.witness_at (enc := enc) (C := Tryd.checked) (os := os) (X := fun w _ => laidMet Tryd.prog Rows.auditLinesRow.laid w) false (laidWorld os) #[.agg #[.int .u8 0, .int .i64 0], .string ⟨#[]⟩] 8 rfl (by kernel_rfl) (by kernel_rfl) (by kernel_rfl) (by kernel_rfl) (by kernel_rfl) (auditLines_met os _)) ?_
  intro W base args ds gs before hval hW hL hsh
  obtain ⟨t1, p1, hm⟩ := groA_reads hL (by simp [Rows.auditLinesRow]) (by simp [Rows.auditLinesRow])
  refine law_contract2 (P := Tryd.prog) (hfn := Tryd.func3) (ts := [23, 9]) (rt := 4) (n := 9) (by rw [Tryd.params3]) auditLines_shapes (by kernel_rfl) bool_type rfl (fun ds h => ?_) laidOut auditLines_reads W hm (auditLines_law (globA_gro t1 p1)) base args ds gs before hval hW
  match ds, h with
  | [_, _], _ => rfl
end Go.Proofs.YtghlkjkdejebnaaDoor
