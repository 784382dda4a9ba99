/- PlanMore: from the walk to the row. -/
import Derived.Test.YtmoncokklkiikaaGreatDoorP25
import Derived.Test.YtmoncokklkiikaaGreatDoorP28
set_option linter.unusedSimpArgs false
set_option linter.unusedVariables false
set_option linter.unnecessarySimpa false
namespace Go.Proofs.YtmoncokklkiikaaGreatDoor
open Rg Go Go.RowKit Go.WideShapes Go.ChangeShapes
theorem planMore_shapes : (([95, 25, 2, 2] : List TypeId).mapM fun t => shOf Tryz.prog 9 t) = some [.sl (.st [.int .u64, .str, .str, .int .i64, .int .i64, .int .i64, .int .i64, .int .i64, .sl (.int .u64), .bool, .int .u64, .int .i64]), .st [.int .u64, .str, .str, .int .i64, .int .i64, .int .i64, .int .i64, .int .i64, .sl (.int .u64), .bool, .int .u64, .int .i64], .int .i64, .int .i64] := by kernel_rfl
theorem planMore_reads : (([95, 25, 2, 2] : List TypeId).all fun t => Tryz.prog.readableRec t && decide (t < Tryz.prog.types.size)) = true := by kernel_rfl
theorem planMore_law {H : Type} {enc : TypeId × Value → H} {W : World} {args : Array Value} (hsz : SizedIn enc Tryz.prog Tryz.f12 Rows.planMoreSpec false W args) {H0 : Heap} (hG : Glob H0) (xs : List AV) (h : fitsAll [.sl (.st [.int .u64, .str, .str, .int .i64, .int .i64, .int .i64, .int .i64, .int .i64, .sl (.int .u64), .bool, .int .u64, .int .i64]), .st [.int .u64, .str, .str, .int .i64, .int .i64, .int .i64, .int .i64, .int .i64, .sl (.int .u64), .bool, .int .u64, .int .i64], .int .i64, .int .i64] xs) (hrel : RelL (comOf W) xs args.toList) : ∃ K, AOk Tryz.prog 12 xs H0 (.sc (.bool true)) K := by
  obtain ⟨a0, r0, rfl, h0, a1, r1, rfl, h1, a2, r2, rfl, h2, a3, r3, rfl, h3, hz⟩ := h
  simp only [fitsAll] at hz
  subst hz
  obtain ⟨js, rfl, hjs1, hjs2⟩ := fits_jobs h0
  obtain ⟨more, rfl, hmore⟩ := fits_jobX h1
  obtain ⟨fr, rfl, fr1, fr2⟩ := fits_i64 h2
  obtain ⟨tt, rfl, tt1, tt2⟩ := fits_i64 h3
  have hs := jobs_bound (by rw [Tryz.params12]) hsz hrel
  exact ⟨H0, planMore_ok hG hs hjs2 hmore fr tt⟩
set_option maxRecDepth 100000 in
theorem planMore_met (os : Os) (args : Array Value) : laidMet Tryz.prog Rows.planMoreRow.laid ((laidWorld os).forCall (fun _ _ => 0) ⟨#[], args, []⟩).memory :=
  laidMet_of_run' 8 (by kernel_rfl) (by kernel_rfl)
set_option maxRecDepth 100000 in
theorem planMore_lifted (os : Os) (started : os.Started) (H : Type) (enc : TypeId × Value → H) :
    ReturnsInHanded {} Tryz.checked os 12 .any (fun w args => (Rows.planMoreSpec.pre enc Tryz.prog Tryz.f12 Rows.planMoreRow.domain false w args ∧ laidMet Tryz.prog Rows.planMoreRow.laid w) ∧ sizedMet enc Tryz.prog Tryz.f12 (OpenSpec.ofChange Rows.planMoreSpec) false w args)
      (Rows.planMoreSpec.post enc Tryz.prog Tryz.f12 false true false false) := by
  refine returnsInHanded_of_change_and_sized (C := Tryz.checked) (X := fun w _ => laidMet Tryz.prog Rows.planMoreRow.laid w) (fun _ _ _ hh h => h.of_heap hh) own started (by kernel_rfl) Tryz.func12
    (ChangeSpec.witness_at (enc := enc) (C := Tryz.checked) (os := os) (X := fun w _ => laidMet Tryz.prog Rows.planMoreRow.laid w) false (laidWorld os) #[.slice none 0 0, .agg #[.int .u64 0, .string ⟨#[]⟩, .string ⟨#[]⟩, .int .i64 0, .int .i64 0, .int .i64 0, .int .i64 0, .int .i64 0, .slice none 0 0, .bool false, .int .u64 0, .int .i64 0], .int .i64 0, .int .i64 0] 8 rfl (by kernel_rfl) (by kernel_rfl) (by kernel_rfl) (by kernel_rfl) (by kernel_rfl) (planMore_met os _)) ?_
  intro W base args ds gs before hval hW hL hsh hsz
  obtain ⟨m, hm⟩ := gro_reads hL hsh (by simp [Rows.planMoreRow]) (by simp [Rows.planMoreRow]) (by simp [Rows.planMoreRow])
  refine law_contract3 (P := Tryz.prog) (hfn := Tryz.func12) (ts := [95, 25, 2, 2]) (rt := 4) (n := 9) (by rw [Tryz.params12]) planMore_shapes (by kernel_rfl) bool_type rfl (fun ds h => ?_) laidOut planMore_reads W hm base args ds gs before (fun ys hf hr => planMore_law hsz (glob_gro m) ys hf hr) hval hW
  match ds, h with
  | [_, _, _, _], _ => rfl
end Go.Proofs.YtmoncokklkiikaaGreatDoor
