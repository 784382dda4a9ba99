/- ZoneOnce: from the walk to the row. -/
import Derived.Test.YtmoncokklkiikaaGreatDoorP23
import Derived.Test.YtmoncokklkiikaaGreatDoorP27
set_option linter.unusedSimpArgs false
set_option linter.unusedVariables false
set_option linter.unnecessarySimpa false
namespace Go.Proofs.YtmoncokklkiikaaGreatDoor
open Rg Go Go.RowKit Go.WideShapes Go.ChangeShapes
theorem zoneOnce_shapes : (([55, 42, 2] : List TypeId).mapM fun t => shOf Tryz.prog 9 t) = some [.st [.int .i64, .sl (.st [.int .i64, .int .i64])], .st (List.replicate 5 (.st [.int .u64, .bool])), .int .i64] := by kernel_rfl
theorem zoneOnce_reads : (([55, 42, 2] : List TypeId).all fun t => Tryz.prog.readableRec t && decide (t < Tryz.prog.types.size)) = true := by kernel_rfl
theorem zoneOnce_law {H : Type} {enc : TypeId × Value → H} {W : World} {args : Array Value} (hsz : SizedIn enc Tryz.prog Tryz.f7 Rows.zoneOnceSpec false W args) {H0 : Heap} (hG : GlobZ H0) (xs : List AV) (h : fitsAll [.st [.int .i64, .sl (.st [.int .i64, .int .i64])], .st (List.replicate 5 (.st [.int .u64, .bool])), .int .i64] xs) (hrel : RelL (comOf W) xs args.toList) : ∃ K, AOk Tryz.prog 7 xs H0 (.sc (.bool true)) K := by
  obtain ⟨a0, r0, rfl, h0, a1, r1, rfl, h1, a2, r2, rfl, h2, hz⟩ := h
  simp only [fitsAll] at hz
  subst hz
  obtain ⟨z, rfl, hz⟩ := fits_zone h0
  obtain ⟨x, rfl, hx⟩ := fits_expr h1
  obtain ⟨m, rfl, m1, m2⟩ := fits_i64 h2
  have hs := zone_bound (by rw [Tryz.params7]) hsz hrel
  exact ⟨H0, zoneOnce_ok hG z _ hx m hs⟩
set_option maxRecDepth 100000 in
theorem zoneOnce_met (os : Os) (args : Array Value) : laidMet Tryz.prog Rows.zoneOnceRow.laid ((laidWorld os).forCall (fun _ _ => 0) ⟨#[], args, []⟩).memory :=
  laidMet_of_run' 8 (by kernel_rfl) (by kernel_rfl)
set_option maxRecDepth 100000 in
theorem zoneOnce_lifted (os : Os) (started : os.Started) (H : Type) (enc : TypeId × Value → H) :
    ReturnsInHanded {} Tryz.checked os 7 .any (fun w args => (Rows.zoneOnceSpec.pre enc Tryz.prog Tryz.f7 Rows.zoneOnceRow.domain false w args ∧ laidMet Tryz.prog Rows.zoneOnceRow.laid w) ∧ sizedMet enc Tryz.prog Tryz.f7 (OpenSpec.ofChange Rows.zoneOnceSpec) false w args)
      (Rows.zoneOnceSpec.post enc Tryz.prog Tryz.f7 false true false false) := by
  refine returnsInHanded_of_change_and_sized (C := Tryz.checked) (X := fun w _ => laidMet Tryz.prog Rows.zoneOnceRow.laid w) (fun _ _ _ hh h => h.of_heap hh) own started (by kernel_rfl) Tryz.func7
    (ChangeSpec.witness_at (enc := enc) (C := Tryz.checked) (os := os) (X := fun w _ => laidMet Tryz.prog Rows.zoneOnceRow.laid w) false (laidWorld os) #[.agg #[.int .i64 0, .slice none 0 0], .agg #[.int .u64 0, .bool false, .int .u64 0, .bool false, .int .u64 0, .bool false, .int .u64 0, .bool false, .int .u64 0, .bool false], .int .i64 0] 8 rfl (by kernel_rfl) (by kernel_rfl) (by kernel_rfl) (by kernel_rfl) (by kernel_rfl) (zoneOnce_met os _)) ?_
  intro W base args ds gs before hval hW hL hsh hsz
  have hm := groZ_reads hL (by simp [Rows.zoneOnceRow]) (by simp [Rows.zoneOnceRow])
  refine law_contract3 (P := Tryz.prog) (hfn := Tryz.func7) (ts := [55, 42, 2]) (rt := 4) (n := 9) (by rw [Tryz.params7]) zoneOnce_shapes (by kernel_rfl) bool_type rfl (fun ds h => ?_) laidOut zoneOnce_reads W hm base args ds gs before (fun ys hf hr => zoneOnce_law hsz (globZ_gro) ys hf hr) hval hW
  match ds, h with
  | [_, _, _], _ => rfl
end Go.Proofs.YtmoncokklkiikaaGreatDoor
