/- NextGap's statement. -/
import Derived.Test.YtdpgnbinekcgdaaDoorNextGap
import Derived.Test.YtdpgnbinekcgdaaDoorGroT
namespace Go.Proofs.YtdpgnbinekcgdaaDoor
open Rg Go Go.RowKit Go.WideShapes Go.ChangeShapes

theorem nextGap_shapes : (([26, 2, 2] : List TypeId).mapM fun t => shOf Tryd.prog 9 t) = some [.st (List.replicate 5 (.st [.int .u64, .bool])), .int .i64, .int .i64] := by kernel_rfl
theorem nextGap_reads : (([26, 2, 2] : List TypeId).all fun t => Tryd.prog.readableRec t && decide (t < Tryd.prog.types.size)) = true := by kernel_rfl

theorem nextGap_law {H0 : Heap} (hG : GlobT H0) (xs : List AV) (h : fitsAll [.st (List.replicate 5 (.st [.int .u64, .bool])), .int .i64, .int .i64] xs) : ∃ K, AOk Tryd.prog 4 xs H0 (.sc (.bool true)) K := by
  obtain ⟨a0, r0, rfl, h0, a1, r1, rfl, h1, a2, r2, rfl, h2, hz⟩ := h
  simp only [fitsAll] at hz
  subst hz
  obtain ⟨x, rfl, hx⟩ := fits_expr h0
  obtain ⟨t, rfl, t1, t2⟩ := fits_i64 h1
  obtain ⟨q, rfl, q1, q2⟩ := fits_i64 h2
  exact ⟨H0, nextGap_ok hG x hx t q q2⟩

set_option maxRecDepth 100000 in
theorem nextGap_met (os : Os) (args : Array Value) : laidMet Tryd.prog Rows.nextGapRow.laid ((laidWorld os).forCall (fun _ _ => 0) ⟨#[], args, []⟩).memory :=
  laidMet_of_run' 8 (by kernel_rfl) (by kernel_rfl)

set_option maxRecDepth 100000 in
theorem nextGap_lifted (os : Os) (started : os.Started) (H : Type) (enc : TypeId × Value → H) :
    ReturnsInHanded {} Tryd.checked os 4 .any (fun w args => (Rows.nextGapSpec.pre enc Tryd.prog Tryd.f4 Rows.nextGapRow.domain false w args ∧ laidMet Tryd.prog Rows.nextGapRow.laid w) ∧ sizedMet enc Tryd.prog Tryd.f4 (OpenSpec.ofChange Rows.nextGapSpec) false w args)
      (Rows.nextGapSpec.post enc Tryd.prog Tryd.f4 false true false false) := by
  refine returnsInHanded_of_change_and_shaped (C := Tryd.checked) (X := fun w _ => laidMet Tryd.prog Rows.nextGapRow.laid w) (fun _ _ _ hh h => h.of_heap hh) own started (by kernel_rfl) Tryd.func4
    (ChangeSpec.witness_at (enc := enc) (C := Tryd.checked) (os := os) (X := fun w _ => laidMet Tryd.prog Rows.nextGapRow.laid w) false (laidWorld os) #[.agg #[.int .u64 0, .bool false, .int .u64 0, .bool false, .int .u64 0, .bool false, .int .u64 0, .bool false, .int .u64 0, .bool false], .int .i64 0, .int .i64 0] 8 rfl (by kernel_rfl) (by kernel_rfl) (by kernel_rfl) (by kernel_rfl) (by kernel_rfl) (nextGap_met os _)) ?_
  intro W base args ds gs before hval hW hL hsh
  have hm := groT_reads hL (by simp [Rows.nextGapRow])
  refine law_contract2 (P := Tryd.prog) (hfn := Tryd.func4) (ts := [26, 2, 2]) (rt := 4) (n := 9) (by rw [Tryd.params4]) nextGap_shapes (by kernel_rfl) bool_type rfl (fun ds h => ?_) laidOut nextGap_reads W hm (nextGap_law (globT_gro)) base args ds gs before hval hW
  match ds, h with
  | [_, _, _], _ => rfl

theorem nextGap_holds : Rows.NextGapSaid :=
  OpenClaim.holds_of_wide 4 Tryd.f4 rfl rfl rfl rfl rfl rfl rfl ⟨rfl, rfl, rfl, rfl, rfl⟩ rfl rfl rfl rfl rfl (by kernel_rfl) Tryd.func4 (by kernel_rfl)
    (of_decide_eq_true (by kernel_rfl)) (by unfold Func.isWrapper; first | (rw [if_pos (by decide +kernel)]; kernel_rfl) | (rw [if_neg (by decide +kernel)]; exact ⟨rfl, rfl⟩))
    (fun os started H enc _ => nextGap_lifted os started H enc)

theorem nextGap_card : Rows.NextGapCardSaid :=
  Claim7.holds_tied_plain_at .later [] Rows.nextGapCard.laidKinds true Rows.nextGapCard.stood.harness true
    nextGap_holds (fun _ h => by cases h) (by kernel_rfl) (fun _ h => by cases h) nextGap_row_tie rfl ⟨rfl, rfl⟩ (by kernel_rfl) rfl
    (fun f fn hf hfn => by
      obtain rfl : f = 4 := Option.some.inj ((show Tryd.prog.funcNamed "ringer/ringerlaw08.NextGap" = some 4 by kernel_rfl).symm.trans hf) |>.symm
      obtain rfl : fn = Tryd.f4 := (Option.some.inj (Tryd.func4.symm.trans hfn)).symm
      exact ⟨by kernel_rfl, fun j t ht => by
        rw [Tryd.params4] at ht
        have h3 : (([26, 2, 2] : List TypeId).all fun t => Tryd.prog.wantsStandIn t == false) = true := by kernel_rfl
        exact beq_iff_eq.1 (List.all_eq_true.1 h3 t (List.mem_of_getElem? (i := j) (by simpa using ht)))⟩)
    (by kernel_rfl)
#print axioms nextGap_card
end Go.Proofs.YtdpgnbinekcgdaaDoor
