/- NextFires's statement. -/
import Derived.Test.YtdpgnbinekcgdaaDoorNextFires
import Derived.Test.YtdpgnbinekcgdaaDoorGroT
namespace Go.Proofs.YtdpgnbinekcgdaaDoor
open Rg Go Go.RowKit Go.WideShapes Go.ChangeShapes

theorem nextFires_shapes : (([26, 2] : List TypeId).mapM fun t => shOf Tryd.prog 9 t) = some [.st (List.replicate 5 (.st [.int .u64, .bool])), .int .i64] := by kernel_rfl
theorem nextFires_reads : (([26, 2] : List TypeId).all fun t => Tryd.prog.readableRec t && decide (t < Tryd.prog.types.size)) = true := by kernel_rfl

theorem nextFires_law {H0 : Heap} (hG : GlobT H0) (xs : List AV) (h : fitsAll [.st (List.replicate 5 (.st [.int .u64, .bool])), .int .i64] xs) : ∃ K, AOk Tryd.prog 3 xs H0 (.sc (.bool true)) K := by
  obtain ⟨a0, r0, rfl, h0, a1, r1, rfl, h1, hz⟩ := h
  simp only [fitsAll] at hz
  subst hz
  obtain ⟨x, rfl, hx⟩ := fits_expr h0
  obtain ⟨t, rfl, t1, t2⟩ := fits_i64 h1
  exact ⟨H0, nextFires_ok hG x hx t⟩

set_option maxRecDepth 100000 in
theorem nextFires_met (os : Os) (args : Array Value) : laidMet Tryd.prog Rows.nextFiresRow.laid ((laidWorld os).forCall (fun _ _ => 0) ⟨#[], args, []⟩).memory :=
  laidMet_of_run' 8 (by kernel_rfl) (by kernel_rfl)

set_option maxRecDepth 100000 in
theorem nextFires_lifted (os : Os) (started : os.Started) (H : Type) (enc : TypeId × Value → H) :
    ReturnsInHanded {} Tryd.checked os 3 .any (fun w args => (Rows.nextFiresSpec.pre enc Tryd.prog Tryd.f3 Rows.nextFiresRow.domain false w args ∧ laidMet Tryd.prog Rows.nextFiresRow.laid w) ∧ sizedMet enc Tryd.prog Tryd.f3 (OpenSpec.ofChange Rows.nextFiresSpec) false w args)
      (Rows.nextFiresSpec.post enc Tryd.prog Tryd.f3 false true false false) := by
  refine returnsInHanded_of_change_and_shaped (C := Tryd.checked) (X := fun w _ => laidMet Tryd.prog Rows.nextFiresRow.laid w) (fun _ _ _ hh h => h.of_heap hh) own started (by kernel_rfl) Tryd.func3
    (ChangeSpec.witness_at (enc := enc) (C := Tryd.checked) (os := os) (X := fun w _ => laidMet Tryd.prog Rows.nextFiresRow.laid w) false (laidWorld os) #[.agg #[.int .u64 0, .bool false, .int .u64 0, .bool false, .int .u64 0, .bool false, .int .u64 0, .bool false, .int .u64 0, .bool false], .int .i64 0] 8 rfl (by kernel_rfl) (by kernel_rfl) (by kernel_rfl) (by kernel_rfl) (by kernel_rfl) (nextFires_met os _)) ?_
  intro W base args ds gs before hval hW hL hsh
  have hm := groT_reads hL (by simp [Rows.nextFiresRow])
  refine law_contract2 (P := Tryd.prog) (hfn := Tryd.func3) (ts := [26, 2]) (rt := 4) (n := 9) (by rw [Tryd.params3]) nextFires_shapes (by kernel_rfl) bool_type rfl (fun ds h => ?_) laidOut nextFires_reads W hm (nextFires_law (globT_gro)) base args ds gs before hval hW
  match ds, h with
  | [_, _], _ => rfl

theorem nextFires_holds : Rows.NextFiresSaid :=
  OpenClaim.holds_of_wide 3 Tryd.f3 rfl rfl rfl rfl rfl rfl rfl ⟨rfl, rfl, rfl, rfl, rfl⟩ rfl rfl rfl rfl rfl (by kernel_rfl) Tryd.func3 (by kernel_rfl)
    (of_decide_eq_true (by kernel_rfl)) (by unfold Func.isWrapper; first | (rw [if_pos (by decide +kernel)]; kernel_rfl) | (rw [if_neg (by decide +kernel)]; exact ⟨rfl, rfl⟩))
    (fun os started H enc _ => nextFires_lifted os started H enc)

theorem nextFires_card : Rows.NextFiresCardSaid :=
  Claim7.holds_tied_plain_at .later [] Rows.nextFiresCard.laidKinds true Rows.nextFiresCard.stood.harness true
    nextFires_holds (fun _ h => by cases h) (by kernel_rfl) (fun _ h => by cases h) nextFires_row_tie rfl ⟨rfl, rfl⟩ (by kernel_rfl) rfl
    (fun f fn hf hfn => by
      obtain rfl : f = 3 := Option.some.inj ((show Tryd.prog.funcNamed "ringer/ringerlaw08.NextFires" = some 3 by kernel_rfl).symm.trans hf) |>.symm
      obtain rfl : fn = Tryd.f3 := (Option.some.inj (Tryd.func3.symm.trans hfn)).symm
      exact ⟨by kernel_rfl, fun j t ht => by
        rw [Tryd.params3] at ht
        have h3 : (([26, 2] : List TypeId).all fun t => Tryd.prog.wantsStandIn t == false) = true := by kernel_rfl
        exact beq_iff_eq.1 (List.all_eq_true.1 h3 t (List.mem_of_getElem? (i := j) (by simpa using ht)))⟩)
    (by kernel_rfl)
#print axioms nextFires_card
end Go.Proofs.YtdpgnbinekcgdaaDoor
