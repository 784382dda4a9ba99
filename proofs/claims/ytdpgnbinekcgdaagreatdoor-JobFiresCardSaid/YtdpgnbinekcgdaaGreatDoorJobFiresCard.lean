/- JobFires's statement. -/
import Derived.Test.YtdpgnbinekcgdaaGreatDoorKnown14
import Derived.Test.YtdpgnbinekcgdaaGreatDoorFits
namespace Go.Proofs.YtdpgnbinekcgdaaGreatDoor
open Rg Go Go.RowKit Go.WideShapes Go.ChangeShapes

theorem jobFires_shapes : (([53, 2, 2, 3] : List TypeId).mapM fun t => shOf Tryz.prog 9 t) = some [.st [.int .u64, .str, .str, .int .i64, .int .i64, .int .i64, .int .i64, .int .i64, .sl (.int .u64), .bool, .int .u64, .int .i64], .int .i64, .int .i64, .int .i64] := by kernel_rfl
theorem jobFires_reads : (([53, 2, 2, 3] : List TypeId).all fun t => Tryz.prog.readableRec t && decide (t < Tryz.prog.types.size)) = true := by kernel_rfl

theorem jobFires_law {H0 : Heap} (hG : Glob H0) (xs : List AV) (h : fitsAll [.st [.int .u64, .str, .str, .int .i64, .int .i64, .int .i64, .int .i64, .int .i64, .sl (.int .u64), .bool, .int .u64, .int .i64], .int .i64, .int .i64, .int .i64] xs) : ∃ K, AOk Tryz.prog 8 xs H0 (.sc (.bool true)) K := by
  obtain ⟨a0, r0, rfl, h0, a1, r1, rfl, h1, a2, r2, rfl, h2, a3, r3, rfl, h3, hz⟩ := h
  simp only [fitsAll] at hz
  subst hz
  obtain ⟨j, rfl, hj⟩ := fits_job h0
  obtain ⟨a, rfl, a1, a2⟩ := fits_i64 h1
  obtain ⟨b, rfl, b1, b2⟩ := fits_i64 h2
  obtain ⟨m, rfl, m1, m2⟩ := fits_i64 h3
  exact ⟨H0, jobFires_walk hG j .no a b m⟩

set_option maxRecDepth 100000 in
theorem jobFires_met (os : Os) (args : Array Value) : laidMet Tryz.prog Rows.jobFiresRow.laid ((laidWorld os).forCall (fun _ _ => 0) ⟨#[], args, []⟩).memory :=
  laidMet_of_run' 8 (by kernel_rfl) (by kernel_rfl)

set_option maxRecDepth 100000 in
theorem jobFires_lifted (os : Os) (started : os.Started) (H : Type) (enc : TypeId × Value → H) :
    ReturnsInHanded {} Tryz.checked os 8 .any (fun w args => (Rows.jobFiresSpec.pre enc Tryz.prog Tryz.f8 Rows.jobFiresRow.domain false w args ∧ laidMet Tryz.prog Rows.jobFiresRow.laid w) ∧ sizedMet enc Tryz.prog Tryz.f8 (OpenSpec.ofChange Rows.jobFiresSpec) false w args)
      (Rows.jobFiresSpec.post enc Tryz.prog Tryz.f8 false true false false) := by
  refine returnsInHanded_of_change_and_shaped (C := Tryz.checked) (X := fun w _ => laidMet Tryz.prog Rows.jobFiresRow.laid w) (fun _ _ _ hh h => h.of_heap hh) own started (by kernel_rfl) Tryz.func8
    (ChangeSpec.witness_at (enc := enc) (C := Tryz.checked) (os := os) (X := fun w _ => laidMet Tryz.prog Rows.jobFiresRow.laid w) false (laidWorld os) #[.agg #[.int .u64 0, .string ⟨#[]⟩, .string ⟨#[]⟩, .int .i64 0, .int .i64 0, .int .i64 0, .int .i64 0, .int .i64 0, .slice none 0 0, .bool false, .int .u64 0, .int .i64 0], .int .i64 0, .int .i64 0, .int .i64 0] 8 rfl (by kernel_rfl) (by kernel_rfl) (by kernel_rfl) (by kernel_rfl) (by kernel_rfl) (jobFires_met os _)) ?_
  intro W base args ds gs before hval hW hL hsh
  obtain ⟨m, hm⟩ := gro_reads hL hsh (by simp [Rows.jobFiresRow]) (by simp [Rows.jobFiresRow]) (by simp [Rows.jobFiresRow])
  refine law_contract2 (P := Tryz.prog) (hfn := Tryz.func8) (ts := [53, 2, 2, 3]) (rt := 4) (n := 9) (by rw [Tryz.params8]) jobFires_shapes (by kernel_rfl) bool_type rfl (fun ds h => ?_) laidOut jobFires_reads W hm (jobFires_law (glob_gro m)) base args ds gs before hval hW
  match ds, h with
  | [_, _, _, _], _ => rfl

theorem jobFires_holds : Rows.JobFiresSaid :=
  OpenClaim.holds_of_wide 8 Tryz.f8 rfl rfl rfl rfl rfl rfl rfl ⟨rfl, rfl, rfl, rfl, rfl⟩ rfl rfl rfl rfl rfl (by kernel_rfl) Tryz.func8 (by kernel_rfl)
    (of_decide_eq_true (by kernel_rfl)) (by unfold Func.isWrapper; first | (rw [if_pos (by decide +kernel)]; kernel_rfl) | (rw [if_neg (by decide +kernel)]; exact ⟨rfl, rfl⟩))
    (fun os started H enc _ => jobFires_lifted os started H enc)

theorem jobFires_card : Rows.JobFiresCardSaid :=
  Claim7.holds_tied_plain_at .later [] Rows.jobFiresCard.laidKinds true Rows.jobFiresCard.stood.harness true
    jobFires_holds (fun _ h => by cases h) (by kernel_rfl) (fun _ h => by cases h) jobFires_row_tie rfl ⟨rfl, rfl⟩ (by kernel_rfl) rfl
    (fun f fn hf hfn => by
      obtain rfl : f = 8 := Option.some.inj ((show Tryz.prog.funcNamed "ringer/ringerlaw14.JobFires" = some 8 by kernel_rfl).symm.trans hf) |>.symm
      obtain rfl : fn = Tryz.f8 := (Option.some.inj (Tryz.func8.symm.trans hfn)).symm
      exact ⟨by kernel_rfl, fun j t ht => by
        rw [Tryz.params8] at ht
        have h3 : (([53, 2, 2, 3] : List TypeId).all fun t => Tryz.prog.wantsStandIn t == false) = true := by kernel_rfl
        exact beq_iff_eq.1 (List.all_eq_true.1 h3 t (List.mem_of_getElem? (i := j) (by simpa using ht)))⟩)
    (by kernel_rfl)
#print axioms jobFires_card
end Go.Proofs.YtdpgnbinekcgdaaGreatDoor
