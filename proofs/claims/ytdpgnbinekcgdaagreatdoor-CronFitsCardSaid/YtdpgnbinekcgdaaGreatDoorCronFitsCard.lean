/- CronFits's statement. -/
import Derived.Test.YtdpgnbinekcgdaaGreatDoorCronFits
import Derived.Test.YtdpgnbinekcgdaaGreatDoorFits
namespace Go.Proofs.YtdpgnbinekcgdaaGreatDoor
open Rg Go Go.RowKit Go.WideShapes Go.ChangeShapes

theorem cronFits_shapes : (([37, 44] : List TypeId).mapM fun t => shOf Tryz.prog 9 t) = some [.st (List.replicate 5 (.st [.int .u64, .bool])), .st [.st [.int .i64, .int .i64, .int .i64], .int .i64, .int .i64, .int .i64, .int .i64]] := by kernel_rfl
theorem cronFits_reads : (([37, 44] : List TypeId).all fun t => Tryz.prog.readableRec t && decide (t < Tryz.prog.types.size)) = true := by kernel_rfl

theorem cronFits_law {H0 : Heap} (hG : Glob H0) (xs : List AV) (h : fitsAll [.st (List.replicate 5 (.st [.int .u64, .bool])), .st [.st [.int .i64, .int .i64, .int .i64], .int .i64, .int .i64, .int .i64, .int .i64]] xs) : ∃ K, AOk Tryz.prog 6 xs H0 (.sc (.bool true)) K := by
  obtain ⟨a0, r0, rfl, h0, a1, r1, rfl, h1, hz⟩ := h
  simp only [fitsAll] at hz
  subst hz
  obtain ⟨x, rfl, hx⟩ := fits_expr h0
  obtain ⟨c, rfl, hc⟩ := fits_clock h1
  exact ⟨H0, cronFits_ok hG x hx c⟩

set_option maxRecDepth 100000 in
theorem cronFits_met (os : Os) (args : Array Value) : laidMet Tryz.prog Rows.cronFitsRow.laid ((laidWorld os).forCall (fun _ _ => 0) ⟨#[], args, []⟩).memory :=
  laidMet_of_run' 8 (by kernel_rfl) (by kernel_rfl)

set_option maxRecDepth 100000 in
theorem cronFits_lifted (os : Os) (started : os.Started) (H : Type) (enc : TypeId × Value → H) :
    ReturnsInHanded {} Tryz.checked os 6 .any (fun w args => (Rows.cronFitsSpec.pre enc Tryz.prog Tryz.f6 Rows.cronFitsRow.domain false w args ∧ laidMet Tryz.prog Rows.cronFitsRow.laid w) ∧ sizedMet enc Tryz.prog Tryz.f6 (OpenSpec.ofChange Rows.cronFitsSpec) false w args)
      (Rows.cronFitsSpec.post enc Tryz.prog Tryz.f6 false true false false) := by
  refine returnsInHanded_of_change_and_shaped (C := Tryz.checked) (X := fun w _ => laidMet Tryz.prog Rows.cronFitsRow.laid w) (fun _ _ _ hh h => h.of_heap hh) own started (by kernel_rfl) Tryz.func6
    (ChangeSpec.witness_at (enc := enc) (C := Tryz.checked) (os := os) (X := fun w _ => laidMet Tryz.prog Rows.cronFitsRow.laid w) false (laidWorld os) #[.agg #[.int .u64 0, .bool false, .int .u64 0, .bool false, .int .u64 0, .bool false, .int .u64 0, .bool false, .int .u64 0, .bool false], .agg #[.int .i64 0, .int .i64 0, .int .i64 0, .int .i64 0, .int .i64 0, .int .i64 0, .int .i64 0]] 8 rfl (by kernel_rfl) (by kernel_rfl) (by kernel_rfl) (by kernel_rfl) (by kernel_rfl) (cronFits_met os _)) ?_
  intro W base args ds gs before hval hW hL hsh
  obtain ⟨m, hm⟩ := gro_reads hL hsh (by simp [Rows.cronFitsRow]) (by simp [Rows.cronFitsRow]) (by simp [Rows.cronFitsRow])
  refine law_contract2 (P := Tryz.prog) (ts := [37, 44]) (rt := 4) (n := 9) (by rw [Tryz.params6]) cronFits_shapes (by kernel_rfl) bool_type rfl (fun ds h => ?_) laidOut cronFits_reads W hm (cronFits_law (glob_gro m)) base args ds gs before hval hW
  match ds, h with
  | [_, _], _ => rfl

theorem cronFits_holds : Rows.CronFitsSaid :=
  OpenClaim.holds_of_wide 6 Tryz.f6 rfl rfl rfl rfl rfl rfl rfl ⟨rfl, rfl, rfl, rfl, rfl⟩ rfl rfl rfl rfl rfl (by kernel_rfl) Tryz.func6 (by kernel_rfl)
    (of_decide_eq_true (by kernel_rfl)) (by unfold Func.isWrapper; first | (rw [if_pos (by decide +kernel)]; kernel_rfl) | (rw [if_neg (by decide +kernel)]; exact ⟨rfl, rfl⟩))
    (fun os started H enc _ => cronFits_lifted os started H enc)

theorem cronFits_card : Rows.CronFitsCardSaid :=
  Claim7.holds_tied_plain_at .later [] Rows.cronFitsCard.laidKinds true Rows.cronFitsCard.stood.harness true
    cronFits_holds (fun _ h => by cases h) (by kernel_rfl) (fun _ h => by cases h) cronFits_row_tie rfl ⟨rfl, rfl⟩ (by kernel_rfl) rfl
    (fun f fn hf hfn => by
      obtain rfl : f = 6 := Option.some.inj ((show Tryz.prog.funcNamed "ringer/ringerlaw07.CronFits" = some 6 by kernel_rfl).symm.trans hf) |>.symm
      obtain rfl : fn = Tryz.f6 := (Option.some.inj (Tryz.func6.symm.trans hfn)).symm
      exact ⟨by kernel_rfl, fun j t ht => by
        rw [Tryz.params6] at ht
        have h3 : (([37, 44] : List TypeId).all fun t => Tryz.prog.wantsStandIn t == false) = true := by kernel_rfl
        exact beq_iff_eq.1 (List.all_eq_true.1 h3 t (List.mem_of_getElem? (i := j) (by simpa using ht)))⟩)
    (by kernel_rfl)
#print axioms cronFits_card
end Go.Proofs.YtdpgnbinekcgdaaGreatDoor
