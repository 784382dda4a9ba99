/- CronParses's statement. -/
import Derived.Test.YtdpgnbinekcgdaaGreatDoorCronParses
import Derived.Test.YtdpgnbinekcgdaaGreatDoorFits
namespace Go.Proofs.YtdpgnbinekcgdaaGreatDoor
open Rg Go Go.RowKit Go.WideShapes Go.ChangeShapes

theorem cronParses_shapes : (([9] : List TypeId).mapM fun t => shOf Tryz.prog 9 t) = some [.str] := by kernel_rfl
theorem cronParses_reads : (([9] : List TypeId).all fun t => Tryz.prog.readableRec t && decide (t < Tryz.prog.types.size)) = true := by kernel_rfl

theorem cronParses_law {H0 : Heap} (hG : Glob H0) (xs : List AV) (h : fitsAll [.str] xs) : ∃ K, AOk Tryz.prog 5 xs H0 (.sc (.bool true)) K := by
  obtain ⟨a0, r0, rfl, h0, hz⟩ := h
  simp only [fitsAll] at hz
  subst hz
  obtain ⟨s, rfl, hs⟩ := fits_str h0
  exact ⟨H0, cronParses_ok hG s (by unfold maxLen at hs; omega)⟩

set_option maxRecDepth 100000 in
theorem cronParses_met (os : Os) (args : Array Value) : laidMet Tryz.prog Rows.cronParsesRow.laid ((laidWorld os).forCall (fun _ _ => 0) ⟨#[], args, []⟩).memory :=
  laidMet_of_run' 8 (by kernel_rfl) (by kernel_rfl)

set_option maxRecDepth 100000 in
theorem cronParses_lifted (os : Os) (started : os.Started) (H : Type) (enc : TypeId × Value → H) :
    ReturnsInHanded {} Tryz.checked os 5 .any (fun w args => (Rows.cronParsesSpec.pre enc Tryz.prog Tryz.f5 Rows.cronParsesRow.domain false w args ∧ laidMet Tryz.prog Rows.cronParsesRow.laid w) ∧ sizedMet enc Tryz.prog Tryz.f5 (OpenSpec.ofChange Rows.cronParsesSpec) false w args)
      (Rows.cronParsesSpec.post enc Tryz.prog Tryz.f5 false true false false) := by
  refine returnsInHanded_of_change_and_shaped (C := Tryz.checked) (X := fun w _ => laidMet Tryz.prog Rows.cronParsesRow.laid w) (fun _ _ _ hh h => h.of_heap hh) own started (by kernel_rfl) Tryz.func5
    (ChangeSpec.witness_at (enc := enc) (C := Tryz.checked) (os := os) (X := fun w _ => laidMet Tryz.prog Rows.cronParsesRow.laid w) false (laidWorld os) #[.string ⟨#[]⟩] 8 rfl (by kernel_rfl) (by kernel_rfl) (by kernel_rfl) (by kernel_rfl) (by kernel_rfl) (cronParses_met os _)) ?_
  intro W base args ds gs before hval hW hL hsh
  obtain ⟨m, hm⟩ := gro_reads hL hsh (by simp [Rows.cronParsesRow]) (by simp [Rows.cronParsesRow]) (by simp [Rows.cronParsesRow])
  refine law_contract2 (P := Tryz.prog) (ts := [9]) (rt := 4) (n := 9) (by rw [Tryz.params5]) cronParses_shapes (by kernel_rfl) bool_type rfl (fun ds h => ?_) laidOut cronParses_reads W hm (cronParses_law (glob_gro m)) base args ds gs before hval hW
  match ds, h with
  | [_], _ => rfl

theorem cronParses_holds : Rows.CronParsesSaid :=
  OpenClaim.holds_of_wide 5 Tryz.f5 rfl rfl rfl rfl rfl rfl rfl ⟨rfl, rfl, rfl, rfl, rfl⟩ rfl rfl rfl rfl rfl (by kernel_rfl) Tryz.func5 (by kernel_rfl)
    (of_decide_eq_true (by kernel_rfl)) (by unfold Func.isWrapper; first | (rw [if_pos (by decide +kernel)]; kernel_rfl) | (rw [if_neg (by decide +kernel)]; exact ⟨rfl, rfl⟩))
    (fun os started H enc _ => cronParses_lifted os started H enc)

theorem cronParses_card : Rows.CronParsesCardSaid :=
  Claim7.holds_tied_plain_at .later [] Rows.cronParsesCard.laidKinds true Rows.cronParsesCard.stood.harness true
    cronParses_holds (fun _ h => by cases h) (by kernel_rfl) (fun _ h => by cases h) cronParses_row_tie rfl ⟨rfl, rfl⟩ (by kernel_rfl) rfl
    (fun f fn hf hfn => by
      obtain rfl : f = 5 := Option.some.inj ((show Tryz.prog.funcNamed "ringer/ringerlaw07.CronParses" = some 5 by kernel_rfl).symm.trans hf) |>.symm
      obtain rfl : fn = Tryz.f5 := (Option.some.inj (Tryz.func5.symm.trans hfn)).symm
      exact ⟨by kernel_rfl, fun j t ht => by
        rw [Tryz.params5] at ht
        have h3 : (([9] : List TypeId).all fun t => Tryz.prog.wantsStandIn t == false) = true := by kernel_rfl
        exact beq_iff_eq.1 (List.all_eq_true.1 h3 t (List.mem_of_getElem? (i := j) (by simpa using ht)))⟩)
    (by kernel_rfl)
#print axioms cronParses_card
end Go.Proofs.YtdpgnbinekcgdaaGreatDoor
