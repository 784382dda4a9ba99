/- CronMore's statement. -/
import Derived.Test.YtdpgnbinekcgdaaGreatDoorCronMore
import Derived.Test.YtdpgnbinekcgdaaGreatDoorFits
namespace Go.Proofs.YtdpgnbinekcgdaaGreatDoor
open Rg Go Go.RowKit Go.WideShapes Go.ChangeShapes

theorem cronMore_shapes : (([9, 2, 3, 23] : List TypeId).mapM fun t => shOf Tryz.prog 9 t) = some [.str, .int .i64, .int .i64, .int .u64] := by kernel_rfl
theorem cronMore_reads : (([9, 2, 3, 23] : List TypeId).all fun t => Tryz.prog.readableRec t && decide (t < Tryz.prog.types.size)) = true := by kernel_rfl

theorem cronMore_law {H0 : Heap} (hG : Glob H0) (xs : List AV) (h : fitsAll [.str, .int .i64, .int .i64, .int .u64] xs) : ∃ K, AOk Tryz.prog 7 xs H0 (.sc (.bool true)) K := by
  obtain ⟨a0, r0, rfl, h0, a1, r1, rfl, h1, a2, r2, rfl, h2, a3, r3, rfl, h3, hz⟩ := h
  simp only [fitsAll] at hz
  subst hz
  obtain ⟨s, rfl, hs⟩ := fits_str h0
  obtain ⟨t, rfl, t1, t2⟩ := fits_i64 h1
  obtain ⟨kind, rfl, kind1, kind2⟩ := fits_i64 h2
  obtain ⟨more, rfl, hmore⟩ := fits_u64 h3
  exact ⟨H0, cronMore_ok hG s hs t kind more hmore⟩

set_option maxRecDepth 100000 in
theorem cronMore_met (os : Os) (args : Array Value) : laidMet Tryz.prog Rows.cronMoreRow.laid ((laidWorld os).forCall (fun _ _ => 0) ⟨#[], args, []⟩).memory :=
  laidMet_of_run' 8 (by kernel_rfl) (by kernel_rfl)

set_option maxRecDepth 100000 in
theorem cronMore_lifted (os : Os) (started : os.Started) (H : Type) (enc : TypeId × Value → H) :
    ReturnsInHanded {} Tryz.checked os 7 .any (fun w args => (Rows.cronMoreSpec.pre enc Tryz.prog Tryz.f7 Rows.cronMoreRow.domain false w args ∧ laidMet Tryz.prog Rows.cronMoreRow.laid w) ∧ sizedMet enc Tryz.prog Tryz.f7 (OpenSpec.ofChange Rows.cronMoreSpec) false w args)
      (Rows.cronMoreSpec.post enc Tryz.prog Tryz.f7 false true false false) := by
  refine returnsInHanded_of_change_and_shaped (C := Tryz.checked) (X := fun w _ => laidMet Tryz.prog Rows.cronMoreRow.laid w) (fun _ _ _ hh h => h.of_heap hh) own started (by kernel_rfl) Tryz.func7
    (ChangeSpec.witness_at (enc := enc) (C := Tryz.checked) (os := os) (X := fun w _ => laidMet Tryz.prog Rows.cronMoreRow.laid w) false (laidWorld os) #[.string ⟨#[]⟩, .int .i64 0, .int .i64 0, .int .u64 0] 8 rfl (by kernel_rfl) (by kernel_rfl) (by kernel_rfl) (by kernel_rfl) (by kernel_rfl) (cronMore_met os _)) ?_
  intro W base args ds gs before hval hW hL hsh
  obtain ⟨m, hm⟩ := gro_reads hL hsh (by simp [Rows.cronMoreRow]) (by simp [Rows.cronMoreRow]) (by simp [Rows.cronMoreRow])
  refine law_contract2 (P := Tryz.prog) (ts := [9, 2, 3, 23]) (rt := 4) (n := 9) (by rw [Tryz.params7]) cronMore_shapes (by kernel_rfl) bool_type rfl (fun ds h => ?_) laidOut cronMore_reads W hm (cronMore_law (glob_gro m)) base args ds gs before hval hW
  match ds, h with
  | [_, _, _, _], _ => rfl

theorem cronMore_holds : Rows.CronMoreSaid :=
  OpenClaim.holds_of_wide 7 Tryz.f7 rfl rfl rfl rfl rfl rfl rfl ⟨rfl, rfl, rfl, rfl, rfl⟩ rfl rfl rfl rfl rfl (by kernel_rfl) Tryz.func7 (by kernel_rfl)
    (of_decide_eq_true (by kernel_rfl)) (by unfold Func.isWrapper; first | (rw [if_pos (by decide +kernel)]; kernel_rfl) | (rw [if_neg (by decide +kernel)]; exact ⟨rfl, rfl⟩))
    (fun os started H enc _ => cronMore_lifted os started H enc)

theorem cronMore_card : Rows.CronMoreCardSaid :=
  Claim7.holds_tied_plain_at .later [] Rows.cronMoreCard.laidKinds true Rows.cronMoreCard.stood.harness true
    cronMore_holds (fun _ h => by cases h) (by kernel_rfl) (fun _ h => by cases h) cronMore_row_tie rfl ⟨rfl, rfl⟩ (by kernel_rfl) rfl
    (fun f fn hf hfn => by
      obtain rfl : f = 7 := Option.some.inj ((show Tryz.prog.funcNamed "ringer/ringerlaw07.CronMore" = some 7 by kernel_rfl).symm.trans hf) |>.symm
      obtain rfl : fn = Tryz.f7 := (Option.some.inj (Tryz.func7.symm.trans hfn)).symm
      exact ⟨by kernel_rfl, fun j t ht => by
        rw [Tryz.params7] at ht
        have h3 : (([9, 2, 3, 23] : List TypeId).all fun t => Tryz.prog.wantsStandIn t == false) = true := by kernel_rfl
        exact beq_iff_eq.1 (List.all_eq_true.1 h3 t (List.mem_of_getElem? (i := j) (by simpa using ht)))⟩)
    (by kernel_rfl)
#print axioms cronMore_card
end Go.Proofs.YtdpgnbinekcgdaaGreatDoor
