/- FieldBack's statement. -/
import Derived.Test.YtdpgnbinekcgdaaDoorFieldBack
import Derived.Test.YtdpgnbinekcgdaaDoorFits
namespace Go.Proofs.YtdpgnbinekcgdaaDoor
open Rg Go Go.RowKit Go.WideShapes Go.ChangeShapes

theorem fieldBack_shapes : (([3, 24, 9, 9] : List TypeId).mapM fun t => shOf Tryd.prog 9 t) = some [.int .i64, .st [.int .u64, .bool], .str, .str] := by kernel_rfl
theorem fieldBack_reads : (([3, 24, 9, 9] : List TypeId).all fun t => Tryd.prog.readableRec t && decide (t < Tryd.prog.types.size)) = true := by kernel_rfl

theorem fieldBack_law {H0 : Heap} (hG : Glob H0) (xs : List AV) (h : fitsAll [.int .i64, .st [.int .u64, .bool], .str, .str] xs) : ∃ K, AOk Tryd.prog 5 xs H0 (.sc (.bool true)) K := by
  obtain ⟨a, r, rfl, h1, a2, r2, rfl, h2, a3, r3, rfl, h3, a4, r4, rfl, h4, h5⟩ := h
  simp only [fitsAll] at h5
  subst h5
  obtain ⟨k, rfl, _, _⟩ := fits_i64 h1
  obtain ⟨f, rfl, hf⟩ := fits_fld h2
  obtain ⟨s, rfl, hs⟩ := fits_str h3
  obtain ⟨t, rfl, ht⟩ := fits_str h4
  exact ⟨H0, fieldBack_ok hG k f hf s t (by unfold maxLen at hs; omega) (by unfold maxLen at ht; omega)⟩

set_option maxRecDepth 100000 in
theorem fieldBack_met (os : Os) (args : Array Value) : laidMet Tryd.prog Rows.fieldBackRow.laid ((laidWorld os).forCall (fun _ _ => 0) ⟨#[], args, []⟩).memory :=
  laidMet_of_run' 8 (by kernel_rfl) (by kernel_rfl)

set_option maxRecDepth 100000 in
theorem fieldBack_lifted (os : Os) (started : os.Started) (H : Type) (enc : TypeId × Value → H) :
    ReturnsInHanded {} Tryd.checked os 5 .any (fun w args => (Rows.fieldBackSpec.pre enc Tryd.prog Tryd.f5 Rows.fieldBackRow.domain false w args ∧ laidMet Tryd.prog Rows.fieldBackRow.laid w) ∧ sizedMet enc Tryd.prog Tryd.f5 (OpenSpec.ofChange Rows.fieldBackSpec) false w args)
      (Rows.fieldBackSpec.post enc Tryd.prog Tryd.f5 false true false false) := by
  refine returnsInHanded_of_change_and_shaped (C := Tryd.checked) (X := fun w _ => laidMet Tryd.prog Rows.fieldBackRow.laid w) (fun _ _ _ hh h => h.of_heap hh) own started (by kernel_rfl) Tryd.func5
    (ChangeSpec.witness_at (enc := enc) (C := Tryd.checked) (os := os) (X := fun w _ => laidMet Tryd.prog Rows.fieldBackRow.laid w) false (laidWorld os) #[.int .i64 0, .agg #[.int .u64 0, .bool false], .string ⟨#[]⟩, .string ⟨#[]⟩] 8 rfl (by kernel_rfl) (by kernel_rfl) (by kernel_rfl) (by kernel_rfl) (by kernel_rfl) (fieldBack_met os _)) ?_
  intro W base args ds gs before hval hW hL hsh
  obtain ⟨m, hm⟩ := gro_reads hL hsh (by simp [Rows.fieldBackRow]) (by simp [Rows.fieldBackRow]) (by simp [Rows.fieldBackRow])
  refine law_contract2 (P := Tryd.prog) (ts := [3, 24, 9, 9]) (rt := 4) (n := 9) (by rw [Tryd.params5]) fieldBack_shapes (by kernel_rfl) bool_type rfl (fun ds h => ?_) laidOut fieldBack_reads W hm (fieldBack_law (glob_gro m)) base args ds gs before hval hW
  match ds, h with
  | [_, _, _, _], _ => rfl

theorem fieldBack_holds : Rows.FieldBackSaid :=
  OpenClaim.holds_of_wide 5 Tryd.f5 rfl rfl rfl rfl rfl rfl rfl ⟨rfl, rfl, rfl, rfl, rfl⟩ rfl rfl rfl rfl rfl (by kernel_rfl) Tryd.func5 (by kernel_rfl)
    (of_decide_eq_true (by kernel_rfl)) (by unfold Func.isWrapper; first | (rw [if_pos (by decide +kernel)]; kernel_rfl) | (rw [if_neg (by decide +kernel)]; exact ⟨rfl, rfl⟩))
    (fun os started H enc _ => fieldBack_lifted os started H enc)

theorem fieldBack_card : Rows.FieldBackCardSaid :=
  Claim7.holds_tied_plain_at .later [] Rows.fieldBackCard.laidKinds true Rows.fieldBackCard.stood.harness true
    fieldBack_holds (fun _ h => by cases h) (by kernel_rfl) (fun _ h => by cases h) fieldBack_row_tie rfl ⟨rfl, rfl⟩ (by kernel_rfl) rfl
    (fun f fn hf hfn => by
      obtain rfl : f = 5 := Option.some.inj ((show Tryd.prog.funcNamed "ringer/ringerlaw06.FieldBack" = some 5 by kernel_rfl).symm.trans hf) |>.symm
      obtain rfl : fn = Tryd.f5 := (Option.some.inj (Tryd.func5.symm.trans hfn)).symm
      exact ⟨by kernel_rfl, fun j t ht => by
        rw [Tryd.params5] at ht
        have h3 : (([3, 24, 9, 9] : List TypeId).all fun t => Tryd.prog.wantsStandIn t == false) = true := by kernel_rfl
        exact beq_iff_eq.1 (List.all_eq_true.1 h3 t (List.mem_of_getElem? (i := j) (by simpa using ht)))⟩)
    (by kernel_rfl)
#print axioms fieldBack_card
end Go.Proofs.YtdpgnbinekcgdaaDoor
