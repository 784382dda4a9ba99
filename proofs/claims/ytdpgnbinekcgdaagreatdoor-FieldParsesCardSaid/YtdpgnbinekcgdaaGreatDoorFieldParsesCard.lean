/- FieldParses's statement. -/
import Derived.Test.YtdpgnbinekcgdaaGreatDoorFieldParses
import Derived.Test.YtdpgnbinekcgdaaGreatDoorFits
namespace Go.Proofs.YtdpgnbinekcgdaaGreatDoor
open Rg Go Go.RowKit Go.WideShapes Go.ChangeShapes

theorem fieldParses_shapes : (([3, 9] : List TypeId).mapM fun t => shOf Tryz.prog 9 t) = some [.int .i64, .str] := by kernel_rfl
theorem fieldParses_reads : (([3, 9] : List TypeId).all fun t => Tryz.prog.readableRec t && decide (t < Tryz.prog.types.size)) = true := by kernel_rfl

theorem fieldParses_law {H0 : Heap} (hG : Glob H0) (xs : List AV) (h : fitsAll [.int .i64, .str] xs) : ∃ K, AOk Tryz.prog 3 xs H0 (.sc (.bool true)) K := by
  obtain ⟨a0, r0, rfl, h0, a1, r1, rfl, h1, hz⟩ := h
  simp only [fitsAll] at hz
  subst hz
  obtain ⟨k, rfl, k1, k2⟩ := fits_i64 h0
  obtain ⟨s, rfl, hs⟩ := fits_str h1
  exact ⟨H0, fieldParses_ok hG k s (by unfold maxLen at hs; omega)⟩

set_option maxRecDepth 100000 in
theorem fieldParses_met (os : Os) (args : Array Value) : laidMet Tryz.prog Rows.fieldParsesRow.laid ((laidWorld os).forCall (fun _ _ => 0) ⟨#[], args, []⟩).memory :=
  laidMet_of_run' 8 (by kernel_rfl) (by kernel_rfl)

set_option maxRecDepth 100000 in
theorem fieldParses_lifted (os : Os) (started : os.Started) (H : Type) (enc : TypeId × Value → H) :
    ReturnsInHanded {} Tryz.checked os 3 .any (fun w args => (Rows.fieldParsesSpec.pre enc Tryz.prog Tryz.f3 Rows.fieldParsesRow.domain false w args ∧ laidMet Tryz.prog Rows.fieldParsesRow.laid w) ∧ sizedMet enc Tryz.prog Tryz.f3 (OpenSpec.ofChange Rows.fieldParsesSpec) false w args)
      (Rows.fieldParsesSpec.post enc Tryz.prog Tryz.f3 false true false false) := by
  refine returnsInHanded_of_change_and_shaped (C := Tryz.checked) (X := fun w _ => laidMet Tryz.prog Rows.fieldParsesRow.laid w) (fun _ _ _ hh h => h.of_heap hh) own started (by kernel_rfl) Tryz.func3
    (ChangeSpec.witness_at (enc := enc) (C := Tryz.checked) (os := os) (X := fun w _ => laidMet Tryz.prog Rows.fieldParsesRow.laid w) false (laidWorld os) #[.int .i64 0, .string ⟨#[]⟩] 8 rfl (by kernel_rfl) (by kernel_rfl) (by kernel_rfl) (by kernel_rfl) (by kernel_rfl) (fieldParses_met os _)) ?_
  intro W base args ds gs before hval hW hL hsh
  obtain ⟨m, hm⟩ := gro_reads hL hsh (by simp [Rows.fieldParsesRow]) (by simp [Rows.fieldParsesRow]) (by simp [Rows.fieldParsesRow])
  refine law_contract2 (P := Tryz.prog) (ts := [3, 9]) (rt := 4) (n := 9) (by rw [Tryz.params3]) fieldParses_shapes (by kernel_rfl) bool_type rfl (fun ds h => ?_) laidOut fieldParses_reads W hm (fieldParses_law (glob_gro m)) base args ds gs before hval hW
  match ds, h with
  | [_, _], _ => rfl

theorem fieldParses_holds : Rows.FieldParsesSaid :=
  OpenClaim.holds_of_wide 3 Tryz.f3 rfl rfl rfl rfl rfl rfl rfl ⟨rfl, rfl, rfl, rfl, rfl⟩ rfl rfl rfl rfl rfl (by kernel_rfl) Tryz.func3 (by kernel_rfl)
    (of_decide_eq_true (by kernel_rfl)) (by unfold Func.isWrapper; first | (rw [if_pos (by decide +kernel)]; kernel_rfl) | (rw [if_neg (by decide +kernel)]; exact ⟨rfl, rfl⟩))
    (fun os started H enc _ => fieldParses_lifted os started H enc)

theorem fieldParses_card : Rows.FieldParsesCardSaid :=
  Claim7.holds_tied_plain_at .later [] Rows.fieldParsesCard.laidKinds true Rows.fieldParsesCard.stood.harness true
    fieldParses_holds (fun _ h => by cases h) (by kernel_rfl) (fun _ h => by cases h) fieldParses_row_tie rfl ⟨rfl, rfl⟩ (by kernel_rfl) rfl
    (fun f fn hf hfn => by
      obtain rfl : f = 3 := Option.some.inj ((show Tryz.prog.funcNamed "ringer/ringerlaw06.FieldParses" = some 3 by kernel_rfl).symm.trans hf) |>.symm
      obtain rfl : fn = Tryz.f3 := (Option.some.inj (Tryz.func3.symm.trans hfn)).symm
      exact ⟨by kernel_rfl, fun j t ht => by
        rw [Tryz.params3] at ht
        have h3 : (([3, 9] : List TypeId).all fun t => Tryz.prog.wantsStandIn t == false) = true := by kernel_rfl
        exact beq_iff_eq.1 (List.all_eq_true.1 h3 t (List.mem_of_getElem? (i := j) (by simpa using ht)))⟩)
    (by kernel_rfl)
#print axioms fieldParses_card
end Go.Proofs.YtdpgnbinekcgdaaGreatDoor
