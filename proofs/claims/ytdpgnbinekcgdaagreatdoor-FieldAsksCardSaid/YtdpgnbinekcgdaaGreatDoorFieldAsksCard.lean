/- FieldAsks's statement. -/
import Derived.Test.YtdpgnbinekcgdaaGreatDoorFieldAsks
import Derived.Test.YtdpgnbinekcgdaaGreatDoorFits
namespace Go.Proofs.YtdpgnbinekcgdaaGreatDoor
open Rg Go Go.RowKit Go.WideShapes Go.ChangeShapes

theorem fieldAsks_shapes : (([3, 25, 3] : List TypeId).mapM fun t => shOf Tryz.prog 9 t) = some [.int .i64, .st [.int .u64, .bool], .int .i64] := by kernel_rfl
theorem fieldAsks_reads : (([3, 25, 3] : List TypeId).all fun t => Tryz.prog.readableRec t && decide (t < Tryz.prog.types.size)) = true := by kernel_rfl

theorem fieldAsks_law {H0 : Heap} (hG : Glob H0) (xs : List AV) (h : fitsAll [.int .i64, .st [.int .u64, .bool], .int .i64] xs) : ∃ K, AOk Tryz.prog 4 xs H0 (.sc (.bool true)) K := by
  obtain ⟨a0, r0, rfl, h0, a1, r1, rfl, h1, a2, r2, rfl, h2, hz⟩ := h
  simp only [fitsAll] at hz
  subst hz
  obtain ⟨k, rfl, k1, k2⟩ := fits_i64 h0
  obtain ⟨f, rfl, hf⟩ := fits_fld h1
  obtain ⟨n, rfl, n1, n2⟩ := fits_i64 h2
  exact ⟨H0, fieldAsks_ok hG k f hf n⟩

set_option maxRecDepth 100000 in
theorem fieldAsks_met (os : Os) (args : Array Value) : laidMet Tryz.prog Rows.fieldAsksRow.laid ((laidWorld os).forCall (fun _ _ => 0) ⟨#[], args, []⟩).memory :=
  laidMet_of_run' 8 (by kernel_rfl) (by kernel_rfl)

set_option maxRecDepth 100000 in
theorem fieldAsks_lifted (os : Os) (started : os.Started) (H : Type) (enc : TypeId × Value → H) :
    ReturnsInHanded {} Tryz.checked os 4 .any (fun w args => (Rows.fieldAsksSpec.pre enc Tryz.prog Tryz.f4 Rows.fieldAsksRow.domain false w args ∧ laidMet Tryz.prog Rows.fieldAsksRow.laid w) ∧ sizedMet enc Tryz.prog Tryz.f4 (OpenSpec.ofChange Rows.fieldAsksSpec) false w args)
      (Rows.fieldAsksSpec.post enc Tryz.prog Tryz.f4 false true false false) := by
  refine returnsInHanded_of_change_and_shaped (C := Tryz.checked) (X := fun w _ => laidMet Tryz.prog Rows.fieldAsksRow.laid w) (fun _ _ _ hh h => h.of_heap hh) own started (by kernel_rfl) Tryz.func4
    (ChangeSpec.witness_at (enc := enc) (C := Tryz.checked) (os := os) (X := fun w _ => laidMet Tryz.prog Rows.fieldAsksRow.laid w) false (laidWorld os) #[.int .i64 0, .agg #[.int .u64 0, .bool false], .int .i64 0] 8 rfl (by kernel_rfl) (by kernel_rfl) (by kernel_rfl) (by kernel_rfl) (by kernel_rfl) (fieldAsks_met os _)) ?_
  intro W base args ds gs before hval hW hL hsh
  obtain ⟨m, hm⟩ := gro_reads hL hsh (by simp [Rows.fieldAsksRow]) (by simp [Rows.fieldAsksRow]) (by simp [Rows.fieldAsksRow])
  refine law_contract2 (P := Tryz.prog) (ts := [3, 25, 3]) (rt := 4) (n := 9) (by rw [Tryz.params4]) fieldAsks_shapes (by kernel_rfl) bool_type rfl (fun ds h => ?_) laidOut fieldAsks_reads W hm (fieldAsks_law (glob_gro m)) base args ds gs before hval hW
  match ds, h with
  | [_, _, _], _ => rfl

theorem fieldAsks_holds : Rows.FieldAsksSaid :=
  OpenClaim.holds_of_wide 4 Tryz.f4 rfl rfl rfl rfl rfl rfl rfl ⟨rfl, rfl, rfl, rfl, rfl⟩ rfl rfl rfl rfl rfl (by kernel_rfl) Tryz.func4 (by kernel_rfl)
    (of_decide_eq_true (by kernel_rfl)) (by unfold Func.isWrapper; first | (rw [if_pos (by decide +kernel)]; kernel_rfl) | (rw [if_neg (by decide +kernel)]; exact ⟨rfl, rfl⟩))
    (fun os started H enc _ => fieldAsks_lifted os started H enc)

theorem fieldAsks_card : Rows.FieldAsksCardSaid :=
  Claim7.holds_tied_plain_at .later [] Rows.fieldAsksCard.laidKinds true Rows.fieldAsksCard.stood.harness true
    fieldAsks_holds (fun _ h => by cases h) (by kernel_rfl) (fun _ h => by cases h) fieldAsks_row_tie rfl ⟨rfl, rfl⟩ (by kernel_rfl) rfl
    (fun f fn hf hfn => by
      obtain rfl : f = 4 := Option.some.inj ((show Tryz.prog.funcNamed "ringer/ringerlaw06.FieldAsks" = some 4 by kernel_rfl).symm.trans hf) |>.symm
      obtain rfl : fn = Tryz.f4 := (Option.some.inj (Tryz.func4.symm.trans hfn)).symm
      exact ⟨by kernel_rfl, fun j t ht => by
        rw [Tryz.params4] at ht
        have h3 : (([3, 25, 3] : List TypeId).all fun t => Tryz.prog.wantsStandIn t == false) = true := by kernel_rfl
        exact beq_iff_eq.1 (List.all_eq_true.1 h3 t (List.mem_of_getElem? (i := j) (by simpa using ht)))⟩)
    (by kernel_rfl)
#print axioms fieldAsks_card
end Go.Proofs.YtdpgnbinekcgdaaGreatDoor
