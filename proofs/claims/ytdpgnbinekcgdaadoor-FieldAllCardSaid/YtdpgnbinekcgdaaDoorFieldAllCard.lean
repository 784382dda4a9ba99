/- FieldAll's statement. -/
import Derived.Test.YtdpgnbinekcgdaaDoorFieldAll
import Derived.Test.YtdpgnbinekcgdaaDoorFits
namespace Go.Proofs.YtdpgnbinekcgdaaDoor
open Rg Go Go.RowKit Go.WideShapes Go.ChangeShapes

theorem fieldAll_shapes : (([24, 3, 3] : List TypeId).mapM fun t => shOf Tryd.prog 9 t) = some [.st [.int .u64, .bool], .int .i64, .int .i64] := by kernel_rfl
theorem fieldAll_reads : (([24, 3, 3] : List TypeId).all fun t => Tryd.prog.readableRec t && decide (t < Tryd.prog.types.size)) = true := by kernel_rfl

theorem fieldAll_law {H0 : Heap} (hG : Glob H0) (xs : List AV) (h : fitsAll [.st [.int .u64, .bool], .int .i64, .int .i64] xs) : ∃ K, AOk Tryd.prog 6 xs H0 (.sc (.bool true)) K := by
  obtain ⟨a, r, rfl, h1, a2, r2, rfl, h2, a3, r3, rfl, h3, h4⟩ := h
  simp only [fitsAll] at h4
  subst h4
  obtain ⟨f, rfl, hf⟩ := fits_fld h1
  obtain ⟨x, rfl, x1, x2⟩ := fits_i64 h2
  obtain ⟨n, rfl, n1, n2⟩ := fits_i64 h3
  exact ⟨H0, fieldAll_ok hG f hf x n x1 x2 n1 n2⟩

set_option maxRecDepth 100000 in
theorem fieldAll_met (os : Os) (args : Array Value) : laidMet Tryd.prog Rows.fieldAllRow.laid ((laidWorld os).forCall (fun _ _ => 0) ⟨#[], args, []⟩).memory :=
  laidMet_of_run' 8 (by kernel_rfl) (by kernel_rfl)

set_option maxRecDepth 100000 in
theorem fieldAll_lifted (os : Os) (started : os.Started) (H : Type) (enc : TypeId × Value → H) :
    ReturnsInHanded {} Tryd.checked os 6 .any (fun w args => (Rows.fieldAllSpec.pre enc Tryd.prog Tryd.f6 Rows.fieldAllRow.domain false w args ∧ laidMet Tryd.prog Rows.fieldAllRow.laid w) ∧ sizedMet enc Tryd.prog Tryd.f6 (OpenSpec.ofChange Rows.fieldAllSpec) false w args)
      (Rows.fieldAllSpec.post enc Tryd.prog Tryd.f6 false true false false) := by
  refine returnsInHanded_of_change_and_shaped (C := Tryd.checked) (X := fun w _ => laidMet Tryd.prog Rows.fieldAllRow.laid w) (fun _ _ _ hh h => h.of_heap hh) own started (by kernel_rfl) Tryd.func6
    (ChangeSpec.witness_at (enc := enc) (C := Tryd.checked) (os := os) (X := fun w _ => laidMet Tryd.prog Rows.fieldAllRow.laid w) false (laidWorld os) #[.agg #[.int .u64 0, .bool false], .int .i64 0, .int .i64 0] 8 rfl (by kernel_rfl) (by kernel_rfl) (by kernel_rfl) (by kernel_rfl) (by kernel_rfl) (fieldAll_met os _)) ?_
  intro W base args ds gs before hval hW hL hsh
  obtain ⟨m, hm⟩ := gro_reads hL hsh (by simp [Rows.fieldAllRow]) (by simp [Rows.fieldAllRow]) (by simp [Rows.fieldAllRow])
  refine law_contract2 (P := Tryd.prog) (ts := [24, 3, 3]) (rt := 4) (n := 9) (by rw [Tryd.params6]) fieldAll_shapes (by kernel_rfl) bool_type rfl (fun ds h => ?_) laidOut fieldAll_reads W hm (fieldAll_law (glob_gro m)) base args ds gs before hval hW
  match ds, h with
  | [_, _, _], _ => rfl

theorem fieldAll_holds : Rows.FieldAllSaid :=
  OpenClaim.holds_of_wide 6 Tryd.f6 rfl rfl rfl rfl rfl rfl rfl ⟨rfl, rfl, rfl, rfl, rfl⟩ rfl rfl rfl rfl rfl (by kernel_rfl) Tryd.func6 (by kernel_rfl)
    (of_decide_eq_true (by kernel_rfl)) (by unfold Func.isWrapper; first | (rw [if_pos (by decide +kernel)]; kernel_rfl) | (rw [if_neg (by decide +kernel)]; exact ⟨rfl, rfl⟩))
    (fun os started H enc _ => fieldAll_lifted os started H enc)

theorem fieldAll_card : Rows.FieldAllCardSaid :=
  Claim7.holds_tied_plain_at .later [] Rows.fieldAllCard.laidKinds true Rows.fieldAllCard.stood.harness true
    fieldAll_holds (fun _ h => by cases h) (by kernel_rfl) (fun _ h => by cases h) fieldAll_row_tie rfl ⟨rfl, rfl⟩ (by kernel_rfl) rfl
    (fun f fn hf hfn => by
      obtain rfl : f = 6 := Option.some.inj ((show Tryd.prog.funcNamed "ringer/ringerlaw06.FieldAll" = some 6 by kernel_rfl).symm.trans hf) |>.symm
      obtain rfl : fn = Tryd.f6 := (Option.some.inj (Tryd.func6.symm.trans hfn)).symm
      exact ⟨by kernel_rfl, fun j t ht => by
        rw [Tryd.params6] at ht
        have h3 : (([24, 3, 3] : List TypeId).all fun t => Tryd.prog.wantsStandIn t == false) = true := by kernel_rfl
        exact beq_iff_eq.1 (List.all_eq_true.1 h3 t (List.mem_of_getElem? (i := j) (by simpa using ht)))⟩)
    (by kernel_rfl)
#print axioms fieldAll_card
end Go.Proofs.YtdpgnbinekcgdaaDoor
