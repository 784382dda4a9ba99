/- RlogBase gives true, and leaves its arguments as they were, whatever the input. Its conditions: none. -/
import Derived.Test.YtdcblangeonhpaaOp
namespace Go.Proofs.Ytdcblangeonhpaa
open Rg Go Go.RowKit Go.WideShapes Go.ChangeShapes

theorem base_shapes : (([31, 31, 22, 31] : List TypeId).mapM fun t => shOf Try.prog 9 t) = some [.int .u64, .int .u64, .sl (.st [.int .u64, .int .u64, .sl (.int .u8)]), .int .u64] := by kernel_rfl
theorem base_reads : (([31, 31, 22, 31] : List TypeId).all fun t => Try.prog.readableRec t && decide (t < Try.prog.types.size)) = true := by kernel_rfl
theorem base_bool : Try.prog.underlying 4 = some .bool := by kernel_rfl

theorem base_law (xs : List AV) (h : fitsAll [.int .u64, .int .u64, .sl (.st [.int .u64, .int .u64, .sl (.int .u8)]), .int .u64] xs) : AOk Try.prog 4 xs (fun _ => none) (.sc (.bool true)) (fun _ => none) := by
  obtain ⟨a, r, rfl, h1, a2, r2, rfl, h2, a3, r3, rfl, h3, a4, r4, rfl, h4, h5⟩ := h
  simp only [fitsAll] at h5
  subst h5
  obtain ⟨i, rfl, hi⟩ := fits_u64 h1
  obtain ⟨t, rfl, ht⟩ := fits_u64 h2
  obtain ⟨L, rfl, hf, hm⟩ := fits_row h3
  obtain ⟨x, rfl, hx⟩ := fits_u64 h4
  exact rlogBase_ok i t L x hi ht hx hf hm

set_option maxRecDepth 100000 in
theorem base_lifted (os : Os) (started : os.Started) (H : Type) (enc : TypeId × Value → H) :
    ReturnsInHanded {} Try.checked os 4 .any (Rows.rlogBaseSpec.pre6 enc Try.prog Try.f4 Rows.rlogBaseRow.domain false) (Rows.rlogBaseSpec.post enc Try.prog Try.f4 false true false false) := by
  refine returnsInHanded_of_change (C := Try.checked) Try.own started (by kernel_rfl) Try.func4
    (ChangeSpec.witness6 (enc := enc) (C := Try.checked) false ⟨#[], #[.int .u64 0, .int .u64 0, .slice none 0 0, .int .u64 0], []⟩ 8 (by kernel_rfl) (by kernel_rfl) (by kernel_rfl) (by kernel_rfl)) ?_
  intro W base args ds gs before hval hW _ _
  refine law_contract (P := Try.prog) (ts := [31, 31, 22, 31]) (rt := 4) (n := 9) (by rw [Try.params4]) base_shapes (by kernel_rfl) base_bool rfl (fun ds h => ?_) Try.laidOut base_reads base_law W base args ds gs before hval hW
  match ds, h with
  | [_, _, _, _], _ => rfl

theorem rlogBase_holds : Rows.RlogBaseSaid :=
  OpenClaim.holds_of_wide 4 Try.f4 rfl rfl rfl rfl rfl rfl rfl ⟨rfl, rfl, rfl, rfl, rfl⟩ rfl rfl rfl rfl rfl (by kernel_rfl) Try.func4 (by kernel_rfl)
    (of_decide_eq_true (by kernel_rfl)) (by unfold Func.isWrapper; first | (rw [if_pos (by decide +kernel)]; kernel_rfl) | (rw [if_neg (by decide +kernel)]; exact ⟨rfl, rfl⟩))
    (fun os started H enc _ => base_lifted os started H enc)

#print axioms rlogBase_holds
end Go.Proofs.Ytdcblangeonhpaa
