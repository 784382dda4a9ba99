/- RlogMatch gives true, and leaves its arguments as they were, whatever the input. Its conditions: none. -/
import Derived.Test.YtdcblangeonhpaaOp
import Derived.Test.YtdcblangeonhpaaEb
namespace Go.Proofs.Ytdcblangeonhpaa
open Rg Go Go.RowKit Go.WideShapes Go.ChangeShapes

theorem match_shapes : (([22, 22, 23] : List TypeId).mapM fun t => shOf Try.prog 9 t) = some [.sl (.st [.int .u64, .int .u64, .sl (.int .u8)]), .sl (.st [.int .u64, .int .u64, .sl (.int .u8)]), .sl (.int .i64)] := by kernel_rfl
theorem match_reads : (([22, 22, 23] : List TypeId).all fun t => Try.prog.readableRec t && decide (t < Try.prog.types.size)) = true := by kernel_rfl
theorem match_bool : Try.prog.underlying 4 = some .bool := by kernel_rfl

theorem fits_ints {a : AV} (h : fits (.sl (.int .i64)) a) : ∃ b : List Int, a = .sl (b.map i64) .no ∧ b.length ≤ maxLen ∧ ∀ p ∈ b, -9223372036854775808 ≤ p ∧ p ≤ 9223372036854775807 := by
  obtain ⟨xs, rfl, hl, hx⟩ := h
  obtain ⟨l, rfl, hp⟩ := all_map (f := i64) (p := fun p => -9223372036854775808 ≤ p ∧ p ≤ 9223372036854775807) fun x hx' => fits_int (hx x hx')
  exact ⟨l, rfl, by simpa using hl, hp⟩

theorem match_law (xs : List AV) (h : fitsAll [.sl (.st [.int .u64, .int .u64, .sl (.int .u8)]), .sl (.st [.int .u64, .int .u64, .sl (.int .u8)]), .sl (.int .i64)] xs) : AOk Try.prog 3 xs (fun _ => none) (.sc (.bool true)) (fun _ => none) := by
  obtain ⟨a, r, rfl, h1, a2, r2, rfl, h2, a3, r3, rfl, h3, h4⟩ := h
  simp only [fitsAll] at h4
  subst h4
  obtain ⟨A, rfl, hA, mA⟩ := fits_row h1
  obtain ⟨B, rfl, hB, mB⟩ := fits_row h2
  obtain ⟨ps, rfl, mp, hp⟩ := fits_ints h3
  exact rlogMatch_ok A B ps hA hB mA mB mp hp

set_option maxRecDepth 100000 in
theorem match_lifted (os : Os) (started : os.Started) (H : Type) (enc : TypeId × Value → H) :
    ReturnsInHanded {} Try.checked os 3 .any (Rows.rlogMatchSpec.pre6 enc Try.prog Try.f3 Rows.rlogMatchRow.domain false) (Rows.rlogMatchSpec.post enc Try.prog Try.f3 false true false false) := by
  refine returnsInHanded_of_change (C := Try.checked) Try.own started (by kernel_rfl) Try.func3
    (ChangeSpec.witness6 (enc := enc) (C := Try.checked) false ⟨#[], #[.slice none 0 0, .slice none 0 0, .slice none 0 0], []⟩ 8 (by kernel_rfl) (by kernel_rfl) (by kernel_rfl) (by kernel_rfl)) ?_
  intro W base args ds gs before hval hW _ _
  refine law_contract (P := Try.prog) (ts := [22, 22, 23]) (rt := 4) (n := 9) (by rw [Try.params3]) match_shapes (by kernel_rfl) match_bool rfl (fun ds h => ?_) Try.laidOut match_reads match_law W base args ds gs before hval hW
  match ds, h with
  | [_, _, _], _ => rfl

theorem rlogMatch_holds : Rows.RlogMatchSaid :=
  OpenClaim.holds_of_wide 3 Try.f3 rfl rfl rfl rfl rfl rfl rfl ⟨rfl, rfl, rfl, rfl, rfl⟩ rfl rfl rfl rfl rfl (by kernel_rfl) Try.func3 (by kernel_rfl)
    (of_decide_eq_true (by kernel_rfl)) (by unfold Func.isWrapper; first | (rw [if_pos (by decide +kernel)]; kernel_rfl) | (rw [if_neg (by decide +kernel)]; exact ⟨rfl, rfl⟩))
    (fun os started H enc _ => match_lifted os started H enc)

#print axioms rlogMatch_holds
end Go.Proofs.Ytdcblangeonhpaa
