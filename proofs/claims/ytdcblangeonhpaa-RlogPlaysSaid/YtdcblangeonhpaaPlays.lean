/- RlogPlays gives true, and leaves its arguments as they were, whatever the input. Its conditions: none. -/
import Derived.Test.YtdcblangeonhpaaOp
import Derived.Test.YtdcblangeonhpaaFe
namespace Go.Proofs.Ytdcblangeonhpaa
open Rg Go Go.RowKit Go.WideShapes Go.ChangeShapes

theorem plays_shapes : (([31, 31, 22, 49, 31, 3] : List TypeId).mapM fun t => shOf Try.prog 9 t) = some [.int .u64, .int .u64, .sl (.st [.int .u64, .int .u64, .sl (.int .u8)]), .sl (.st [.int .i64, .int .u64, .int .u64, .sl (.int .u8), .sl (.st [.int .u64, .int .u64, .sl (.int .u8)])]), .int .u64, .int .i64] := by kernel_rfl
theorem plays_reads : (([31, 31, 22, 49, 31, 3] : List TypeId).all fun t => Try.prog.readableRec t && decide (t < Try.prog.types.size)) = true := by kernel_rfl
theorem plays_bool : Try.prog.underlying 4 = some .bool := by kernel_rfl

theorem fits_ops {a : AV} (h : fits (.sl (.st [.int .i64, .int .u64, .int .u64, .sl (.int .u8), .sl (.st [.int .u64, .int .u64, .sl (.int .u8)])])) a) : ∃ L : List Opr, a = .sl (L.map Opr.av) .no ∧ L.length ≤ maxLen ∧ ∀ o ∈ L, OprOk o := by
  obtain ⟨xs, rfl, hl, hx⟩ := h
  obtain ⟨l, rfl, hp⟩ := all_map (f := Opr.av) (p := OprOk) fun x hx' => by
    obtain ⟨cs, rfl, a, r, rfl, h1, a2, r2, rfl, h2, a3, r3, rfl, h3, a4, r4, rfl, h4, a5, r5, rfl, h5, h6⟩ := hx x hx'
    obtain ⟨k, rfl, hk⟩ := fits_int h1
    obtain ⟨n, rfl, hn⟩ := fits_u64 h2
    obtain ⟨m, rfl, hm⟩ := fits_u64 h3
    obtain ⟨b, rfl, hb⟩ := fits_body h4
    obtain ⟨L, rfl, hf, hL⟩ := fits_row h5
    simp only [fitsL] at h6
    subst h6
    exact ⟨⟨k, n, m, b, L⟩, by simp [AV.cells], hn, hm, hf, hL⟩
  exact ⟨l, rfl, by simpa using hl, hp⟩

theorem plays_law (xs : List AV) (h : fitsAll [.int .u64, .int .u64, .sl (.st [.int .u64, .int .u64, .sl (.int .u8)]), .sl (.st [.int .i64, .int .u64, .int .u64, .sl (.int .u8), .sl (.st [.int .u64, .int .u64, .sl (.int .u8)])]), .int .u64, .int .i64] xs) :
    AOk Try.prog 5 xs (fun _ => none) (.sc (.bool true)) (fun _ => none) := by
  obtain ⟨a, r, rfl, h1, a2, r2, rfl, h2, a3, r3, rfl, h3, a4, r4, rfl, h4, a5, r5, rfl, h5, a6, r6, rfl, h6, h7⟩ := h
  simp only [fitsAll] at h7
  subst h7
  obtain ⟨i, rfl, hi⟩ := fits_u64 h1
  obtain ⟨t, rfl, ht⟩ := fits_u64 h2
  obtain ⟨F, rfl, hF, mF⟩ := fits_row h3
  obtain ⟨ops, rfl, mo, ho⟩ := fits_ops h4
  obtain ⟨x, rfl, hx⟩ := fits_u64 h5
  obtain ⟨most, rfl, hm⟩ := fits_int h6
  exact rlogPlays_ok i t F ops x most hi ht hF mF mo ho hx hm

set_option maxRecDepth 100000 in
theorem plays_lifted (os : Os) (started : os.Started) (H : Type) (enc : TypeId × Value → H) :
    ReturnsInHanded {} Try.checked os 5 .any (Rows.rlogPlaysSpec.pre6 enc Try.prog Try.f5 Rows.rlogPlaysRow.domain false) (Rows.rlogPlaysSpec.post enc Try.prog Try.f5 false true false false) := by
  refine returnsInHanded_of_change (C := Try.checked) Try.own started (by kernel_rfl) Try.func5
    (ChangeSpec.witness6 (enc := enc) (C := Try.checked) false ⟨#[], #[.int .u64 0, .int .u64 0, .slice none 0 0, .slice none 0 0, .int .u64 0, .int .i64 0], []⟩ 8 (by kernel_rfl) (by kernel_rfl) (by kernel_rfl) (by kernel_rfl)) ?_
  intro W base args ds gs before hval hW _ _
  refine law_contract (P := Try.prog) (ts := [31, 31, 22, 49, 31, 3]) (rt := 4) (n := 9) (by rw [Try.params5]) plays_shapes (by kernel_rfl) plays_bool rfl (fun ds h => ?_) Try.laidOut plays_reads plays_law W base args ds gs before hval hW
  match ds, h with
  | [_, _, _, _, _, _], _ => rfl

theorem rlogPlays_holds : Rows.RlogPlaysSaid :=
  OpenClaim.holds_of_wide 5 Try.f5 rfl rfl rfl rfl rfl rfl rfl ⟨rfl, rfl, rfl, rfl, rfl⟩ rfl rfl rfl rfl rfl (by kernel_rfl) Try.func5 (by kernel_rfl)
    (of_decide_eq_true (by kernel_rfl)) (by unfold Func.isWrapper; first | (rw [if_pos (by decide +kernel)]; kernel_rfl) | (rw [if_neg (by decide +kernel)]; exact ⟨rfl, rfl⟩))
    (fun os started H enc _ => plays_lifted os started H enc)

#print axioms rlogPlays_holds
end Go.Proofs.Ytdcblangeonhpaa
