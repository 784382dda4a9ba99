/- What a law's arguments are. -/
import Derived.Test.YtdpgnbinekcgdaaGreatDoorField
import Derived.Test.YtdpgnbinekcgdaaGreatDoorWrap
import Derived.Test.YtdpgnbinekcgdaaGreatDoorTie
import Derived.Test.YtdpgnbinekcgdaaGreatDoorCards
namespace Go.Proofs.YtdpgnbinekcgdaaGreatDoor
open Rg Go Go.RowKit

theorem laidOut : laidOutB Tryz.prog = true := by kernel_rfl

theorem fits_i64 {a : AV} (h : fits (.int .i64) a) : ∃ n : Int, a = .sc (.int .i64 n) ∧ -9223372036854775808 ≤ n ∧ n ≤ 9223372036854775807 := by
  simp only [fits] at h
  obtain ⟨n, rfl, h⟩ := h
  exact ⟨n, rfl, by simpa [Lit.wf, IntKind.min, IntKind.max, IntKind.bits, IntKind.signed] using h⟩
theorem fits_u64 {a : AV} (h : fits (.int .u64) a) : ∃ n : Nat, a = .sc (.int .u64 (n : Int)) ∧ n < 18446744073709551616 := by
  simp only [fits] at h
  obtain ⟨n, rfl, h⟩ := h
  have h2 : 0 ≤ n ∧ n ≤ 18446744073709551615 := by simpa [Lit.wf, IntKind.min, IntKind.max, IntKind.bits, IntKind.signed] using h
  obtain ⟨m, rfl⟩ := Int.eq_ofNat_of_zero_le h2.1
  exact ⟨m, rfl, by omega⟩
theorem fits_str {a : AV} (h : fits .str a) : ∃ s : List UInt8, a = str s ∧ s.length ≤ maxLen := by
  simp only [fits] at h
  obtain ⟨s, rfl, h⟩ := h
  refine ⟨s.data.toList, rfl, ?_⟩
  rw [Lib.size_eq] at h
  exact h
theorem fits_fld {a : AV} (h : fits (.st [.int .u64, .bool]) a) : ∃ f : Fld, a = fAV f ∧ f.bits < 18446744073709551616 := by
  simp only [fits] at h
  obtain ⟨cs, rfl, h⟩ := h
  simp only [fitsL] at h
  obtain ⟨x, r, rfl, hx, y, r2, rfl, hy, rfl⟩ := h
  obtain ⟨n, rfl, hn⟩ := fits_u64 hx
  simp only [fits] at hy
  obtain ⟨b, rfl⟩ := hy
  exact ⟨⟨n, b⟩, by simp [AV.cells, fAV], hn⟩

/-- A package variable's list of a row, where it stands whole. -/
theorem bool_type : Tryz.prog.underlying 4 = some .bool := by kernel_rfl
end Go.Proofs.YtdpgnbinekcgdaaGreatDoor
