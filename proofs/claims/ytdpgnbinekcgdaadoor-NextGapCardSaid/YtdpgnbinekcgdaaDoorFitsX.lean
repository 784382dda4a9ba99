/- What a law's arguments are: expressions, clocks. -/
import Derived.Test.YtdpgnbinekcgdaaDoorFits
import Derived.Test.YtdpgnbinekcgdaaDoorCron
namespace Go.Proofs.YtdpgnbinekcgdaaDoor
open Rg Go

theorem fits_expr {a : AV} (h : fits (.st (List.replicate 5 (.st [.int .u64, .bool]))) a) : ∃ x : Ex, a = exAV x ∧ x.ok := by
  simp only [fits, List.replicate] at h
  obtain ⟨cs, rfl, h⟩ := h
  simp only [fitsL] at h
  obtain ⟨a0, r0, rfl, h0, a1, r1, rfl, h1, a2, r2, rfl, h2, a3, r3, rfl, h3, a4, r4, rfl, h4, rfl⟩ := h
  obtain ⟨f0, rfl, g0⟩ := fits_fld h0
  obtain ⟨f1, rfl, g1⟩ := fits_fld h1
  obtain ⟨f2, rfl, g2⟩ := fits_fld h2
  obtain ⟨f3, rfl, g3⟩ := fits_fld h3
  obtain ⟨f4, rfl, g4⟩ := fits_fld h4
  exact ⟨⟨f0, f1, f2, f3, f4⟩, by simp [AV.cells, fAV], ⟨g0, g1, g2, g3, g4⟩⟩
theorem fits_clock {a : AV} (h : fits (.st [.st [.int .i64, .int .i64, .int .i64], .int .i64, .int .i64, .int .i64, .int .i64]) a) : ∃ c : Clk, a = cAV c ∧ True := by
  rw [fits] at h
  obtain ⟨cs, rfl, h⟩ := h
  simp only [fitsL] at h
  obtain ⟨a0, r0, rfl, h0, a1, r1, rfl, h1, a2, r2, rfl, h2, a3, r3, rfl, h3, a4, r4, rfl, h4, rfl⟩ := h
  rw [fits] at h0
  obtain ⟨cs, rfl, h0⟩ := h0
  simp only [fitsL] at h0
  obtain ⟨b0, s0, rfl, g0, b1, s1, rfl, g1, b2, s2, rfl, g2, rfl⟩ := h0
  obtain ⟨y, rfl, _⟩ := fits_i64 g0
  obtain ⟨m, rfl, _⟩ := fits_i64 g1
  obtain ⟨d, rfl, _⟩ := fits_i64 g2
  obtain ⟨hh, rfl, _⟩ := fits_i64 h1
  obtain ⟨mi, rfl, _⟩ := fits_i64 h2
  obtain ⟨s, rfl, _⟩ := fits_i64 h3
  obtain ⟨w, rfl, _⟩ := fits_i64 h4
  exact ⟨⟨y, m, d, hh, mi, s, w⟩, by simp [AV.cells], trivial⟩
end Go.Proofs.YtdpgnbinekcgdaaDoor
