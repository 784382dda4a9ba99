/- Whether any clock fits any expression, and its text, is the document's. -/
import Derived.Test.YtdpgnbinekcgdaaGreatDoorCronT
import Derived.Test.YtdpgnbinekcgdaaGreatDoorFits
namespace Go.Proofs.YtdpgnbinekcgdaaGreatDoor
open Rg Go

variable {H : Heap}

theorem fits_expr {a : AV} (h : fits (.st (List.replicate 5 (.st [.int .u64, .bool]))) a) : ∃ x : Ex, a = exAV x ∧ x.ok := by
  simp only [fits, List.replicate] at h
  obtain ⟨cs, rfl, h⟩ := h
  simp only [fitsL] at h
  obtain ⟨a0, r0, rfl, h0, a1, r1, rfl, h1, a2, r2, rfl, h2, a3, r3, rfl, h3, a4, r4, rfl, h4, rfl⟩ := h
  obtain ⟨f0, rfl, g0⟩ := fits_fld h0
  obtain ⟨f1, rfl, g1⟩ := fits_fld h1
  obtain ⟨f2, rfl, g2⟩ := fits_fld h2
  obtain ⟨f3, rfl, g3⟩ := fits_fld h3
  obtain ⟨f4, rfl, g4⟩ := fits_fld h4
  exact ⟨⟨f0, f1, f2, f3, f4⟩, by simp [AV.cells, fAV], ⟨g0, g1, g2, g3, g4⟩⟩
theorem fits_clock {a : AV} (h : fits (.st [.st [.int .i64, .int .i64, .int .i64], .int .i64, .int .i64, .int .i64, .int .i64]) a) : ∃ c : Clk, a = cAV c ∧ True := by
  rw [fits] at h
  obtain ⟨cs, rfl, h⟩ := h
  simp only [fitsL] at h
  obtain ⟨a0, r0, rfl, h0, a1, r1, rfl, h1, a2, r2, rfl, h2, a3, r3, rfl, h3, a4, r4, rfl, h4, rfl⟩ := h
  rw [fits] at h0
  obtain ⟨cs, rfl, h0⟩ := h0
  simp only [fitsL] at h0
  obtain ⟨b0, s0, rfl, g0, b1, s1, rfl, g1, b2, s2, rfl, g2, rfl⟩ := h0
  obtain ⟨y, rfl, _⟩ := fits_i64 g0
  obtain ⟨m, rfl, _⟩ := fits_i64 g1
  obtain ⟨d, rfl, _⟩ := fits_i64 g2
  obtain ⟨hh, rfl, _⟩ := fits_i64 h1
  obtain ⟨mi, rfl, _⟩ := fits_i64 h2
  obtain ⟨s, rfl, _⟩ := fits_i64 h3
  obtain ⟨w, rfl, _⟩ := fits_i64 h4
  exact ⟨⟨y, m, d, hh, mi, s, w⟩, by simp [AV.cells], trivial⟩

set_option maxHeartbeats 1000000 in
theorem cronFits_ok (hG : Glob H) (x : Ex) (hx : x.ok) (c : Clk) : AOk Tryz.prog 6 [exAV x, cAV c] H (.sc (.bool true)) H := by
  refine ACalls.into Tryz.func6 rfl Tryz.ntmps6 Tryz.results6 (by simp) ?_
  simp -implicitDefEqProofs
  refine AAlloc.intro fun b2 h2 => ?_
  simp -implicitDefEqProofs
  refine AAlloc.intro fun b3 h3 => ?_
  have n32 : b3 ≠ b2 := by intro e; subst e; simp [Heap.set] at h3
  have n23 := n32.symm
  have e3 : H b3 = none := (HLe.set_fresh h2).none h3
  simp -implicitDefEqProofs
  generalize hK : Heap.set _ b3 _ = K
  have k2 : K b2 = some (.cells (exC x) 37) := by rw [← hK]; simp [Heap.set, n23]
  have k3 : K b3 = some (.cells [.sc (.int .i64 c.y), .sc (.int .i64 c.m), .sc (.int .i64 c.d), .sc (.int .i64 c.h), .sc (.int .i64 c.mi), .sc (.int .i64 c.s), .sc (.int .i64 c.w)] 44) := by rw [← hK]; simp [Heap.set]
  have kG : Glob K := by rw [← hK]; exact (hG.new h2).new h3
  have kW : HWk H K := by rw [← hK]; exact HWk.new e3 (HWk.new h2 (HWk.refl _))
  clear hK
  refine go_draw 34 f_mixed (by decide +kernel) ?_
  simp -implicitDefEqProofs [k2]
  refine AQS.eq (c_cronMay x hx) ?_
  simp -implicitDefEqProofs [k2]
  refine AQS.eq (c_ref7May x hx) ?_
  simp -implicitDefEqProofs [k2]
  refine AQS.eq (c_cronText kG x hx) ?_
  simp -implicitDefEqProofs [k2]
  refine AQS.eq (c_ref7Text x hx) ?_
  simp -implicitDefEqProofs [k2, k3]
  refine AQS.eq (c_fits x hx c) ?_
  simp -implicitDefEqProofs [k2, k3]
  refine AQS.eq (c_ref7Fits x hx c) ?_
  simp -implicitDefEqProofs [k2, k3]
  refine AQS.eq (c_dayFits x hx c) ?_
  simp -implicitDefEqProofs [k2, k3]
  refine AQS.eq (c_ref7DayFits x hx c) ?_
  simp -implicitDefEqProofs
  refine AQS.eq (c_known07 kG) ?_
  simp -implicitDefEqProofs
  exact kW
end Go.Proofs.YtdpgnbinekcgdaaGreatDoor
