/- Expressions: the chapter's rows. -/
import Derived.Test.YtdpgnbinekcgdaaGreatDoorRefY
import Derived.Test.YtdpgnbinekcgdaaGreatDoorRefE
namespace Go.Proofs.YtdpgnbinekcgdaaGreatDoor
open Rg Go

variable {H : Heap}

def tx1 : List UInt8 := [48, 32, 48, 32, 49, 51, 32, 42, 32, 102, 114, 105]
def tx2 : List UInt8 := [48, 32, 48, 32, 42, 47, 50, 32, 42, 32, 109, 111, 110]
def tx3 : List UInt8 := [42, 32, 42, 32, 42, 32, 42]
def tx4 : List UInt8 := [64, 110, 111, 111, 110]
def tx5 : List UInt8 := [54, 49, 32, 42, 32, 42, 32, 42, 32, 42]
def xx1 : Ex := ⟨⟨1, false⟩, ⟨1, false⟩, ⟨8192, false⟩, ⟨8190, true⟩, ⟨32, false⟩⟩
def xx2 : Ex := ⟨⟨1, false⟩, ⟨1, false⟩, ⟨2863311530, true⟩, ⟨8190, true⟩, ⟨2, false⟩⟩
set_option maxRecDepth 100000 in
theorem kn7_1 : cronK tx1 = (xx1, 0) := by decide +kernel
set_option maxRecDepth 100000 in
theorem kn7_2 : cronK tx2 = (xx2, 0) := by decide +kernel
set_option maxRecDepth 100000 in
theorem kn7_3 : cronK tx3 = (ex0, 70) := by decide +kernel
set_option maxRecDepth 100000 in
theorem kn7_4 : cronK tx4 = (ex0, 70) := by decide +kernel
set_option maxRecDepth 100000 in
theorem kn7_5 : cronK tx5 = (ex0, 61) := by decide +kernel
theorem kn7_f1 : fitsX xx1 (clk (19979 * 86400)) = true := by decide +kernel
theorem kn7_f2 : fitsX xx1 (clk (19986 * 86400)) = true := by decide +kernel
theorem kn7_f3 : fitsX xx2 (clk (19905 * 86400)) = true := by decide +kernel
theorem kn7_f4 : fitsX xx2 (clk (19907 * 86400)) = false := by decide +kernel
theorem xx1_ok : xx1.ok := ⟨by decide, by decide, by decide, by decide, by decide⟩
theorem xx2_ok : xx2.ok := ⟨by decide, by decide, by decide, by decide, by decide⟩
theorem c_day' (n : Nat) (hn : n < 157054) : AOk Tryz.prog 55 [.sc (.int .i64 (n : Int))] H (cAV (clk (n * 86400))) H := c_day hn

set_option maxHeartbeats 1000000 in
theorem c_known07 (hG : Glob H) : AOk Tryz.prog 21 [] H (.sc (.bool true)) H := by
  have d1 := fun K : Heap => c_day' (H := K) 19979 (by decide)
  have d2 := fun K : Heap => c_day' (H := K) 19986 (by decide)
  have d3 := fun K : Heap => c_day' (H := K) 19905 (by decide)
  have d4 := fun K : Heap => c_day' (H := K) 19907 (by decide)
  obtain ⟨x1, e1, o1, f1, f2⟩ : ∃ x, cronK tx1 = (x, 0) ∧ x.ok ∧ fitsX x (clk (19979 * 86400)) = true ∧ fitsX x (clk (19986 * 86400)) = true := ⟨xx1, kn7_1, xx1_ok, kn7_f1, kn7_f2⟩
  obtain ⟨x2, e2, o2, f3, f4⟩ : ∃ x, cronK tx2 = (x, 0) ∧ x.ok ∧ fitsX x (clk (19905 * 86400)) = true ∧ fitsX x (clk (19907 * 86400)) = false := ⟨xx2, kn7_2, xx2_ok, kn7_f3, kn7_f4⟩
  generalize clk (19979 * 86400) = c1 at *
  generalize clk (19986 * 86400) = c2 at *
  generalize clk (19905 * 86400) = c3 at *
  generalize clk (19907 * 86400) = c4 at *
  have p1 := fun (K : Heap) (hG : Glob K) => c_cronParse (H := K) hG tx1 (by decide)
  have p2 := fun (K : Heap) (hG : Glob K) => c_cronParse (H := K) hG tx2 (by decide)
  have p3 := fun (K : Heap) (hG : Glob K) => c_cronParse (H := K) hG tx3 (by decide)
  have p4 := fun (K : Heap) (hG : Glob K) => c_cronParse (H := K) hG tx4 (by decide)
  have p5 := fun (K : Heap) (hG : Glob K) => c_cronParse (H := K) hG tx5 (by decide)
  rw [e1] at p1
  rw [e2] at p2
  rw [kn7_3] at p3
  rw [kn7_4] at p4
  rw [kn7_5] at p5
  generalize ex0 = z at p3 p4 p5
  refine ACalls.into Tryz.func21 rfl Tryz.ntmps21 Tryz.results21 (by simp) ?_
  simp -implicitDefEqProofs
  refine ACall.eq (p1 _ hG) ?_
  simp -implicitDefEqProofs
  refine AAlloc.intro fun b1 h1 => ?_
  simp -implicitDefEqProofs
  generalize hK1 : Heap.set _ b1 _ = K1
  have k1 : K1 b1 = some (.cells (exC x1) 37) := by rw [← hK1]; simp [Heap.set]
  have g1 : Glob K1 := by rw [← hK1]; exact hG.new h1
  have w1 : HWk H K1 := by rw [← hK1]; exact HWk.new h1 (HWk.refl _)
  clear hK1
  refine ACall.eq (p2 _ g1) ?_
  simp -implicitDefEqProofs
  refine AAlloc.intro fun b3 h3 => ?_
  have n13 : b1 ≠ b3 := by intro e; subst e; rw [k1] at h3; cases h3
  simp -implicitDefEqProofs
  generalize hK3 : Heap.set _ b3 _ = K3
  have k3 : K3 b3 = some (.cells (exC x2) 37) := by rw [← hK3]; simp [Heap.set]
  have k13 : K3 b1 = some (.cells (exC x1) 37) := by rw [← hK3]; simp [Heap.set, n13, k1]
  have g3 : Glob K3 := by rw [← hK3]; exact g1.new h3
  have w3 : HWk H K3 := by rw [← hK3]; exact HWk.new (w1.none h3) w1
  clear hK3 k1 g1
  refine ACall.eq (p3 _ g3) ?_
  simp -implicitDefEqProofs
  refine AAlloc.intro fun b5 h5 => ?_
  have n15 : b1 ≠ b5 := by intro e; subst e; rw [k13] at h5; cases h5
  have n35 : b3 ≠ b5 := by intro e; subst e; rw [k3] at h5; cases h5
  simp -implicitDefEqProofs
  generalize hK5 : Heap.set _ b5 _ = K5
  have k35 : K5 b3 = some (.cells (exC x2) 37) := by rw [← hK5]; simp [Heap.set, n35, k3]
  have k15 : K5 b1 = some (.cells (exC x1) 37) := by rw [← hK5]; simp [Heap.set, n15, k13]
  have g5 : Glob K5 := by rw [← hK5]; exact g3.new h5
  have w5 : HWk H K5 := by rw [← hK5]; exact HWk.new (w3.none h5) w3
  clear hK5 k3 k13 g3
  refine ACall.eq (p4 _ g5) ?_
  simp -implicitDefEqProofs
  refine AAlloc.intro fun b7 h7 => ?_
  have n17 : b1 ≠ b7 := by intro e; subst e; rw [k15] at h7; cases h7
  have n37 : b3 ≠ b7 := by intro e; subst e; rw [k35] at h7; cases h7
  simp -implicitDefEqProofs
  generalize hK7 : Heap.set _ b7 _ = K7
  have k37 : K7 b3 = some (.cells (exC x2) 37) := by rw [← hK7]; simp [Heap.set, n37, k35]
  have k17 : K7 b1 = some (.cells (exC x1) 37) := by rw [← hK7]; simp [Heap.set, n17, k15]
  have g7 : Glob K7 := by rw [← hK7]; exact g5.new h7
  have w7 : HWk H K7 := by rw [← hK7]; exact HWk.new (w5.none h7) w5
  clear hK7 k35 k15 g5
  refine ACall.eq (p5 _ g7) ?_
  simp -implicitDefEqProofs
  refine AAlloc.intro fun b9 h9 => ?_
  have n19 : b1 ≠ b9 := by intro e; subst e; rw [k17] at h9; cases h9
  have n39 : b3 ≠ b9 := by intro e; subst e; rw [k37] at h9; cases h9
  simp -implicitDefEqProofs
  generalize hK9 : Heap.set _ b9 _ = K9
  have k39 : K9 b3 = some (.cells (exC x2) 37) := by rw [← hK9]; simp [Heap.set, n39, k37]
  have k19 : K9 b1 = some (.cells (exC x1) 37) := by rw [← hK9]; simp [Heap.set, n19, k17]
  have w9 : HWk H K9 := by rw [← hK9]; exact HWk.new (w7.none h9) w7
  clear hK9 k37 k17 g7
  refine go_draw 40 f_mixed (by decide +kernel) ?_
  simp -implicitDefEqProofs [k19]
  refine AQS.eq (d1 _) ?_
  simp -implicitDefEqProofs
  refine AQS.eq (c_fits x1 o1 c1) ?_
  simp -implicitDefEqProofs [f1, k19]
  refine AQS.eq (d2 _) ?_
  simp -implicitDefEqProofs
  refine AQS.eq (c_fits x1 o1 c2) ?_
  simp -implicitDefEqProofs [f2, k39]
  refine AQS.eq (d3 _) ?_
  simp -implicitDefEqProofs
  refine AQS.eq (c_fits x2 o2 c3) ?_
  simp -implicitDefEqProofs [f3, k39]
  refine AQS.eq (d4 _) ?_
  simp -implicitDefEqProofs
  refine AQS.eq (c_fits x2 o2 c4) ?_
  simp -implicitDefEqProofs [f4]
  exact w9
end Go.Proofs.YtdpgnbinekcgdaaGreatDoor
