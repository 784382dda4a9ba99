/- The chapter's rows on firings. -/
import Derived.Test.YtdpgnbinekcgdaaDoorCount
import Derived.Test.YtdpgnbinekcgdaaDoorRefU
import Derived.Test.YtdpgnbinekcgdaaDoorRefY
namespace Go.Proofs.YtdpgnbinekcgdaaDoor
open Rg Go

variable {H : Heap}

def ty1 : List UInt8 := [51, 48, 32, 49, 50, 32, 50, 57, 32, 50, 32, 42]
def ty2 : List UInt8 := [48, 32, 48, 32, 51, 48, 32, 50, 32, 42]
def ty3 : List UInt8 := [48, 32, 48, 32, 49, 32, 49, 32, 42]
def ty4 : List UInt8 := [53, 32, 48, 32, 42, 32, 42, 32, 42]
def ty5 : List UInt8 := [48, 32, 42, 32, 42, 32, 42, 32, 42]
def yx1 : Ex := ⟨⟨1073741824, false⟩, ⟨4096, false⟩, ⟨536870912, false⟩, ⟨4, false⟩, ⟨127, true⟩⟩
def yx2 : Ex := ⟨⟨1, false⟩, ⟨1, false⟩, ⟨1073741824, false⟩, ⟨4, false⟩, ⟨127, true⟩⟩
def yx3 : Ex := ⟨⟨1, false⟩, ⟨1, false⟩, ⟨2, false⟩, ⟨2, false⟩, ⟨127, true⟩⟩
def yx4 : Ex := ⟨⟨32, false⟩, ⟨1, false⟩, ⟨4294967294, true⟩, ⟨8190, true⟩, ⟨127, true⟩⟩
def yx5 : Ex := ⟨⟨1, false⟩, ⟨16777215, true⟩, ⟨4294967294, true⟩, ⟨8190, true⟩, ⟨127, true⟩⟩
set_option maxRecDepth 100000 in
theorem ky1 : cronK ty1 = (yx1, 0) := by decide +kernel
set_option maxRecDepth 100000 in
theorem ky2 : cronK ty2 = (yx2, 0) := by decide +kernel
set_option maxRecDepth 100000 in
theorem ky3 : cronK ty3 = (yx3, 0) := by decide +kernel
set_option maxRecDepth 100000 in
theorem ky4 : cronK ty4 = (yx4, 0) := by decide +kernel
set_option maxRecDepth 100000 in
theorem ky5 : cronK ty5 = (yx5, 0) := by decide +kernel
theorem yo1 : yx1.ok ∧ mayX yx1 = true := ⟨⟨by decide, by decide, by decide, by decide, by decide⟩, by decide +kernel⟩
theorem yo2 : yx2.ok ∧ mayX yx2 = true := ⟨⟨by decide, by decide, by decide, by decide, by decide⟩, by decide +kernel⟩
theorem yo3 : yx3.ok ∧ mayX yx3 = true := ⟨⟨by decide, by decide, by decide, by decide, by decide⟩, by decide +kernel⟩
theorem yo4 : yx4.ok ∧ mayX yx4 = true := ⟨⟨by decide, by decide, by decide, by decide, by decide⟩, by decide +kernel⟩
theorem yo5 : yx5.ok ∧ mayX yx5 = true := ⟨⟨by decide, by decide, by decide, by decide, by decide⟩, by decide +kernel⟩
set_option maxRecDepth 100000 in
theorem gap1 : ∀ i, i < 1460 → dayB yx1 (19783 + i) = false := by decide +kernel
theorem bit30 : ∀ m, m < 60 → hasB yx1.a.bits ((m : Nat) : Int) = true → m = 30 := by decide +kernel
theorem bit12 : ∀ h, h < 24 → hasB yx1.b.bits ((h : Nat) : Int) = true → h = 12 := by decide +kernel
theorem row1 : IsNext yx1 1709209800 (some 1835440200) := by
  refine ⟨by decide, by decide, by decide +kernel, fun k h1 h2 => false_of fun hf => ?_⟩
  obtain ⟨n, h, m, g1, g2, g3, rfl, _, g4, g5, g6⟩ := fire_inv (by omega) hf
  have e1 := bit30 m g3 g5
  have e2 := bit12 h g2 g6
  have e3 : 19783 ≤ n ∧ n < 19783 + 1460 := by omega
  have := gap1 (n - 19783) (by omega)
  rw [show 19783 + (n - 19783) = n by omega, g4] at this
  cases this
theorem feb_le : ∀ y : Nat, mLong y 2 ≤ 29 := fun y => by
  unfold mLong
  split
  · exact Nat.le_refl _
  · decide
theorem bits2 : ∀ m, m < 13 → hasB yx2.d.bits ((m : Nat) : Int) = true → m = 2 := by decide +kernel
theorem bits30 : ∀ d, d < 32 → hasB yx2.c.bits ((d : Nat) : Int) = true → d = 30 := by decide +kernel
theorem row2 : IsNext yx2 0 none := fun k h1 h2 => false_of fun hf => by
  obtain ⟨n, h, m, g1, g2, g3, rfl, _, g4, g5, g6⟩ := fire_inv h2 hf
  have hc := civ_month g1
  unfold dayB at g4
  simp only [Bool.and_eq_true] at g4
  obtain ⟨q1, q2⟩ := g4
  have e1 := bits2 _ (by omega) q1
  rw [if_pos (by decide : yx2.c.star = true ∨ yx2.e.star = true), Bool.and_eq_true] at q2
  have e2 := bits30 _ (by omega) q2.1
  rw [e1] at hc
  have := feb_le (civ n).1
  omega
theorem row3 : IsLast yx3 0 (some 0) := ⟨Nat.le_refl _, by decide +kernel, fun k h1 h2 => by omega⟩
theorem row4 : IsLast yx4 0 none := fun k hk => by
  obtain rfl : k = 0 := by omega
  decide +kernel
theorem bit0 : ∀ m, m < 60 → hasB yx5.a.bits ((m : Nat) : Int) = true → m = 0 := by decide +kernel
theorem fire5 : ∀ i, i < 25 → fireB yx5 (3600 * i) = true := by decide +kernel
def hours : Nat → Nat → List Nat
  | 0, _ => []
  | c + 1, i => 3600 * (i + 1) :: hours c (i + 1)
theorem hours_len : ∀ c i, (hours c i).length = c
  | 0, _ => rfl
  | c + 1, i => by simp [hours, hours_len c]
theorem row5 : ∀ c i, i + c = 24 → IsRun yx5 86400 (3600 * i) (hours c i)
  | 0, i, h => by
    obtain ⟨r, hr⟩ := next_ex yx5 (3600 * i)
    refine ⟨r, hr, fun t ht => ?_⟩
    subst ht
    have := hr.1
    omega
  | c + 1, i, h => by
    refine ⟨⟨by omega, by omega, fire5 _ (by omega), fun k h1 h2 => false_of fun hf => ?_⟩, by omega, row5 c (i + 1) (by omega)⟩
    obtain ⟨n, h, m, g1, g2, g3, rfl, _, g4, g5, g6⟩ := fire_inv (by omega) hf
    have := bit0 m g3 g5
    omega

theorem c_parsed {s : List UInt8} {x : Ex} (hs : s.length ≤ 1000000) (h : cronK s = (x, 0)) : AOk Tryd.prog 21 [str s] H (exAV x) H := by
  have q := fun K : Heap => c_ref7Parse (H := K) s hs
  rw [h] at q
  refine ACalls.into Tryd.func21 rfl Tryd.ntmps21 Tryd.results21 (by simp) ?_
  simp -implicitDefEqProofs
  refine AAlloc.intro fun b2 h2 => ?_
  simp -implicitDefEqProofs
  refine ACall.eq (q _) ?_
  simp -implicitDefEqProofs
  refine AAlloc.intro fun b3 h3 => ?_
  have n23 : b2 ≠ b3 := by intro e; subst e; simp [Heap.set] at h3
  have n32 := n23.symm
  have e3 : H b3 = none := (HLe.set_fresh h2).none h3
  simp -implicitDefEqProofs [n23, n32]
  repeat (first | exact HWk.refl _ | refine HWk.new (by assumption) ?_)
set_option maxHeartbeats 1000000 in
theorem c_known08 (hG : GlobT H) : AOk Tryd.prog 7 [] H (.sc (.bool true)) H := by
  have p1 := c_parsed (H := H) (s := ty1) (by decide) ky1
  have p2 := c_parsed (H := H) (s := ty2) (by decide) ky2
  have p3 := c_parsed (H := H) (s := ty3) (by decide) ky3
  have p4 := c_parsed (H := H) (s := ty4) (by decide) ky4
  have p5 := c_parsed (H := H) (s := ty5) (by decide) ky5
  have a1 := c_after hG yo1.1 yo1.2 (t := 1709209800) (by decide) row1
  have a2 := c_after hG yo2.1 yo2.2 (t := 0) (by decide) row2
  have a3 := c_last (H := H) yo3.1 yo3.2 (t := 0) (by decide) row3
  have a4 := c_last (H := H) yo4.1 yo4.2 (t := 0) (by decide) row4
  have a5 := c_count hG yo5.1 yo5.2 (a := 0) (b := 86400) (most := 99) (by decide) (by decide) (by decide) (row5 24 0 rfl)
  have a6 := c_count hG yo5.1 yo5.2 (a := 0) (b := 86400) (most := 10) (by decide) (by decide) (by decide) (row5 24 0 rfl)
  rw [hours_len] at a5 a6
  refine ACalls.into Tryd.func7 rfl Tryd.ntmps7 Tryd.results7 (by simp) ?_
  simp -implicitDefEqProofs
  refine ACall.eq p1 ?_
  simp -implicitDefEqProofs
  refine ACall.eq a1 ?_
  simp -implicitDefEqProofs [outAV, optN, errN]
  refine ACall.eq p2 ?_
  simp -implicitDefEqProofs
  refine ACall.eq a2 ?_
  simp -implicitDefEqProofs [outAV, optN, errN]
  refine ACall.eq p3 ?_
  simp -implicitDefEqProofs
  refine ACall.eq a3 ?_
  simp -implicitDefEqProofs [outAV, optN, errN]
  refine ACall.eq p4 ?_
  simp -implicitDefEqProofs
  refine ACall.eq a4 ?_
  simp -implicitDefEqProofs [outAV, optN, errN]
  refine ACall.eq p5 ?_
  simp -implicitDefEqProofs
  refine ACall.eq a5 ?_
  simp -implicitDefEqProofs
  refine ACall.eq p5 ?_
  simp -implicitDefEqProofs
  refine ACall.eq a6 ?_
  simp -implicitDefEqProofs
end Go.Proofs.YtdpgnbinekcgdaaDoor
