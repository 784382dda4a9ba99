/- Expressions: which may be, which clocks fit. -/
import Derived.Test.YtdpgnbinekcgdaaGreatDoorCal
namespace Go.Proofs.YtdpgnbinekcgdaaGreatDoor
open Rg Go

variable {H : Heap}

structure Ex where
  a : Fld
  b : Fld
  c : Fld
  d : Fld
  e : Fld
deriving DecidableEq
abbrev exC (x : Ex) : List AV := [.sc (.int .u64 x.a.bits), .sc (.bool x.a.star), .sc (.int .u64 x.b.bits), .sc (.bool x.b.star), .sc (.int .u64 x.c.bits), .sc (.bool x.c.star), .sc (.int .u64 x.d.bits), .sc (.bool x.d.star), .sc (.int .u64 x.e.bits), .sc (.bool x.e.star)]
abbrev exAV (x : Ex) : AV := .agg (exC x)
def Ex.get (x : Ex) : Nat → Fld
  | 0 => x.a
  | 1 => x.b
  | 2 => x.c
  | 3 => x.d
  | _ => x.e
structure Ex.ok (x : Ex) : Prop where
  a : x.a.bits < 18446744073709551616
  b : x.b.bits < 18446744073709551616
  c : x.c.bits < 18446744073709551616
  d : x.d.bits < 18446744073709551616
  e : x.e.bits < 18446744073709551616
def f0 : Fld := ⟨0, false⟩
def ex0 : Ex := ⟨f0, f0, f0, f0, f0⟩
def mayX (x : Ex) : Bool := mayB 0 x.a.bits && mayB 1 x.b.bits && mayB 2 x.c.bits && mayB 3 x.d.bits && mayB 4 x.e.bits
def dayFitsX (x : Ex) (c : Clk) : Bool :=
  mayX x && mayC c && hasB x.d.bits c.m && (if x.c.star = true ∨ x.e.star = true then hasB x.c.bits c.d && hasB x.e.bits c.w else hasB x.c.bits c.d || hasB x.e.bits c.w)
def fitsX (x : Ex) (c : Clk) : Bool := dayFitsX x c && hasB x.a.bits c.mi && hasB x.b.bits c.h

theorem lt_succ_all {P : Nat → Prop} {k : Nat} (h : ∀ i, i < k → P i) (hk : P k) : ∀ i, i < k + 1 → P i := fun i hi => by
  by_cases e : i = k
  · subst e; exact hk
  · exact h i (by omega)
theorem c_cronMay (x : Ex) (hx : x.ok) : AOk Tryz.prog 24 [exAV x] H (.sc (.bool (mayX x))) H := by
  refine ACalls.into Tryz.func24 rfl Tryz.ntmps24 Tryz.results24 (by simp) ?_
  simp -implicitDefEqProofs
  refine AAlloc.intro fun b1 h1 => ?_
  simp -implicitDefEqProofs
  refine AGo.rounds (fun m ρ K => ∃ j : Nat, j ≤ 5 ∧ m = 5 - j ∧ ρ 5 = exAV x ∧ ρ 6 = .sc (.int .i64 j) ∧ (∀ i, i < j → mayB (i : Int) (x.get i).bits = true) ∧ HWk H K) ?_ (m := 5) (HLe.refl _)
    ⟨0, by omega, rfl, by simp, by simp, fun i hi => by omega, HWk.new h1 (HWk.refl _)⟩
  rintro m ρ K ih ⟨j, hj, rfl, r5, r6, hm, hW⟩
  have hc : j = 0 ∨ j = 1 ∨ j = 2 ∨ j = 3 ∨ j = 4 ∨ j = 5 := by omega
  rcases hc with rfl | rfl | rfl | rfl | rfl | rfl
  · simp -implicitDefEqProofs [r5, r6]
    refine AAlloc.intro fun b hb => ?_
    have hW' : ∀ o, HWk H (K.set b o) := fun o => HWk.new (hW.none hb) hW
    simp -implicitDefEqProofs
    refine ACall.eq (c_may 0 x.a hx.a) ?_
    cases he : mayB 0 x.a.bits with
    | false => simp -implicitDefEqProofs [mayX, he]; exact hW' _
    | true =>
      simp -implicitDefEqProofs [r6, wrap_i64]
      exact AGo.again ih (m' := 4) (by omega) (HLe.refl _) ⟨1, by omega, rfl, by simp [r5], by simp, lt_succ_all (P := fun i : Nat => mayB (i : Int) (x.get i).bits = true) hm he, hW' _⟩
  · simp -implicitDefEqProofs [r5, r6]
    refine AAlloc.intro fun b hb => ?_
    have hW' : ∀ o, HWk H (K.set b o) := fun o => HWk.new (hW.none hb) hW
    simp -implicitDefEqProofs
    refine ACall.eq (c_may 1 x.b hx.b) ?_
    cases he : mayB 1 x.b.bits with
    | false => simp -implicitDefEqProofs [mayX, he]; exact hW' _
    | true =>
      simp -implicitDefEqProofs [r6, wrap_i64]
      exact AGo.again ih (m' := 3) (by omega) (HLe.refl _) ⟨2, by omega, rfl, by simp [r5], by simp, lt_succ_all (P := fun i : Nat => mayB (i : Int) (x.get i).bits = true) hm he, hW' _⟩
  · simp -implicitDefEqProofs [r5, r6]
    refine AAlloc.intro fun b hb => ?_
    have hW' : ∀ o, HWk H (K.set b o) := fun o => HWk.new (hW.none hb) hW
    simp -implicitDefEqProofs
    refine ACall.eq (c_may 2 x.c hx.c) ?_
    cases he : mayB 2 x.c.bits with
    | false => simp -implicitDefEqProofs [mayX, he]; exact hW' _
    | true =>
      simp -implicitDefEqProofs [r6, wrap_i64]
      exact AGo.again ih (m' := 2) (by omega) (HLe.refl _) ⟨3, by omega, rfl, by simp [r5], by simp, lt_succ_all (P := fun i : Nat => mayB (i : Int) (x.get i).bits = true) hm he, hW' _⟩
  · simp -implicitDefEqProofs [r5, r6]
    refine AAlloc.intro fun b hb => ?_
    have hW' : ∀ o, HWk H (K.set b o) := fun o => HWk.new (hW.none hb) hW
    simp -implicitDefEqProofs
    refine ACall.eq (c_may 3 x.d hx.d) ?_
    cases he : mayB 3 x.d.bits with
    | false => simp -implicitDefEqProofs [mayX, he]; exact hW' _
    | true =>
      simp -implicitDefEqProofs [r6, wrap_i64]
      exact AGo.again ih (m' := 1) (by omega) (HLe.refl _) ⟨4, by omega, rfl, by simp [r5], by simp, lt_succ_all (P := fun i : Nat => mayB (i : Int) (x.get i).bits = true) hm he, hW' _⟩
  · simp -implicitDefEqProofs [r5, r6]
    refine AAlloc.intro fun b hb => ?_
    have hW' : ∀ o, HWk H (K.set b o) := fun o => HWk.new (hW.none hb) hW
    simp -implicitDefEqProofs
    refine ACall.eq (c_may 4 x.e hx.e) ?_
    cases he : mayB 4 x.e.bits with
    | false => simp -implicitDefEqProofs [mayX, he]; exact hW' _
    | true =>
      simp -implicitDefEqProofs [r6, wrap_i64]
      exact AGo.again ih (m' := 0) (by omega) (HLe.refl _) ⟨5, by omega, rfl, by simp [r5], by simp, lt_succ_all (P := fun i : Nat => mayB (i : Int) (x.get i).bits = true) hm he, hW' _⟩
  · have g0 : mayB 0 x.a.bits = true := hm 0 (by omega)
    have g1 : mayB 1 x.b.bits = true := hm 1 (by omega)
    have g2 : mayB 2 x.c.bits = true := hm 2 (by omega)
    have g3 : mayB 3 x.d.bits = true := hm 3 (by omega)
    have g4 : mayB 4 x.e.bits = true := hm 4 (by omega)
    simp -implicitDefEqProofs [r5, r6, mayX, g0, g1, g2, g3, g4]
    exact hW
theorem c_allows {b : Nat} {x : Ex} (hb : H b = some (.cells (exC x) 37)) (hx : x.ok) (n : Int) :
    AOk Tryz.prog 59 [.sc (.int .i64 2), .sc (.int .i64 n), .sc (.pointer (some ⟨b, 0, none⟩))] H (.sc (.bool (hasB x.c.bits n))) H ∧
    AOk Tryz.prog 59 [.sc (.int .i64 3), .sc (.int .i64 n), .sc (.pointer (some ⟨b, 0, none⟩))] H (.sc (.bool (hasB x.d.bits n))) H ∧
    AOk Tryz.prog 59 [.sc (.int .i64 4), .sc (.int .i64 n), .sc (.pointer (some ⟨b, 0, none⟩))] H (.sc (.bool (hasB x.e.bits n))) H := by
  refine ⟨?_, ?_, ?_⟩
  · refine ACalls.into Tryz.func59 rfl Tryz.ntmps59 Tryz.results59 (by simp) ?_
    simp -implicitDefEqProofs [hb]
    refine ACall.eq (c_has x.c n hx.c) ?_
    simp -implicitDefEqProofs
  · refine ACalls.into Tryz.func59 rfl Tryz.ntmps59 Tryz.results59 (by simp) ?_
    simp -implicitDefEqProofs [hb]
    refine ACall.eq (c_has x.d n hx.d) ?_
    simp -implicitDefEqProofs
  · refine ACalls.into Tryz.func59 rfl Tryz.ntmps59 Tryz.results59 (by simp) ?_
    simp -implicitDefEqProofs [hb]
    refine ACall.eq (c_has x.e n hx.e) ?_
    simp -implicitDefEqProofs
theorem c_dayFits (x : Ex) (hx : x.ok) (c : Clk) : AOk Tryz.prog 30 [exAV x, cAV c] H (.sc (.bool (dayFitsX x c))) H := by
  refine ACalls.into Tryz.func30 rfl Tryz.ntmps30 Tryz.results30 (by simp) ?_
  simp -implicitDefEqProofs
  refine AAlloc.intro fun b2 h2 => ?_
  simp -implicitDefEqProofs
  refine AAlloc.intro fun b3 h3 => ?_
  have n32 : b3 ≠ b2 := by intro e; subst e; simp [Heap.set] at h3
  have n23 := n32.symm
  have e3 : H b3 = none := (HLe.set_fresh h2).none h3
  simp -implicitDefEqProofs [n32, n23]
  generalize hK : Heap.set _ b3 _ = K
  have k2 : K b2 = some (.cells (exC x) 37) := by rw [← hK]; simp [Heap.set, n23]
  have k3 : K b3 = some (.cells [.sc (.int .i64 c.y), .sc (.int .i64 c.m), .sc (.int .i64 c.d), .sc (.int .i64 c.h), .sc (.int .i64 c.mi), .sc (.int .i64 c.s), .sc (.int .i64 c.w)] 44) := by rw [← hK]; simp [Heap.set]
  have kW : HWk H K := by rw [← hK]; exact HWk.new e3 (HWk.new h2 (HWk.refl _))
  clear hK
  refine ACall.eq (c_cronMay x hx) ?_
  unfold dayFitsX
  cases hm : mayX x with
  | false => simp -implicitDefEqProofs; exact kW
  | true =>
    simp -implicitDefEqProofs [k3]
    refine ACall.eq (c_smay c) ?_
    cases hc : mayC c with
    | false => simp -implicitDefEqProofs; exact kW
    | true =>
      simp -implicitDefEqProofs
      refine go_draw 11 f_mixed (by decide +kernel) ?_
      simp -implicitDefEqProofs [k3]
      refine AQS.eq (c_allows k2 hx c.d).1 ?_
      simp -implicitDefEqProofs [k3]
      refine AQS.eq (c_allows k2 hx c.w).2.2 ?_
      obtain ⟨day, hday⟩ : ∃ z, hasB x.c.bits c.d = z := ⟨_, rfl⟩
      obtain ⟨week, hweek⟩ : ∃ z, hasB x.e.bits c.w = z := ⟨_, rfl⟩
      obtain ⟨mon, hmon⟩ : ∃ z, hasB x.d.bits c.m = z := ⟨_, rfl⟩
      have h3 := (c_allows (n := c.m) k2 hx).2.1
      rw [hmon] at h3
      rw [hday, hweek, hmon]
      cases hsc : x.c.star with
      | true =>
        simp -implicitDefEqProofs [k2, k3, hsc]
        refine ACall.eq h3 ?_
        cases mon <;> cases day <;> cases week <;> simp -implicitDefEqProofs <;> exact kW
      | false =>
        cases hse : x.e.star with
        | true =>
          simp -implicitDefEqProofs [k2, k3, hsc, hse]
          refine ACall.eq h3 ?_
          cases mon <;> cases day <;> cases week <;> simp -implicitDefEqProofs <;> exact kW
        | false =>
          simp -implicitDefEqProofs [k2, k3, hsc, hse]
          refine ACall.eq h3 ?_
          cases mon <;> cases day <;> cases week <;> simp -implicitDefEqProofs <;> exact kW
theorem c_fits (x : Ex) (hx : x.ok) (c : Clk) : AOk Tryz.prog 28 [exAV x, cAV c] H (.sc (.bool (fitsX x c))) H := by
  refine ACalls.into Tryz.func28 rfl Tryz.ntmps28 Tryz.results28 (by simp) ?_
  simp -implicitDefEqProofs
  refine AAlloc.intro fun b2 h2 => ?_
  simp -implicitDefEqProofs
  refine AAlloc.intro fun b3 h3 => ?_
  have n32 : b3 ≠ b2 := by intro e; subst e; simp [Heap.set] at h3
  have n23 := n32.symm
  have e3 : H b3 = none := (HLe.set_fresh h2).none h3
  simp -implicitDefEqProofs [n32, n23]
  generalize hK : Heap.set _ b3 _ = K
  have k2 : K b2 = some (.cells (exC x) 37) := by rw [← hK]; simp [Heap.set, n23]
  have k3 : K b3 = some (.cells [.sc (.int .i64 c.y), .sc (.int .i64 c.m), .sc (.int .i64 c.d), .sc (.int .i64 c.h), .sc (.int .i64 c.mi), .sc (.int .i64 c.s), .sc (.int .i64 c.w)] 44) := by rw [← hK]; simp [Heap.set]
  have kW : HWk H K := by rw [← hK]; exact HWk.new e3 (HWk.new h2 (HWk.refl _))
  clear hK
  refine ACall.eq (c_dayFits x hx c) ?_
  unfold fitsX
  cases hd : dayFitsX x c with
  | false => simp -implicitDefEqProofs; exact kW
  | true =>
    simp -implicitDefEqProofs [k2, k3]
    refine ACall.eq (c_has x.a c.mi hx.a) ?_
    cases hm : hasB x.a.bits c.mi with
    | false => simp -implicitDefEqProofs; exact kW
    | true =>
      simp -implicitDefEqProofs [k2, k3]
      refine ACall.eq (c_has x.b c.h hx.b) ?_
      simp -implicitDefEqProofs
      exact kW
end Go.Proofs.YtdpgnbinekcgdaaGreatDoor
