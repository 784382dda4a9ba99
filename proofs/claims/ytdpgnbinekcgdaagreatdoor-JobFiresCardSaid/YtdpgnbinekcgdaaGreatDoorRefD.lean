/- The document's dates and clocks. -/
import Derived.Test.YtdpgnbinekcgdaaGreatDoorCal
namespace Go.Proofs.YtdpgnbinekcgdaaGreatDoor
open Rg Go

variable {H : Heap}

theorem leap_bits (y : Nat) : leapN y = (decide (y % 400 = 0) || (!decide (y % 100 = 0) && decide (y % 4 = 0))) := by
  unfold leapN
  rw [Bool.eq_iff_iff]
  simp
  omega
theorem c_ref4Leap (y : Nat) : AOk Tryz.prog 120 [.sc (.int .i64 y)] H (.sc (.bool (leapN y))) H := by
  obtain ⟨a, ha⟩ : ∃ x, y % 400 = x := ⟨_, rfl⟩
  obtain ⟨b, hb⟩ : ∃ x, y % 100 = x := ⟨_, rfl⟩
  obtain ⟨c, hc⟩ : ∃ x, y % 4 = x := ⟨_, rfl⟩
  have e1 : (y : Int).tmod 400 = (a : Int) := wmod (b := 400) ha
  have e2 : (y : Int).tmod 100 = (b : Int) := wmod (b := 100) hb
  have e3 : (y : Int).tmod 4 = (c : Int) := wmod (b := 4) hc
  rw [leap_bits, ha, hb, hc]
  refine ACalls.into Tryz.func120 rfl Tryz.ntmps120 Tryz.results120 (by simp) ?_
  by_cases h1 : a = 0
  · simp -implicitDefEqProofs [e1, h1]
  · by_cases h2 : b = 0
    · simp -implicitDefEqProofs [e1, e2, h1, h2]
    · simp -implicitDefEqProofs [e1, e2, e3, h1, h2]
theorem c_ref4Long {y m : Nat} (h1 : 1 ≤ m) (h2 : m ≤ 12) : AOk Tryz.prog 121 [.sc (.int .i64 y), .sc (.int .i64 m)] H (.sc (.int .i64 (mLong y m))) H := by
  refine ACalls.into Tryz.func121 rfl Tryz.ntmps121 Tryz.results121 (by simp) ?_
  have hc : m = 2 ∨ m = 1 ∨ m = 3 ∨ m = 4 ∨ m = 5 ∨ m = 6 ∨ m = 7 ∨ m = 8 ∨ m = 9 ∨ m = 10 ∨ m = 11 ∨ m = 12 := by omega
  rcases hc with rfl | hc
  · simp -implicitDefEqProofs
    refine ACall.eq (c_ref4Leap y) ?_
    cases hl : leapN y <;> simp -implicitDefEqProofs [mLong, hl]
  · rcases hc with rfl | rfl | rfl | rfl | rfl | rfl | rfl | rfl | rfl | rfl | rfl <;> simp -implicitDefEqProofs [mLong]
theorem c_ref4Weekday (n : Nat) (hn : n < 1000000000) : AOk Tryz.prog 95 [.sc (.int .i64 n)] H (.sc (.int .i64 ((n + 4) % 7 : Nat))) H := by
  refine ACalls.into Tryz.func95 rfl Tryz.ntmps95 Tryz.results95 (by simp) ?_
  obtain ⟨r, hr⟩ : ∃ r, n % 7 = r := ⟨_, rfl⟩
  obtain ⟨r', hr'⟩ : ∃ x, r + 4 = x := ⟨_, rfl⟩
  obtain ⟨q, hq⟩ : ∃ x, (n + 4) % 7 = x := ⟨_, rfl⟩
  rw [hq]
  have e1 : (n : Int).tmod 7 = (r : Int) := wmod (b := 7) hr
  have e2 : IntKind.i64.wrap ((r : Int) + 4) = (r' : Int) := wadd (b := 4) hr' (by omega)
  have e3 : (r' : Int).tmod 7 = (q : Int) := wmod (b := 7) (by omega)
  simp -implicitDefEqProofs [e1, e2, e3]

def yearLen (y : Nat) : Nat := if leapN y = true then 366 else 365
def okY (j : Nat) : Bool := decide (mFirst (12 * (j + 1)) = mFirst (12 * j) + yearLen (1970 + j))
def okYs : Nat → Bool
  | 0 => true
  | j + 1 => okY j && okYs j
theorem okYs_true : okYs 430 = true := by decide +kernel
theorem okYs_at : ∀ {k j : Nat}, okYs k = true → j < k → okY j = true
  | 0, j, _, h => by omega
  | k + 1, j, h, hj => by
    simp only [okYs, Bool.and_eq_true] at h
    by_cases he : j = k
    · subst he; exact h.1
    · exact okYs_at h.2 (by omega)
theorem year_succ {j : Nat} (hj : j < 430) : mFirst (12 * (j + 1)) = mFirst (12 * j) + yearLen (1970 + j) := by simpa [okY] using okYs_at okYs_true hj

theorem c_ref4Of {n : Nat} (hn : n < 157054) : AOk Tryz.prog 116 [.sc (.int .i64 n)] H (.tup [dAV (civ n).1 (civ n).2.1 (civ n).2.2, .sc (.int .i64 0)]) H := by
  obtain ⟨i, d, hi, hd, hnd⟩ := day_of hn
  have hciv : civ n = (1970 + i / 12, i % 12 + 1, d + 1) := by rw [hnd]; exact civ_at hi hd
  rw [hciv]
  have hml := mLen_le i
  simp only
  obtain ⟨Y0, hY0⟩ : ∃ x, 1970 + i / 12 = x := ⟨_, rfl⟩
  obtain ⟨M0, hM0⟩ : ∃ x, i % 12 + 1 = x := ⟨_, rfl⟩
  obtain ⟨D0, hD0⟩ : ∃ x, d + 1 = x := ⟨_, rfl⟩
  rw [hY0, hM0, hD0]
  refine ACalls.into Tryz.func116 rfl Tryz.ntmps116 Tryz.results116 (by simp) ?_
  simp -implicitDefEqProofs
  refine AAlloc.intro fun b2 h2 => ?_
  have hW : ∀ o, HWk H (H.set b2 o) := fun o => HWk.new h2 (HWk.refl _)
  simp -implicitDefEqProofs
  generalize hK : Heap.set _ b2 _ = K0
  have k2 : K0 b2 = some (.cells [.sc (.int .i64 0), .sc (.int .i64 0), .sc (.int .i64 0)] 42) := by rw [← hK]; simp [Heap.set]
  have kW : HWk H K0 := by rw [← hK]; exact hW _
  clear hK
  obtain ⟨Z0, hZ0⟩ : ∃ x, n - mFirst (12 * (i / 12)) = x := ⟨_, rfl⟩
  refine AGo.joinLoop (fun ρ K => K = K0 ∧ ρ 2 = .sc (.pointer (some ⟨b2, 0, none⟩)) ∧ ρ 4 = .sc (.int .i64 Y0) ∧ ρ 0 = .sc (.int .i64 Z0)) (fun k' hk' => ?_) ?_
  · refine AGo.rounds (fun m ρ K => ∃ j Y Z : Nat, j ≤ i / 12 ∧ m = 430 - j ∧ Y = 1970 + j ∧ Z = n - mFirst (12 * j) ∧ ρ 2 = .sc (.pointer (some ⟨b2, 0, none⟩)) ∧ ρ 4 = .sc (.int .i64 Y) ∧ ρ 0 = .sc (.int .i64 Z) ∧ K = K0) ?_ (m := 430) (HLe.refl _)
      ⟨0, 1970, n, by omega, rfl, rfl, by rw [show 12 * 0 = 0 from rfl, mFirst_zero]; rfl, by simp, by simp, by simp, rfl⟩
    rintro m ρ K ih ⟨j, Y, Z, hj, rfl, hY, hZ, r2, r4, r0, rfl⟩
    have hj4 : j < 430 := by omega
    have hys := year_succ hj4
    have hb1 : mFirst (12 * j) ≤ mFirst i := mFirst_mono (by omega) (by omega)
    have hmx : mFirst i + d < 157054 := by omega
    rw [← hY] at hys
    have c1 : (Y : Int) ≤ 2399 := by omega
    obtain ⟨Y', hY'⟩ : ∃ x, x = 1970 + (j + 1) := ⟨_, rfl⟩
    obtain ⟨Z', hZ'⟩ : ∃ x, x = n - mFirst (12 * (j + 1)) := ⟨_, rfl⟩
    have hwY : IntKind.i64.wrap ((Y : Int) + 1) = (Y' : Int) := wadd (b := 1) (by omega) (by omega)
    obtain ⟨L, hL⟩ : ∃ x, yearLen Y = x := ⟨_, rfl⟩
    rw [hL] at hys
    simp -implicitDefEqProofs [r4, c1]
    refine ACall.eq (c_ref4Leap Y) ?_
    by_cases hlast : j = i / 12
    · have hup : n < mFirst (12 * (j + 1)) := by
        have h3 := mFirst_mono (i := i + 1) (j := 12 * (j + 1)) (by omega) (by omega)
        rw [mFirst_succ hi] at h3
        omega
      have hlt : (Z : Int) < (L : Int) := by omega
      have eY : Y = Y0 := by omega
      have eZ : Z = Z0 := by rw [hlast] at hZ; omega
      cases hl : leapN Y with
      | true =>
        have hL2 : L = 366 := by rw [← hL]; unfold yearLen; rw [if_pos hl]
        have hlt2 : (Z : Int) < 366 := by omega
        have hlt3 : Z < 366 := by omega
        simp -implicitDefEqProofs [r0, hlt2, hlt3]
        exact hk' _ _ ⟨rfl, by simp [r2], by simp [r4, eY], by simp [r0, eZ]⟩
      | false =>
        have hL2 : L = 365 := by rw [← hL]; unfold yearLen; rw [if_neg (by simp [hl])]
        have hlt2 : (Z : Int) < 365 := by omega
        have hlt3 : Z < 365 := by omega
        simp -implicitDefEqProofs [r0, hlt2, hlt3]
        exact hk' _ _ ⟨rfl, by simp [r2], by simp [r4, eY], by simp [r0, eZ]⟩
    · have hup : mFirst (12 * (j + 1)) ≤ mFirst i := mFirst_mono (by omega) (by omega)
      have hlt : ¬ (Z : Int) < (L : Int) := by omega
      have hwZ : IntKind.i64.wrap ((Z : Int) - (L : Int)) = (Z' : Int) := wsub (by omega) (by omega) (by omega)
      cases hl : leapN Y with
      | true =>
        have hL2 : L = 366 := by rw [← hL]; unfold yearLen; rw [if_pos hl]
        have hlt2 : ¬ (Z : Int) < 366 := by omega
        have hlt3 : ¬ Z < 366 := by omega
        have hwZ2 : IntKind.i64.wrap ((Z : Int) - 366) = (Z' : Int) := wsub (b := 366) (by omega) (by omega) (by omega)
        simp -implicitDefEqProofs [r0, r4, hlt2, hlt3, hwZ2, hwY]
        exact AGo.again ih (m' := 430 - (j + 1)) (by omega) (HLe.refl _) ⟨j + 1, Y', Z', by omega, rfl, hY', hZ', by simp [r2], by simp, by simp, rfl⟩
      | false =>
        have hL2 : L = 365 := by rw [← hL]; unfold yearLen; rw [if_neg (by simp [hl])]
        have hlt2 : ¬ (Z : Int) < 365 := by omega
        have hlt3 : ¬ Z < 365 := by omega
        have hwZ2 : IntKind.i64.wrap ((Z : Int) - 365) = (Z' : Int) := wsub (b := 365) (by omega) (by omega) (by omega)
        simp -implicitDefEqProofs [r0, r4, hlt2, hlt3, hwZ2, hwY]
        exact AGo.again ih (m' := 430 - (j + 1)) (by omega) (HLe.refl _) ⟨j + 1, Y', Z', by omega, rfl, hY', hZ', by simp [r2], by simp, by simp, rfl⟩
  · rintro ρ K ⟨rfl, r2, r4, r0⟩
    have c1 : ¬ (2399 : Int) < (Y0 : Int) := by omega
    have c1' : ¬ 2399 < Y0 := by omega
    simp -implicitDefEqProofs [r4, c1, c1']
    refine AGo.rounds (fun m ρ K2 => ∃ q Z : Nat, q ≤ i % 12 ∧ m = 12 - q ∧ Z = n - mFirst (12 * (i / 12) + q) ∧ ρ 2 = .sc (.pointer (some ⟨b2, 0, none⟩)) ∧ ρ 4 = .sc (.int .i64 Y0) ∧ ρ 6 = .sc (.int .i64 (q + 1 : Nat)) ∧ ρ 0 = .sc (.int .i64 Z) ∧ K2 = K) ?_ (m := 12) (HLe.refl _)
      ⟨0, Z0, by omega, rfl, hZ0.symm, by simp [r2], by simp [r4], by simp, by simp [r0], rfl⟩
    rintro m ρ K2 ih ⟨q, Z, hq, rfl, hZ, r2, r4, r6, r0, rfl⟩
    have hq12 : q < 12 := by omega
    have hil : 12 * (i / 12) + q < 5160 := by omega
    have hms := mFirst_succ hil
    have hlen : mLen (12 * (i / 12) + q) = mLong Y0 (q + 1) := by
      unfold mLen
      rw [show (12 * (i / 12) + q) / 12 = i / 12 by omega, show (12 * (i / 12) + q) % 12 = q by omega, hY0]
    rw [hlen] at hms
    have hb1 : mFirst (12 * (i / 12) + q) ≤ mFirst i := mFirst_mono (by omega) (by omega)
    obtain ⟨q1, hq1⟩ : ∃ x, q + 1 = x := ⟨_, rfl⟩
    rw [hq1] at r6 hms
    obtain ⟨L, hL⟩ : ∃ x, mLong Y0 q1 = x := ⟨_, rfl⟩
    rw [hL] at hms
    simp -implicitDefEqProofs [r0, r4, r6]
    refine ACall.eq (c_ref4Long (y := Y0) (m := q1) (by omega) (by omega)) ?_
    rw [hL]
    by_cases hlast : q = i % 12
    · have hii : 12 * (i / 12) + q = i := by omega
      have hZd : Z = d := by rw [hZ, hii]; omega
      have hLd : d < L := by rw [← hL, ← hq1, ← hlen, hii]; exact hd
      have hlt : ¬ (L : Int) ≤ (Z : Int) := by omega
      have hlt' : ¬ L ≤ Z := by omega
      have hw : IntKind.i64.wrap ((Z : Int) + 1) = (D0 : Int) := wadd (b := 1) (by omega) (by omega)
      have hq1' : M0 = q1 := by omega
      rw [hq1']
      simp -implicitDefEqProofs [r0, r2, r4, r6, hlt, hlt', hw, k2]
      exact HWk.new h2 kW
    · have hup : mFirst (12 * (i / 12) + q + 1) ≤ mFirst i := mFirst_mono (by omega) (by omega)
      have hlt : (L : Int) ≤ (Z : Int) := by omega
      have hlt' : L ≤ Z := by omega
      obtain ⟨Z', hZ'⟩ : ∃ x, x = n - mFirst (12 * (i / 12) + (q + 1)) := ⟨_, rfl⟩
      have hms' : mFirst (12 * (i / 12) + (q + 1)) = mFirst (12 * (i / 12) + q) + L := hms
      have hwZ : IntKind.i64.wrap ((Z : Int) - (L : Int)) = (Z' : Int) := wsub (by omega) (by omega) (by omega)
      have hw1 : IntKind.i64.wrap ((q1 : Int) + 1) = ((q1 + 1 : Nat) : Int) := wadd (b := 1) rfl (by omega)
      simp -implicitDefEqProofs [r0, r4, r6, hlt, hlt']
      refine ACall.eq (c_ref4Long (y := Y0) (m := q1) (by omega) (by omega)) ?_
      rw [hL]
      simp -implicitDefEqProofs [r0, r4, r6, hwZ, hw1]
      exact AGo.again ih (m' := 12 - (q + 1)) (by omega) (HLe.refl _) ⟨q + 1, Z', by omega, rfl, hZ', by simp [r2], by simp [r4], by simp [← hq1], by simp, rfl⟩
end Go.Proofs.YtdpgnbinekcgdaaGreatDoor
