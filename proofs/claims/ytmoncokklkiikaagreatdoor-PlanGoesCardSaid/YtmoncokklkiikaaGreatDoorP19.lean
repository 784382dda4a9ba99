/- The document's parse of any expression. The document's dates and clocks. The document's clock of a moment. The document's expressions: which may be, which clocks fit. The last firing up to a moment, as the document looks for it. The first firing behind a moment, as the program looks for it. The first firing behind a moment, as the document looks for it. -/
import Derived.Test.YtmoncokklkiikaaGreatDoorP18
import Derived.Test.YtmoncokklkiikaaGreatDoorP14
import Derived.Test.YtmoncokklkiikaaGreatDoorP15
set_option linter.unusedSimpArgs false
set_option linter.unusedVariables false
set_option linter.unnecessarySimpa false
namespace Go.Proofs.YtmoncokklkiikaaGreatDoor
open Rg Go
variable {H : Heap}
theorem cronK_name {n x : List UInt8} (hl : ¬ 400 < n.length) (hp : Lib.hasPrefix n [64] = true) (h : namedL n = x) : cronK n = cronB x := by
  unfold cronK
  rw [if_neg hl, if_pos hp, h]
theorem prefix64 (s : List UInt8) : (Lib.hasPrefix s [64] = false ∧ (¬ 0 < s.length ∨ ∃ h : 0 < s.length, ¬ s[0].toNat = 64)) ∨ (Lib.hasPrefix s [64] = true ∧ ∃ h : 0 < s.length, s[0].toNat = 64) := by
  cases s with
  | nil => exact .inl ⟨rfl, .inl (by simp)⟩
  | cons c r =>
    have e : Lib.hasPrefix (c :: r) [64] = (64 == c) := by unfold Lib.hasPrefix; simp [List.isPrefixOf]
    by_cases hc : c = 64
    · exact .inr ⟨by rw [e, hc]; rfl, by simp, by simp [hc]⟩
    · exact .inl ⟨by rw [e]; simpa using Ne.symm hc, .inr ⟨by simp, fun h => hc (UInt8.toNat_inj.1 (by simpa using h))⟩⟩
theorem namedL_none {s : List UInt8} (h : ∀ q, q < 7 → nmL.getD (2 * q) [] ≠ s) : namedL s = [] := by
  have h0 := h 0 (by omega)
  have h1 := h 1 (by omega)
  have h2 := h 2 (by omega)
  have h3 := h 3 (by omega)
  have h4 := h 4 (by omega)
  have h5 := h 5 (by omega)
  have h6 := h 6 (by omega)
  unfold namedL
  rw [if_neg (fun e => h0 e.symm), if_neg (fun e => h1 e.symm), if_neg (fun e => h2 e.symm), if_neg (fun e => h3 e.symm), if_neg (fun e => h4 e.symm), if_neg (fun e => h5 e.symm), if_neg (fun e => h6 e.symm)]
set_option maxHeartbeats 1000000 in
theorem c_ref7ParseW (s : List UInt8) (hs : s.length ≤ 9223372036854775807) : AOk Tryz.prog 64 [str s] H (.tup [exAV (cronK s).1, .sc (.int .i64 (cronK s).2)]) H := by
  rcases prefix64 s with ⟨hp, hnp⟩ | ⟨hp, h0, h64⟩
  · have h := c_ref7Plain (H := H) s hs hnp
    have e : cronK s = if 400 < s.length then (ex0, 3) else cronB s := by unfold cronK; rw [hp]; rfl
    rw [e]; exact h
  · by_cases hl : 400 < s.length
    · have hl' : (400 : Int) < s.length := by omega
      have e : cronK s = (ex0, 3) := by unfold cronK; rw [if_pos hl]
      rw [e]
      refine ACalls.into Tryz.func64 rfl Tryz.ntmps64 Tryz.results64 (by simp) ?_
      simp -implicitDefEqProofs [ex0, f0]
      refine AAlloc.intro fun b2 h2 => ?_
      simp -implicitDefEqProofs [hl, hl']
      exact HWk.new h2 (HWk.refl _)
    · have hl' : ¬ (400 : Int) < s.length := by omega
      have h0' : (0 : Int) < s.length := by omega
      have h64' : (s[0].toNat : Int) = 64 := by omega
      refine ACalls.into Tryz.func64 rfl Tryz.ntmps64 Tryz.results64 (by simp) ?_
      simp -implicitDefEqProofs
      refine AAlloc.intro fun b2 h2 => ?_
      simp -implicitDefEqProofs [hl, hl', h0, h0', h64, h64']
      generalize hK : Heap.set _ b2 _ = K0
      have k2 : K0 b2 = some (.cells (exC ex0) 42) := by rw [← hK]; simp [Heap.set, ex0, f0]
      have kW : HWk H K0 := by rw [← hK]; exact HWk.new h2 (HWk.refl _)
      clear hK h64 h64'
      refine ACall.eq c_refNames ?_
      simp -implicitDefEqProofs
      refine AGo.rounds (fun m ρ K => ∃ q : Nat, q ≤ 7 ∧ m = 7 - q ∧ ρ 0 = str s ∧ ρ 2 = .sc (.pointer (some ⟨b2, 0, none⟩)) ∧ ρ 4 = .sl (strL nmL) .no ∧ ρ 5 = .sc (.int .i64 (2 * q : Nat)) ∧ (∀ q', q' < q → nmL.getD (2 * q') [] ≠ s) ∧ K = K0) ?_ (m := 7) (HLe.refl _)
        ⟨0, by omega, rfl, by simp, by simp, by simp, by simp, fun q' hq => by omega, rfl⟩
      rintro m ρ K ih ⟨q, hq, rfl, r0, r2, r4, r5, hne, rfl⟩
      have hc : q = 0 ∨ q = 1 ∨ q = 2 ∨ q = 3 ∨ q = 4 ∨ q = 5 ∨ q = 6 ∨ q = 7 := by omega
      rcases hc with rfl | rfl | rfl | rfl | rfl | rfl | rfl | rfl
      · skip
        by_cases hs : nHourly = s
        · subst hs
          have e : cronK nHourly = cronB xHourly := cronK_name (by decide) (by decide) (by decide)
          have hpl := c_ref7Plain (H := K) xHourly (by decide) (.inr ⟨by decide, by decide⟩)
          rw [if_neg (by decide)] at hpl
          rw [e]
          simp -implicitDefEqProofs [r0, r2, r4, r5, nmL, wrap_i64]
          refine ACall.eq hpl ?_
          simp -implicitDefEqProofs [r2, k2]
          exact HWk.new h2 kW
        · have hb : (nHourly == s) = false := by simpa using hs
          simp -implicitDefEqProofs [r0, r2, r4, r5, nmL, hb, wrap_i64]
          exact AGo.again ih (m' := 6) (by omega) (HLe.refl _) ⟨1, by omega, rfl, by simp [r0], by simp [r2], by simp [r4, nmL], by simp, lt_succ_all (P := fun q : Nat => nmL.getD (2 * q) [] ≠ s) hne hs, rfl⟩
      · skip
        by_cases hs : nDaily = s
        · subst hs
          have e : cronK nDaily = cronB xDaily := cronK_name (by decide) (by decide) (by decide)
          have hpl := c_ref7Plain (H := K) xDaily (by decide) (.inr ⟨by decide, by decide⟩)
          rw [if_neg (by decide)] at hpl
          rw [e]
          simp -implicitDefEqProofs [r0, r2, r4, r5, nmL, wrap_i64]
          refine ACall.eq hpl ?_
          simp -implicitDefEqProofs [r2, k2]
          exact HWk.new h2 kW
        · have hb : (nDaily == s) = false := by simpa using hs
          simp -implicitDefEqProofs [r0, r2, r4, r5, nmL, hb, wrap_i64]
          exact AGo.again ih (m' := 5) (by omega) (HLe.refl _) ⟨2, by omega, rfl, by simp [r0], by simp [r2], by simp [r4, nmL], by simp, lt_succ_all (P := fun q : Nat => nmL.getD (2 * q) [] ≠ s) hne hs, rfl⟩
      · skip
        by_cases hs : nMidnight = s
        · subst hs
          have e : cronK nMidnight = cronB xDaily := cronK_name (by decide) (by decide) (by decide)
          have hpl := c_ref7Plain (H := K) xDaily (by decide) (.inr ⟨by decide, by decide⟩)
          rw [if_neg (by decide)] at hpl
          rw [e]
          simp -implicitDefEqProofs [r0, r2, r4, r5, nmL, wrap_i64]
          refine ACall.eq hpl ?_
          simp -implicitDefEqProofs [r2, k2]
          exact HWk.new h2 kW
        · have hb : (nMidnight == s) = false := by simpa using hs
          simp -implicitDefEqProofs [r0, r2, r4, r5, nmL, hb, wrap_i64]
          exact AGo.again ih (m' := 4) (by omega) (HLe.refl _) ⟨3, by omega, rfl, by simp [r0], by simp [r2], by simp [r4, nmL], by simp, lt_succ_all (P := fun q : Nat => nmL.getD (2 * q) [] ≠ s) hne hs, rfl⟩
      · skip
        by_cases hs : nWeekly = s
        · subst hs
          have e : cronK nWeekly = cronB xWeekly := cronK_name (by decide) (by decide) (by decide)
          have hpl := c_ref7Plain (H := K) xWeekly (by decide) (.inr ⟨by decide, by decide⟩)
          rw [if_neg (by decide)] at hpl
          rw [e]
          simp -implicitDefEqProofs [r0, r2, r4, r5, nmL, wrap_i64]
          refine ACall.eq hpl ?_
          simp -implicitDefEqProofs [r2, k2]
          exact HWk.new h2 kW
        · have hb : (nWeekly == s) = false := by simpa using hs
          simp -implicitDefEqProofs [r0, r2, r4, r5, nmL, hb, wrap_i64]
          exact AGo.again ih (m' := 3) (by omega) (HLe.refl _) ⟨4, by omega, rfl, by simp [r0], by simp [r2], by simp [r4, nmL], by simp, lt_succ_all (P := fun q : Nat => nmL.getD (2 * q) [] ≠ s) hne hs, rfl⟩
      · skip
        by_cases hs : nMonthly = s
        · subst hs
          have e : cronK nMonthly = cronB xMonthly := cronK_name (by decide) (by decide) (by decide)
          have hpl := c_ref7Plain (H := K) xMonthly (by decide) (.inr ⟨by decide, by decide⟩)
          rw [if_neg (by decide)] at hpl
          rw [e]
          simp -implicitDefEqProofs [r0, r2, r4, r5, nmL, wrap_i64]
          refine ACall.eq hpl ?_
          simp -implicitDefEqProofs [r2, k2]
          exact HWk.new h2 kW
        · have hb : (nMonthly == s) = false := by simpa using hs
          simp -implicitDefEqProofs [r0, r2, r4, r5, nmL, hb, wrap_i64]
          exact AGo.again ih (m' := 2) (by omega) (HLe.refl _) ⟨5, by omega, rfl, by simp [r0], by simp [r2], by simp [r4, nmL], by simp, lt_succ_all (P := fun q : Nat => nmL.getD (2 * q) [] ≠ s) hne hs, rfl⟩
      · skip
        by_cases hs : nYearly = s
        · subst hs
          have e : cronK nYearly = cronB xYearly := cronK_name (by decide) (by decide) (by decide)
          have hpl := c_ref7Plain (H := K) xYearly (by decide) (.inr ⟨by decide, by decide⟩)
          rw [if_neg (by decide)] at hpl
          rw [e]
          simp -implicitDefEqProofs [r0, r2, r4, r5, nmL, wrap_i64]
          refine ACall.eq hpl ?_
          simp -implicitDefEqProofs [r2, k2]
          exact HWk.new h2 kW
        · have hb : (nYearly == s) = false := by simpa using hs
          simp -implicitDefEqProofs [r0, r2, r4, r5, nmL, hb, wrap_i64]
          exact AGo.again ih (m' := 1) (by omega) (HLe.refl _) ⟨6, by omega, rfl, by simp [r0], by simp [r2], by simp [r4, nmL], by simp, lt_succ_all (P := fun q : Nat => nmL.getD (2 * q) [] ≠ s) hne hs, rfl⟩
      · skip
        by_cases hs : nAnnually = s
        · subst hs
          have e : cronK nAnnually = cronB xYearly := cronK_name (by decide) (by decide) (by decide)
          have hpl := c_ref7Plain (H := K) xYearly (by decide) (.inr ⟨by decide, by decide⟩)
          rw [if_neg (by decide)] at hpl
          rw [e]
          simp -implicitDefEqProofs [r0, r2, r4, r5, nmL, wrap_i64]
          refine ACall.eq hpl ?_
          simp -implicitDefEqProofs [r2, k2]
          exact HWk.new h2 kW
        · have hb : (nAnnually == s) = false := by simpa using hs
          simp -implicitDefEqProofs [r0, r2, r4, r5, nmL, hb, wrap_i64]
          exact AGo.again ih (m' := 0) (by omega) (HLe.refl _) ⟨7, by omega, rfl, by simp [r0], by simp [r2], by simp [r4, nmL], by simp, lt_succ_all (P := fun q : Nat => nmL.getD (2 * q) [] ≠ s) hne hs, rfl⟩
      · have e : cronK s = (ex0, 70) := by
          unfold cronK
          rw [if_neg hl, if_pos hp, namedL_none hne]
          rfl
        rw [e]
        simp -implicitDefEqProofs [r4, r5, r2, nmL, k2, ex0, f0]
        exact HWk.new h2 kW
end Go.Proofs.YtmoncokklkiikaaGreatDoor
namespace Go.Proofs.YtmoncokklkiikaaGreatDoor
open Rg Go
variable {H : Heap}
theorem leap_bits (y : Nat) : leapN y = (decide (y % 400 = 0) || (!decide (y % 100 = 0) && decide (y % 4 = 0))) := by
  unfold leapN
  rw [Bool.eq_iff_iff]
  simp
  omega
theorem c_ref4Leap (y : Nat) : AOk Tryz.prog 158 [.sc (.int .i64 y)] H (.sc (.bool (leapN y))) H := by
  obtain ⟨a, ha⟩ : ∃ x, y % 400 = x := ⟨_, rfl⟩
  obtain ⟨b, hb⟩ : ∃ x, y % 100 = x := ⟨_, rfl⟩
  obtain ⟨c, hc⟩ : ∃ x, y % 4 = x := ⟨_, rfl⟩
  have e1 : (y : Int).tmod 400 = (a : Int) := wmod (b := 400) ha
  have e2 : (y : Int).tmod 100 = (b : Int) := wmod (b := 100) hb
  have e3 : (y : Int).tmod 4 = (c : Int) := wmod (b := 4) hc
  rw [leap_bits, ha, hb, hc]
  refine ACalls.into Tryz.func158 rfl Tryz.ntmps158 Tryz.results158 (by simp) ?_
  by_cases h1 : a = 0
  · simp -implicitDefEqProofs [e1, h1]
  · by_cases h2 : b = 0
    · simp -implicitDefEqProofs [e1, e2, h1, h2]
    · simp -implicitDefEqProofs [e1, e2, e3, h1, h2]
theorem c_ref4Long {y m : Nat} (h1 : 1 ≤ m) (h2 : m ≤ 12) : AOk Tryz.prog 159 [.sc (.int .i64 y), .sc (.int .i64 m)] H (.sc (.int .i64 (mLong y m))) H := by
  refine ACalls.into Tryz.func159 rfl Tryz.ntmps159 Tryz.results159 (by simp) ?_
  have hc : m = 2 ∨ m = 1 ∨ m = 3 ∨ m = 4 ∨ m = 5 ∨ m = 6 ∨ m = 7 ∨ m = 8 ∨ m = 9 ∨ m = 10 ∨ m = 11 ∨ m = 12 := by omega
  rcases hc with rfl | hc
  · simp -implicitDefEqProofs
    refine ACall.eq (c_ref4Leap y) ?_
    cases hl : leapN y <;> simp -implicitDefEqProofs [mLong, hl]
  · rcases hc with rfl | rfl | rfl | rfl | rfl | rfl | rfl | rfl | rfl | rfl | rfl <;> simp -implicitDefEqProofs [mLong]
theorem c_ref4Weekday (n : Nat) (hn : n < 1000000000) : AOk Tryz.prog 110 [.sc (.int .i64 n)] H (.sc (.int .i64 ((n + 4) % 7 : Nat))) H := by
  refine ACalls.into Tryz.func110 rfl Tryz.ntmps110 Tryz.results110 (by simp) ?_
  obtain ⟨r, hr⟩ : ∃ r, n % 7 = r := ⟨_, rfl⟩
  obtain ⟨r', hr'⟩ : ∃ x, r + 4 = x := ⟨_, rfl⟩
  obtain ⟨q, hq⟩ : ∃ x, (n + 4) % 7 = x := ⟨_, rfl⟩
  rw [hq]
  have e1 : (n : Int).tmod 7 = (r : Int) := wmod (b := 7) hr
  have e2 : IntKind.i64.wrap ((r : Int) + 4) = (r' : Int) := wadd (b := 4) hr' (by omega)
  have e3 : (r' : Int).tmod 7 = (q : Int) := wmod (b := 7) (by omega)
  simp -implicitDefEqProofs [e1, e2, e3]
def yearLen (y : Nat) : Nat := if leapN y = true then 366 else 365
def okY (j : Nat) : Bool := decide (mFirst (12 * (j + 1)) = mFirst (12 * j) + yearLen (1970 + j))
def okYs : Nat → Bool
  | 0 => true
  | j + 1 => okY j && okYs j
theorem okYs_true : okYs 430 = true := by decide +kernel
theorem okYs_at : ∀ {k j : Nat}, okYs k = true → j < k → okY j = true
  | 0, j, _, h => by omega
  | k + 1, j, h, hj => by
    simp only [okYs, Bool.and_eq_true] at h
    by_cases he : j = k
    · subst he; exact h.1
    · exact okYs_at h.2 (by omega)
theorem year_succ {j : Nat} (hj : j < 430) : mFirst (12 * (j + 1)) = mFirst (12 * j) + yearLen (1970 + j) := by simpa [okY] using okYs_at okYs_true hj
theorem c_ref4Of {n : Nat} (hn : n < 157054) : AOk Tryz.prog 111 [.sc (.int .i64 n)] H (.tup [dAV (civ n).1 (civ n).2.1 (civ n).2.2, .sc (.int .i64 0)]) H := by
  obtain ⟨i, d, hi, hd, hnd⟩ := day_of hn
  have hciv : civ n = (1970 + i / 12, i % 12 + 1, d + 1) := by rw [hnd]; exact civ_at hi hd
  rw [hciv]
  have hml := mLen_le i
  simp only
  obtain ⟨Y0, hY0⟩ : ∃ x, 1970 + i / 12 = x := ⟨_, rfl⟩
  obtain ⟨M0, hM0⟩ : ∃ x, i % 12 + 1 = x := ⟨_, rfl⟩
  obtain ⟨D0, hD0⟩ : ∃ x, d + 1 = x := ⟨_, rfl⟩
  rw [hY0, hM0, hD0]
  refine ACalls.into Tryz.func111 rfl Tryz.ntmps111 Tryz.results111 (by simp) ?_
  simp -implicitDefEqProofs
  refine AAlloc.intro fun b2 h2 => ?_
  have hW : ∀ o, HWk H (H.set b2 o) := fun o => HWk.new h2 (HWk.refl _)
  simp -implicitDefEqProofs
  generalize hK : Heap.set _ b2 _ = K0
  have k2 : K0 b2 = some (.cells [.sc (.int .i64 0), .sc (.int .i64 0), .sc (.int .i64 0)] 46) := by rw [← hK]; simp [Heap.set]
  have kW : HWk H K0 := by rw [← hK]; exact hW _
  clear hK
  obtain ⟨Z0, hZ0⟩ : ∃ x, n - mFirst (12 * (i / 12)) = x := ⟨_, rfl⟩
  refine AGo.joinLoop (fun ρ K => K = K0 ∧ ρ 2 = .sc (.pointer (some ⟨b2, 0, none⟩)) ∧ ρ 4 = .sc (.int .i64 Y0) ∧ ρ 0 = .sc (.int .i64 Z0)) (fun k' hk' => ?_) ?_
  · refine AGo.rounds (fun m ρ K => ∃ j Y Z : Nat, j ≤ i / 12 ∧ m = 430 - j ∧ Y = 1970 + j ∧ Z = n - mFirst (12 * j) ∧ ρ 2 = .sc (.pointer (some ⟨b2, 0, none⟩)) ∧ ρ 4 = .sc (.int .i64 Y) ∧ ρ 0 = .sc (.int .i64 Z) ∧ K = K0) ?_ (m := 430) (HLe.refl _)
      ⟨0, 1970, n, by omega, rfl, rfl, by rw [show 12 * 0 = 0 from rfl, mFirst_zero]; rfl, by simp, by simp, by simp, rfl⟩
    rintro m ρ K ih ⟨j, Y, Z, hj, rfl, hY, hZ, r2, r4, r0, rfl⟩
    have hj4 : j < 430 := by omega
    have hys := year_succ hj4
    have hb1 : mFirst (12 * j) ≤ mFirst i := mFirst_mono (by omega) (by omega)
    have hmx : mFirst i + d < 157054 := by omega
    rw [← hY] at hys
    have c1 : (Y : Int) ≤ 2399 := by omega
    obtain ⟨Y', hY'⟩ : ∃ x, x = 1970 + (j + 1) := ⟨_, rfl⟩
    obtain ⟨Z', hZ'⟩ : ∃ x, x = n - mFirst (12 * (j + 1)) := ⟨_, rfl⟩
    have hwY : IntKind.i64.wrap ((Y : Int) + 1) = (Y' : Int) := wadd (b := 1) (by omega) (by omega)
    obtain ⟨L, hL⟩ : ∃ x, yearLen Y = x := ⟨_, rfl⟩
    rw [hL] at hys
    simp -implicitDefEqProofs [r4, c1]
    refine ACall.eq (c_ref4Leap Y) ?_
    by_cases hlast : j = i / 12
    · have hup : n < mFirst (12 * (j + 1)) := by
        have h3 := mFirst_mono (i := i + 1) (j := 12 * (j + 1)) (by omega) (by omega)
        rw [mFirst_succ hi] at h3
        omega
      have hlt : (Z : Int) < (L : Int) := by omega
      have eY : Y = Y0 := by omega
      have eZ : Z = Z0 := by rw [hlast] at hZ; omega
      cases hl : leapN Y with
      | true =>
        have hL2 : L = 366 := by rw [← hL]; unfold yearLen; rw [if_pos hl]
        have hlt2 : (Z : Int) < 366 := by omega
        have hlt3 : Z < 366 := by omega
        simp -implicitDefEqProofs [r0, hlt2, hlt3]
        exact hk' _ _ ⟨rfl, by simp [r2], by simp [r4, eY], by simp [r0, eZ]⟩
      | false =>
        have hL2 : L = 365 := by rw [← hL]; unfold yearLen; rw [if_neg (by simp [hl])]
        have hlt2 : (Z : Int) < 365 := by omega
        have hlt3 : Z < 365 := by omega
        simp -implicitDefEqProofs [r0, hlt2, hlt3]
        exact hk' _ _ ⟨rfl, by simp [r2], by simp [r4, eY], by simp [r0, eZ]⟩
    · have hup : mFirst (12 * (j + 1)) ≤ mFirst i := mFirst_mono (by omega) (by omega)
      have hlt : ¬ (Z : Int) < (L : Int) := by omega
      have hwZ : IntKind.i64.wrap ((Z : Int) - (L : Int)) = (Z' : Int) := wsub (by omega) (by omega) (by omega)
      cases hl : leapN Y with
      | true =>
        have hL2 : L = 366 := by rw [← hL]; unfold yearLen; rw [if_pos hl]
        have hlt2 : ¬ (Z : Int) < 366 := by omega
        have hlt3 : ¬ Z < 366 := by omega
        have hwZ2 : IntKind.i64.wrap ((Z : Int) - 366) = (Z' : Int) := wsub (b := 366) (by omega) (by omega) (by omega)
        simp -implicitDefEqProofs [r0, r4, hlt2, hlt3, hwZ2, hwY]
        exact AGo.again ih (m' := 430 - (j + 1)) (by omega) (HLe.refl _) ⟨j + 1, Y', Z', by omega, rfl, hY', hZ', by simp [r2], by simp, by simp, rfl⟩
      | false =>
        have hL2 : L = 365 := by rw [← hL]; unfold yearLen; rw [if_neg (by simp [hl])]
        have hlt2 : ¬ (Z : Int) < 365 := by omega
        have hlt3 : ¬ Z < 365 := by omega
        have hwZ2 : IntKind.i64.wrap ((Z : Int) - 365) = (Z' : Int) := wsub (b := 365) (by omega) (by omega) (by omega)
        simp -implicitDefEqProofs [r0, r4, hlt2, hlt3, hwZ2, hwY]
        exact AGo.again ih (m' := 430 - (j + 1)) (by omega) (HLe.refl _) ⟨j + 1, Y', Z', by omega, rfl, hY', hZ', by simp [r2], by simp, by simp, rfl⟩
  · rintro ρ K ⟨rfl, r2, r4, r0⟩
    have c1 : ¬ (2399 : Int) < (Y0 : Int) := by omega
    have c1' : ¬ 2399 < Y0 := by omega
    simp -implicitDefEqProofs [r4, c1, c1']
    refine AGo.rounds (fun m ρ K2 => ∃ q Z : Nat, q ≤ i % 12 ∧ m = 12 - q ∧ Z = n - mFirst (12 * (i / 12) + q) ∧ ρ 2 = .sc (.pointer (some ⟨b2, 0, none⟩)) ∧ ρ 4 = .sc (.int .i64 Y0) ∧ ρ 6 = .sc (.int .i64 (q + 1 : Nat)) ∧ ρ 0 = .sc (.int .i64 Z) ∧ K2 = K) ?_ (m := 12) (HLe.refl _)
      ⟨0, Z0, by omega, rfl, hZ0.symm, by simp [r2], by simp [r4], by simp, by simp [r0], rfl⟩
    rintro m ρ K2 ih ⟨q, Z, hq, rfl, hZ, r2, r4, r6, r0, rfl⟩
    have hq12 : q < 12 := by omega
    have hil : 12 * (i / 12) + q < 5160 := by omega
    have hms := mFirst_succ hil
    have hlen : mLen (12 * (i / 12) + q) = mLong Y0 (q + 1) := by
      unfold mLen
      rw [show (12 * (i / 12) + q) / 12 = i / 12 by omega, show (12 * (i / 12) + q) % 12 = q by omega, hY0]
    rw [hlen] at hms
    have hb1 : mFirst (12 * (i / 12) + q) ≤ mFirst i := mFirst_mono (by omega) (by omega)
    obtain ⟨q1, hq1⟩ : ∃ x, q + 1 = x := ⟨_, rfl⟩
    rw [hq1] at r6 hms
    obtain ⟨L, hL⟩ : ∃ x, mLong Y0 q1 = x := ⟨_, rfl⟩
    rw [hL] at hms
    simp -implicitDefEqProofs [r0, r4, r6]
    refine ACall.eq (c_ref4Long (y := Y0) (m := q1) (by omega) (by omega)) ?_
    rw [hL]
    by_cases hlast : q = i % 12
    · have hii : 12 * (i / 12) + q = i := by omega
      have hZd : Z = d := by rw [hZ, hii]; omega
      have hLd : d < L := by rw [← hL, ← hq1, ← hlen, hii]; exact hd
      have hlt : ¬ (L : Int) ≤ (Z : Int) := by omega
      have hlt' : ¬ L ≤ Z := by omega
      have hw : IntKind.i64.wrap ((Z : Int) + 1) = (D0 : Int) := wadd (b := 1) (by omega) (by omega)
      have hq1' : M0 = q1 := by omega
      rw [hq1']
      simp -implicitDefEqProofs [r0, r2, r4, r6, hlt, hlt', hw, k2]
      exact HWk.new h2 kW
    · have hup : mFirst (12 * (i / 12) + q + 1) ≤ mFirst i := mFirst_mono (by omega) (by omega)
      have hlt : (L : Int) ≤ (Z : Int) := by omega
      have hlt' : L ≤ Z := by omega
      obtain ⟨Z', hZ'⟩ : ∃ x, x = n - mFirst (12 * (i / 12) + (q + 1)) := ⟨_, rfl⟩
      have hms' : mFirst (12 * (i / 12) + (q + 1)) = mFirst (12 * (i / 12) + q) + L := hms
      have hwZ : IntKind.i64.wrap ((Z : Int) - (L : Int)) = (Z' : Int) := wsub (by omega) (by omega) (by omega)
      have hw1 : IntKind.i64.wrap ((q1 : Int) + 1) = ((q1 + 1 : Nat) : Int) := wadd (b := 1) rfl (by omega)
      simp -implicitDefEqProofs [r0, r4, r6, hlt, hlt']
      refine ACall.eq (c_ref4Long (y := Y0) (m := q1) (by omega) (by omega)) ?_
      rw [hL]
      simp -implicitDefEqProofs [r0, r4, r6, hwZ, hw1]
      exact AGo.again ih (m' := 12 - (q + 1)) (by omega) (HLe.refl _) ⟨q + 1, Z', by omega, rfl, hZ', by simp [r2], by simp [r4], by simp [← hq1], by simp, rfl⟩
end Go.Proofs.YtmoncokklkiikaaGreatDoor
namespace Go.Proofs.YtmoncokklkiikaaGreatDoor
open Rg Go
variable {H : Heap}
theorem c_ref5Split {t : Nat} (ht : t < 13569465600) : AOk Tryz.prog 40 [.sc (.int .i64 t)] H (.tup [cAV (clk t), .sc (.int .i64 0)]) H := by
  obtain ⟨n, hn⟩ : ∃ x, t / 86400 = x := ⟨_, rfl⟩
  obtain ⟨s, hs⟩ : ∃ x, t % 60 = x := ⟨_, rfl⟩
  obtain ⟨a, ha⟩ : ∃ x, t / 60 = x := ⟨_, rfl⟩
  obtain ⟨m, hm⟩ : ∃ x, a % 60 = x := ⟨_, rfl⟩
  obtain ⟨b, hb⟩ : ∃ x, t / 3600 = x := ⟨_, rfl⟩
  obtain ⟨h, hh⟩ : ∃ x, b % 24 = x := ⟨_, rfl⟩
  have hn2 : n < 157054 := by omega
  have e1 : t % 3600 / 60 = m := by omega
  have e2 : t % 86400 / 3600 = h := by omega
  have w1 : IntKind.i64.wrap ((t : Int) / 86400) = (n : Int) := wdiv (b := 86400) hn (by omega)
  have w2 : (t : Int).tmod 60 = (s : Int) := wmod (b := 60) hs
  have w3 : IntKind.i64.wrap ((t : Int) / 60) = (a : Int) := wdiv (b := 60) ha (by omega)
  have w4 : (a : Int).tmod 60 = (m : Int) := wmod (b := 60) hm
  have w5 : IntKind.i64.wrap ((t : Int) / 3600) = (b : Int) := wdiv (b := 3600) hb (by omega)
  have w6 : (b : Int).tmod 24 = (h : Int) := wmod (b := 24) hh
  have wn : IntKind.i64.wrap (n : Int) = (n : Int) := wrap_i64 (by omega) (by omega)
  have c1 : ¬ (13569465600 : Int) ≤ (t : Int) := by omega
  have c1' : ¬ 13569465600 ≤ t := by omega
  have v1 : IntKind.i64.wrap (s : Int) = (s : Int) := wrap_i64 (by omega) (by omega)
  have v2 : IntKind.i64.wrap (m : Int) = (m : Int) := wrap_i64 (by omega) (by omega)
  have v3 : IntKind.i64.wrap (h : Int) = (h : Int) := wrap_i64 (by omega) (by omega)
  unfold clk
  rw [hn, e1, e2, hs]
  refine ACalls.into Tryz.func40 rfl Tryz.ntmps40 Tryz.results40 (by simp) ?_
  simp -implicitDefEqProofs
  refine AAlloc.intro fun b2 h2 => ?_
  simp -implicitDefEqProofs [w1, w2, w3, w4, w5, w6, wn, c1, c1', v1, v2, v3]
  refine AAlloc.intro fun b4 h4 => ?_
  have n42 : b4 ≠ b2 := by intro e; subst e; simp [Heap.set] at h4
  have n24 := n42.symm
  have e4 : H b4 = none := (HLe.set_fresh h2).none h4
  simp -implicitDefEqProofs [n42, n24, w1, wn]
  refine ACall.eq (c_ref4Of hn2) ?_
  simp -implicitDefEqProofs [n42, n24]
  refine AAlloc.intro fun b6 h6 => ?_
  have n62 : b6 ≠ b2 := by intro e; subst e; simp [Heap.set, n24] at h6
  have n64 : b6 ≠ b4 := by intro e; subst e; simp [Heap.set] at h6
  have n26 := n62.symm
  have n46 := n64.symm
  have e6 : H b6 = none := by simpa [Heap.set, n62, n64] using h6
  simp -implicitDefEqProofs [n42, n24, n62, n64, n26, n46]
  refine ACall.eq (c_ref4Weekday n (by omega)) ?_
  simp -implicitDefEqProofs [n42, n24, n62, n64, n26, n46]
  repeat (first | exact HWk.refl _ | refine HWk.new (by assumption) ?_)
end Go.Proofs.YtmoncokklkiikaaGreatDoor
namespace Go.Proofs.YtmoncokklkiikaaGreatDoor
open Rg Go
variable {H : Heap}
theorem c_ref7May (x : Ex) (hx : x.ok) : AOk Tryz.prog 30 [exAV x] H (.sc (.bool (mayX x))) H := by
  refine ACalls.into Tryz.func30 rfl Tryz.ntmps30 Tryz.results30 (by simp) ?_
  simp -implicitDefEqProofs
  refine AAlloc.intro fun b1 h1 => ?_
  simp -implicitDefEqProofs
  generalize hK : Heap.set _ b1 _ = K0
  have k1 : K0 b1 = some (.cells (exC x) 42) := by rw [← hK]; simp [Heap.set]
  have kW : HWk H K0 := by rw [← hK]; exact HWk.new h1 (HWk.refl _)
  clear hK
  refine AGo.rounds (fun m ρ K => ∃ j : Nat, j ≤ 5 ∧ m = 5 - j ∧ ρ 1 = .sc (.pointer (some ⟨b1, 0, none⟩)) ∧ ρ 3 = .sc (.int .i64 j) ∧ (∀ i, i < j → mayB (i : Int) (x.get i).bits = true) ∧ K = K0) ?_ (m := 5) (HLe.refl _)
    ⟨0, by omega, rfl, by simp, by simp, fun i hi => by omega, rfl⟩
  rintro m ρ K ih ⟨j, hj, rfl, r1, r3, hm, rfl⟩
  have hc : j = 0 ∨ j = 1 ∨ j = 2 ∨ j = 3 ∨ j = 4 ∨ j = 5 := by omega
  rcases hc with rfl | rfl | rfl | rfl | rfl | rfl
  · simp -implicitDefEqProofs [r1, r3, k1]
    refine ACall.eq (c_refMay 0 x.a hx.a) ?_
    cases he : mayB 0 x.a.bits with
    | false => simp -implicitDefEqProofs [mayX, he]; exact kW
    | true =>
      simp -implicitDefEqProofs [r3, wrap_i64]
      exact AGo.again ih (m' := 4) (by omega) (HLe.refl _) ⟨1, by omega, rfl, by simp [r1], by simp, lt_succ_all (P := fun i : Nat => mayB (i : Int) (x.get i).bits = true) hm he, rfl⟩
  · simp -implicitDefEqProofs [r1, r3, k1]
    refine ACall.eq (c_refMay 1 x.b hx.b) ?_
    cases he : mayB 1 x.b.bits with
    | false => simp -implicitDefEqProofs [mayX, he]; exact kW
    | true =>
      simp -implicitDefEqProofs [r3, wrap_i64]
      exact AGo.again ih (m' := 3) (by omega) (HLe.refl _) ⟨2, by omega, rfl, by simp [r1], by simp, lt_succ_all (P := fun i : Nat => mayB (i : Int) (x.get i).bits = true) hm he, rfl⟩
  · simp -implicitDefEqProofs [r1, r3, k1]
    refine ACall.eq (c_refMay 2 x.c hx.c) ?_
    cases he : mayB 2 x.c.bits with
    | false => simp -implicitDefEqProofs [mayX, he]; exact kW
    | true =>
      simp -implicitDefEqProofs [r3, wrap_i64]
      exact AGo.again ih (m' := 2) (by omega) (HLe.refl _) ⟨3, by omega, rfl, by simp [r1], by simp, lt_succ_all (P := fun i : Nat => mayB (i : Int) (x.get i).bits = true) hm he, rfl⟩
  · simp -implicitDefEqProofs [r1, r3, k1]
    refine ACall.eq (c_refMay 3 x.d hx.d) ?_
    cases he : mayB 3 x.d.bits with
    | false => simp -implicitDefEqProofs [mayX, he]; exact kW
    | true =>
      simp -implicitDefEqProofs [r3, wrap_i64]
      exact AGo.again ih (m' := 1) (by omega) (HLe.refl _) ⟨4, by omega, rfl, by simp [r1], by simp, lt_succ_all (P := fun i : Nat => mayB (i : Int) (x.get i).bits = true) hm he, rfl⟩
  · simp -implicitDefEqProofs [r1, r3, k1]
    refine ACall.eq (c_refMay 4 x.e hx.e) ?_
    cases he : mayB 4 x.e.bits with
    | false => simp -implicitDefEqProofs [mayX, he]; exact kW
    | true =>
      simp -implicitDefEqProofs [r3, wrap_i64]
      exact AGo.again ih (m' := 0) (by omega) (HLe.refl _) ⟨5, by omega, rfl, by simp [r1], by simp, lt_succ_all (P := fun i : Nat => mayB (i : Int) (x.get i).bits = true) hm he, rfl⟩
  · have g0 : mayB 0 x.a.bits = true := hm 0 (by omega)
    have g1 : mayB 1 x.b.bits = true := hm 1 (by omega)
    have g2 : mayB 2 x.c.bits = true := hm 2 (by omega)
    have g3 : mayB 3 x.d.bits = true := hm 3 (by omega)
    have g4 : mayB 4 x.e.bits = true := hm 4 (by omega)
    simp -implicitDefEqProofs [r1, r3, mayX, g0, g1, g2, g3, g4]
    exact kW
end Go.Proofs.YtmoncokklkiikaaGreatDoor
namespace Go.Proofs.YtmoncokklkiikaaGreatDoor
open Rg Go
variable {H : Heap}
theorem c_ref8Bad (x : Ex) (hx : x.ok) (t : Int) : AOk Tryz.prog 170 [exAV x, .sc (.int .i64 t)] H (.sc (.int .i64 (badE x t))) H := by
  refine ACalls.into Tryz.func170 rfl Tryz.ntmps170 Tryz.results170 (by simp) ?_
  simp -implicitDefEqProofs
  refine AAlloc.intro fun b2 h2 => ?_
  have hW : ∀ o, HWk H (H.set b2 o) := fun o => HWk.new h2 (HWk.refl _)
  simp -implicitDefEqProofs
  refine ACall.eq (c_ref7May x hx) ?_
  unfold badE
  cases hm : mayX x with
  | false =>
    simp -implicitDefEqProofs
    exact hW _
  | true =>
    by_cases h1 : t < 0
    · simp -implicitDefEqProofs [h1]
      exact hW _
    · by_cases h2 : 13569465600 ≤ t
      · simp -implicitDefEqProofs [h1, h2]
        exact hW _
      · simp -implicitDefEqProofs [h1, h2]
        exact hW _
theorem c_ref8Fits (x : Ex) (hx : x.ok) {n : Nat} (Y M Dd : Nat) (w : Nat) (hc : civ n = (Y, M, Dd)) (hw : (n + 4) % 7 = w) : AOk Tryz.prog 210 [exAV x, dAV Y M Dd, .sc (.int .i64 w)] H (.sc (.bool (dayB x n))) H := by
  unfold dayB
  rw [hc, hw]
  simp only
  refine ACalls.into Tryz.func210 rfl Tryz.ntmps210 Tryz.results210 (by simp) ?_
  simp -implicitDefEqProofs
  refine AAlloc.intro fun b3 h3 => ?_
  simp -implicitDefEqProofs
  refine AAlloc.intro fun b4 h4 => ?_
  have n43 : b4 ≠ b3 := by intro e; subst e; simp [Heap.set] at h4
  have n34 := n43.symm
  have e4 : H b4 = none := (HLe.set_fresh h3).none h4
  simp -implicitDefEqProofs [n34, n43]
  generalize hK : Heap.set _ b4 _ = K
  have k3 : K b3 = some (.cells (exC x) 42) := by rw [← hK]; simp [Heap.set, n34]
  have k4 : K b4 = some (.cells [.sc (.int .i64 Y), .sc (.int .i64 M), .sc (.int .i64 Dd)] 46) := by rw [← hK]; simp [Heap.set]
  have kW : HWk H K := by rw [← hK]; exact HWk.new e4 (HWk.new h3 (HWk.refl _))
  clear hK
  refine ACall.eq (c_refHas x.c Dd hx.c) ?_
  simp -implicitDefEqProofs [k3, k4]
  refine ACall.eq (c_refHas x.e w hx.e) ?_
  simp -implicitDefEqProofs [k3, k4]
  refine ACall.eq (c_refHas x.d M hx.d) ?_
  obtain ⟨day, hday⟩ : ∃ z, hasB x.c.bits (Dd : Int) = z := ⟨_, rfl⟩
  obtain ⟨week, hweek⟩ : ∃ z, hasB x.e.bits (w : Int) = z := ⟨_, rfl⟩
  obtain ⟨mon, hmon⟩ : ∃ z, hasB x.d.bits (M : Int) = z := ⟨_, rfl⟩
  rw [hday, hweek, hmon]
  cases hsc : x.c.star with
  | true => cases mon <;> cases day <;> cases week <;> simp -implicitDefEqProofs [k3, hsc] <;> exact kW
  | false =>
    cases hse : x.e.star with
    | true => cases mon <;> cases day <;> cases week <;> simp -implicitDefEqProofs [k3, hsc, hse] <;> exact kW
    | false => cases mon <;> cases day <;> cases week <;> simp -implicitDefEqProofs [k3, hsc, hse] <;> exact kW
end Go.Proofs.YtmoncokklkiikaaGreatDoor
namespace Go.Proofs.YtmoncokklkiikaaGreatDoor
open Rg Go Go.RowKit
variable {W0 w : World} {C : Com} {H : Heap}
def GlobT (H : Heap) : Prop := ∃ us, H 0 = some (.ro us) ∧ ∀ j, j < Lib.deBruijn64tab.length → us[j]? = some (.int .u8 (Lib.deBruijn64tab.getD j 0))
theorem GlobT.wk {H K : Heap} (h : GlobT H) (hk : HLe H K) : GlobT K := by
  obtain ⟨us, h1, h2⟩ := h
  exact ⟨us, hk _ _ h1, h2⟩
theorem GlobT.new {H : Heap} {b : Nat} {o : AObj} (h : GlobT H) (hb : H b = none) : GlobT (H.set b o) := h.wk (HLe.set_fresh hb)
theorem GlobT.tab (h : GlobT H) (hi : Inv W0 C H w) : TabAt 0 Lib.deBruijn64tab w := by
  obtain ⟨u, h1, g1⟩ := h
  exact fun j hj => hi.ro h1 (g1 j hj)
theorem c_ctz64T (hG : GlobT H) (x : Nat) (hx : x < 18446744073709551616) : AOk Tryz.prog 191 [.sc (.int .u64 x)] H (.sc (.int .i64 (Lib.ctz 64 x))) H :=
  AOk.kit (vs := [.int .u64 x]) (r := .int .i64 (Lib.ctz 64 x)) fun W0 C w hi => (Any7.bits_TrailingZeros64 Tryz.lays7x29 x hx w (fun _ => hG.tab hi)).mono fun e w' ⟨h1, h2⟩ => ⟨h1, h2 ▸ Below.refl _ _⟩
theorem c_firstT (hG : GlobT H) (f : Fld) (n : Int) (hf : f.bits < 18446744073709551616) : AOk Tryz.prog 152 [fAV f, .sc (.int .i64 n)] H (optAV (firstB f.bits n)) H := by
  rw [firstB_eq]
  have hmax : (if 0 < n then n else 0) = (n.toNat : Int) := by split <;> omega
  generalize n.toNat = m at *
  refine ACalls.into Tryz.func152 rfl Tryz.ntmps152 Tryz.results152 (by simp) ?_
  simp -implicitDefEqProofs [fAV]
  refine AAlloc.intro fun b hb => ?_
  by_cases h1 : 63 < m
  · have h1' : (63 : Int) < m := by omega
    simp -implicitDefEqProofs [hmax, h1, h1', optAV]
    exact HWk.new hb (HWk.refl _)
  · have h1' : ¬ (63 : Int) < m := by omega
    have hm : min m 64 = m := by omega
    have hsh := shr_lt m hf
    by_cases h2 : shr f.bits m = 0
    · simp -implicitDefEqProofs [hmax, h1, h1', hm, shr_nat, h2, optAV]
      exact HWk.new hb (HWk.refl _)
    · simp -implicitDefEqProofs [hmax, h1, h1', hm, shr_nat, h2]
      refine ACall.eq (c_ctz64T (hG.new hb) _ hsh) ?_
      have hc := ctz_le _ hsh
      have hw : IntKind.i64.wrap ((m : Int) + (Lib.ctz 64 (shr f.bits m) : Nat)) = ((m + Lib.ctz 64 (shr f.bits m) : Nat) : Int) := by rw [wrap_i64 (by omega) (by omega)]; push_cast; rfl
      simp -implicitDefEqProofs [hw, optAV]
      exact HWk.new hb (HWk.refl _)
def fromAV : Option Nat → AV
  | some n => .tup [.sc (.int .i64 (n : Int)), .sc (.bool true)]
  | none => .tup [.sc (.int .i64 0), .sc (.bool false)]
set_option maxHeartbeats 2000000 in
theorem c_from (hG : GlobT H) {x : Ex} (hx : x.ok) (hm : mayX x = true) {t T : Nat} (ht : t < 13569465600) (hT : t / 60 * 60 + 60 = T) {r : Option Nat} (hr : IsNext x t r) : AOk Tryz.prog 104 [exAV x, .sc (.int .i64 T)] H (fromAV r) H := by
  obtain ⟨n0, hn0⟩ : ∃ d, T / 86400 = d := ⟨_, rfl⟩
  obtain ⟨m0, hm0⟩ : ∃ d, T % 86400 = d := ⟨_, rfl⟩
  obtain ⟨m1, hm1⟩ : ∃ d, m0 / 60 = d := ⟨_, rfl⟩
  have hO := outN_init (x := x) ht
  rw [hT, hn0, hm0, hm1] at hO
  have hT2 : T < 13569465661 := by omega
  clear hT
  obtain ⟨hba, hbb⟩ := bits_ok hx hm
  have w1 : IntKind.i64.wrap ((T : Int) / 86400) = (n0 : Int) := wdiv (b := 86400) hn0 (by omega)
  have w2 : (T : Int).tmod 86400 = (m0 : Int) := wmod (b := 86400) hm0
  have w3 : IntKind.i64.wrap ((m0 : Int) / 60) = (m1 : Int) := wdiv (b := 60) hm1 (by omega)
  refine ACalls.into Tryz.func104 rfl Tryz.ntmps104 Tryz.results104 (by simp) ?_
  simp -implicitDefEqProofs
  refine AAlloc.intro fun b2 h2 => ?_
  simp -implicitDefEqProofs
  generalize hK : Heap.set _ b2 _ = K0
  have k2 : K0 b2 = some (.cells (exC x) 42) := by rw [← hK]; simp [Heap.set]
  have kG : GlobT K0 := by rw [← hK]; exact hG.new h2
  have kW : HWk H K0 := by rw [← hK]; exact HWk.new h2 (HWk.refl _)
  clear hK
  simp -implicitDefEqProofs [w1, w2, w3]
  refine AGo.rounds (fun m ρ K => ∃ (n mm : Nat), m = 157054 - n ∧ OutN x t n mm ∧ ρ 2 = .sc (.pointer (some ⟨b2, 0, none⟩)) ∧ ρ 6 = .sc (.int .i64 n) ∧ ρ 7 = .sc (.int .i64 mm) ∧ K b2 = some (.cells (exC x) 42) ∧ GlobT K ∧ HWk H K) ?_ (m := 157054 - n0) (HLe.refl _)
    ⟨n0, m1, rfl, hO, by simp, by simp, by simp, k2, kG, kW⟩
  clear kG kW k2 hO
  rintro m ρ K ih ⟨n, mm, rfl, hO, r2, r6, r7, k2, kG, kW⟩
  by_cases hn : n < 157054
  · have hnI : (n : Int) < 157054 := by omega
    have hmm : mm ≤ 1439 := hO.1
    have hoM := fun h => outN_month hO hn h
    have hcm := civ_month hn
    simp -implicitDefEqProofs [r6, hn, hnI]
    refine ACall.eq (c_of hn) ?_
    generalize civ n = cv at *
    obtain ⟨Y, M, Dd⟩ := cv
    simp only at hcm hoM
    simp -implicitDefEqProofs
    refine AAlloc.intro fun b9 h9 => ?_
    have n29 : b2 ≠ b9 := by intro e; subst e; rw [k2] at h9; cases h9
    have n92 := n29.symm
    simp -implicitDefEqProofs [r2, n29, n92, k2]
    generalize hK : Heap.set K b9 _ = K1
    have k21 : K1 b2 = some (.cells (exC x) 42) := by rw [← hK]; simp [Heap.set, n29, k2]
    have k9 : K1 b9 = some (.cells [.sc (.int .i64 Y), .sc (.int .i64 M), .sc (.int .i64 Dd)] 46) := by rw [← hK]; simp [Heap.set]
    have kG1 : GlobT K1 := by rw [← hK]; exact kG.new h9
    have kW1 : HWk H K1 := by rw [← hK]; exact HWk.new (kW.none h9) kW
    clear hK
    obtain ⟨nn, hnn⟩ : ∃ q, n + 1 = q := ⟨_, rfl⟩
    have w7 : IntKind.i64.wrap ((n : Int) + 1) = (nn : Int) := wadd (b := 1) hnn (by omega)
    refine ACall.eq (c_has x.d M hx.d) ?_
    cases hM : hasB x.d.bits M with
    | false =>
      have hlong : longI (Y : Int) (M : Int) = (mLong Y M : Int) := long_nat Y (by omega) (by omega)
      have hO' := hoM hM
      generalize mLong Y M = L at *
      obtain ⟨q1, hq1⟩ : ∃ q, L - Dd = q := ⟨_, rfl⟩
      obtain ⟨q2, hq2⟩ : ∃ q, n + q1 = q := ⟨_, rfl⟩
      obtain ⟨q3, hq3⟩ : ∃ q, q2 + 1 = q := ⟨_, rfl⟩
      have w4 : IntKind.i64.wrap ((L : Int) - (Dd : Int)) = (q1 : Int) := wsub hq1 (by omega) (by omega)
      have w5 : IntKind.i64.wrap ((n : Int) + (q1 : Int)) = (q2 : Int) := wadd hq2 (by omega)
      have w6 : IntKind.i64.wrap ((q2 : Int) + 1) = (q3 : Int) := wadd (b := 1) hq3 (by omega)
      rw [hq1, hq2, hq3] at hO'
      simp -implicitDefEqProofs
      refine go_draw 11 f_mixed (by decide +kernel) ?_
      simp -implicitDefEqProofs [r6, k9]
      refine AQS.eq (c_long (Y : Int) (M : Int)) ?_
      rw [hlong]
      simp -implicitDefEqProofs [r6, k9, w4, w5, w6]
      exact AGo.again ih (m' := 157054 - q3) (by omega) (HLe.refl _) ⟨q3, 0, rfl, hO', by simp [r2], by simp, by simp, k21, kG1, kW1⟩
    | true =>
      simp -implicitDefEqProofs [r2, r6, k21]
      refine ACall.eq (c_nfits x hx hn) ?_
      rw [hm]
      cases hdb : dayB x n with
      | false =>
        have hO' := outN_day hO hn hdb
        rw [hnn] at hO'
        simp -implicitDefEqProofs [r6, w7]
        exact AGo.again ih (m' := 157054 - nn) (by omega) (HLe.refl _) ⟨nn, 0, rfl, hO', by simp [r2], by simp, by simp, k21, kG1, kW1⟩
      | true =>
        obtain ⟨hh, hhh⟩ : ∃ q, mm / 60 = q := ⟨_, rfl⟩
        have w8 : IntKind.i64.wrap ((mm : Int) / 60) = (hh : Int) := wdiv (b := 60) hhh (by omega)
        have hI := inN_init hO hn hdb
        rw [hhh] at hI
        simp -implicitDefEqProofs [r7, w8]
        refine AGo.rounds (fun m ρ K => ∃ (h m2 : Nat), m = 25 - h ∧ InN x t n h (m2 % 60) ∧ m2 ≤ 1439 ∧ ρ 2 = .sc (.pointer (some ⟨b2, 0, none⟩)) ∧ ρ 6 = .sc (.int .i64 n) ∧ ρ 7 = .sc (.int .i64 m2) ∧ ρ 10 = .sc (.int .i64 h) ∧ K = K1) ?_ (m := 25 - hh) (HLe.refl _)
          ⟨hh, mm, rfl, hI, hmm, by simp [r2], by simp [r6], by simp [r7], by simp, rfl⟩
        clear hI hmm hO r2 r6 r7 hoM
        rintro m' ρ' K ih2 ⟨h, m2, rfl, hI, hm2, r2, r6, r7, r10, rfl⟩
        simp -implicitDefEqProofs [r10, r2, k21]
        refine ACall.eq (c_firstT kG1 x.b h hx.b) ?_
        cases htb : firstB x.b.bits (h : Int) with
        | none =>
          have hno := firstB_none hx.b htb
          have hO' := inN_none hI (fun j hj => by
            by_cases j64 : j ≤ 63
            · rw [has_bit j64]; exact hno j (by simpa using hj)
            · unfold hasB; rw [decide_eq_false (by omega : ¬ (j : Int) ≤ 63)]; simp)
          rw [hnn] at hO'
          simp -implicitDefEqProofs [optAV, r6, w7]
          exact AGo.again ih (m' := 157054 - nn) (by omega) (HLe.refl _) ⟨nn, 0, rfl, hO', by simp [r2], by simp, by simp, k21, kG1, kW1⟩
        | some h' =>
          obtain ⟨g1, g0, g2, g3⟩ := firstB_some hx.b htb
          simp only [Int.toNat_natCast] at g1 g3
          have g4 := hbb h' g2
          have g2' : hasB x.b.bits (h' : Int) = true := by rw [has_bit g0]; exact g2
          simp -implicitDefEqProofs [optAV, r10]
          refine ABr.join (fun ρ K' => K' = K ∧ ∃ m3 : Nat, m3 ≤ 1439 ∧ InN x t n h' (m3 % 60) ∧ ρ 2 = .sc (.pointer (some ⟨b2, 0, none⟩)) ∧ ρ 6 = .sc (.int .i64 n) ∧ ρ 7 = .sc (.int .i64 m3) ∧ ρ 10 = .sc (.int .i64 h')) (fun k' hk' => ?_) ?_
          · by_cases hlt : h < h'
            · have hlt' : (h : Int) < (h' : Int) := by omega
              simp -implicitDefEqProofs [hlt, hlt']
              exact hk' _ _ ⟨rfl, 0, by omega, inN_up hI hlt (by omega) (fun j j1 j2 => by rw [has_bit (by omega)]; exact g3 j j1 j2), by simp [r2], by simp [r6], by simp, by simp⟩
            · obtain rfl : h' = h := by omega
              simp -implicitDefEqProofs
              exact hk' _ _ ⟨rfl, m2, hm2, hI, by simp [r2], by simp [r6], by simp [r7], by simp [r10]⟩
          · clear r2 r6 r7 r10
            rintro ρ2 K' ⟨rfl, m3, hm3, hI3, r2, r6, r7, r10⟩
            obtain ⟨m4, hm4⟩ : ∃ q, m3 % 60 = q := ⟨_, rfl⟩
            have w9 : (m3 : Int).tmod 60 = (m4 : Int) := wmod (b := 60) hm4
            rw [hm4] at hI3
            have hm59 : m4 ≤ 59 := hI3.1
            simp -implicitDefEqProofs [r2, r7, k21, w9]
            refine ACall.eq (c_firstT kG1 x.a m4 hx.a) ?_
            cases hta : firstB x.a.bits (m4 : Int) with
            | none =>
              have hno := firstB_none hx.a hta
              obtain ⟨h2, hh2⟩ : ∃ q, h' + 1 = q := ⟨_, rfl⟩
              have w10 : IntKind.i64.wrap ((h' : Int) + 1) = (h2 : Int) := wadd (b := 1) hh2 (by omega)
              have hI' := inN_min hI3 (by omega) (fun j hj => by
                by_cases j64 : j ≤ 63
                · rw [has_bit j64]; exact hno j (by simpa using hj)
                · unfold hasB; rw [decide_eq_false (by omega : ¬ (j : Int) ≤ 63)]; simp)
              rw [hh2] at hI'
              simp -implicitDefEqProofs [optAV, r10, w10]
              exact AGo.again ih2 (m' := 25 - h2) (by omega) (HLe.refl _) ⟨h2, 0, rfl, hI', by omega, by simp [r2], by simp [r6], by simp, by simp, rfl⟩
            | some m5 =>
              obtain ⟨f1, f0, f2, f3⟩ := firstB_some hx.a hta
              simp only [Int.toNat_natCast] at f1 f3
              have f4 := hba m5 f2
              have f2' : hasB x.a.bits (m5 : Int) = true := by rw [has_bit f0]; exact f2
              obtain rfl := next_one hr (inN_found hm hI3 (by omega) g2' f2' f1 (by omega) (fun j j1 j2 => by rw [has_bit (by omega)]; exact f3 j j1 j2))
              obtain ⟨P1, hP1⟩ : ∃ q, n * 86400 = q := ⟨_, rfl⟩
              obtain ⟨P2, hP2⟩ : ∃ q, h' * 3600 = q := ⟨_, rfl⟩
              obtain ⟨P3, hP3⟩ : ∃ q, P1 + P2 = q := ⟨_, rfl⟩
              obtain ⟨P4, hP4⟩ : ∃ q, m5 * 60 = q := ⟨_, rfl⟩
              obtain ⟨P5, hP5⟩ : ∃ q, P3 + P4 = q := ⟨_, rfl⟩
              have v1 : IntKind.i64.wrap ((n : Int) * 86400) = (P1 : Int) := wmul (b := 86400) hP1 (by omega)
              have v2 : IntKind.i64.wrap ((h' : Int) * 3600) = (P2 : Int) := wmul (b := 3600) hP2 (by omega)
              have v3 : IntKind.i64.wrap ((P1 : Int) + (P2 : Int)) = (P3 : Int) := wadd hP3 (by omega)
              have v4 : IntKind.i64.wrap ((m5 : Int) * 60) = (P4 : Int) := wmul (b := 60) hP4 (by omega)
              have v5 : IntKind.i64.wrap ((P3 : Int) + (P4 : Int)) = (P5 : Int) := wadd hP5 (by omega)
              rw [hP1, hP2, hP3, hP4, hP5]
              simp -implicitDefEqProofs [optAV, r6, r10, v1, v2, v3, v4, v5, fromAV]
              exact kW1
  · obtain rfl : n = 157054 := by have := hO.2.1; omega
    obtain rfl := next_one hr (outN_end hO)
    simp -implicitDefEqProofs [r6, fromAV]
    exact kW
theorem badE_ok {x : Ex} (hm : mayX x = true) {t : Nat} (ht : t < 13569465600) : badE x (t : Int) = 0 := by
  unfold badE
  rw [if_neg (by simp [hm]), if_neg (by omega)]
theorem c_after (hG : GlobT H) {x : Ex} (hx : x.ok) (hm : mayX x = true) {t : Nat} (ht : t < 13569465600) {r : Option Nat} (hr : IsNext x t r) : AOk Tryz.prog 32 [exAV x, .sc (.int .i64 t)] H (outAV r) H := by
  obtain ⟨q, hq⟩ : ∃ q, t % 60 = q := ⟨_, rfl⟩
  obtain ⟨z, hz⟩ : ∃ q, t / 60 * 60 = q := ⟨_, rfl⟩
  obtain ⟨T, hT⟩ : ∃ q, z + 60 = q := ⟨_, rfl⟩
  have w1 : (t : Int).tmod 60 = (q : Int) := wmod (b := 60) hq
  have w2 : IntKind.i64.wrap ((t : Int) - (q : Int)) = (z : Int) := wsub (by omega) (by omega) (by omega)
  have w3 : IntKind.i64.wrap ((z : Int) + 60) = (T : Int) := wadd (b := 60) hT (by omega)
  have hf := fun (K : Heap) (kG : GlobT K) => c_from kG hx hm ht (T := T) (by omega) hr
  refine ACalls.into Tryz.func32 rfl Tryz.ntmps32 Tryz.results32 (by simp) ?_
  simp -implicitDefEqProofs
  refine AAlloc.intro fun b2 h2 => ?_
  have kG := fun o => hG.new (o := o) h2
  simp -implicitDefEqProofs
  refine ACall.eq (c_nmay x hx t) ?_
  rw [badE_ok hm ht]
  simp -implicitDefEqProofs [w1, w2, w3]
  refine ACall.eq (hf _ (kG _)) ?_
  cases r with
  | none =>
    simp -implicitDefEqProofs [fromAV, outAV, optN, errN]
    exact HWk.new h2 (HWk.refl _)
  | some n =>
    simp -implicitDefEqProofs [fromAV, outAV, optN, errN]
    exact HWk.new h2 (HWk.refl _)
end Go.Proofs.YtmoncokklkiikaaGreatDoor
namespace Go.Proofs.YtmoncokklkiikaaGreatDoor
open Rg Go
variable {H : Heap}
theorem c_tomorrow {n : Nat} (hn : n < 157054) : ∃ a b c : Int, AOk Tryz.prog 211 [dAV (civ n).1 (civ n).2.1 (civ n).2.2] H (dAV a b c) H ∧ (n + 1 < 157054 → a = (civ (n + 1)).1 ∧ b = (civ (n + 1)).2.1 ∧ c = (civ (n + 1)).2.2) := by
  have hcm := civ_month hn
  have hp := fun h => civ_succ (n := n) h
  generalize civ n = cv at *
  obtain ⟨Y, M, Dd⟩ := cv
  simp only at hcm hp ⊢
  have hL := fun K : Heap => c_ref4Long (H := K) (y := Y) (m := M) (by omega) (by omega)
  generalize mLong Y M = L at *
  by_cases h1 : Dd < L
  · obtain ⟨d1, hd1⟩ : ∃ q, Dd + 1 = q := ⟨_, rfl⟩
    have w1 : IntKind.i64.wrap ((Dd : Int) + 1) = (d1 : Int) := wadd (b := 1) hd1 (by omega)
    have h1' : (Dd : Int) < (L : Int) := by omega
    refine ⟨Y, M, d1, ?_, fun hk => ?_⟩
    · refine ACalls.into Tryz.func211 rfl Tryz.ntmps211 Tryz.results211 (by simp) ?_
      simp -implicitDefEqProofs
      refine AAlloc.intro fun b1 g1 => ?_
      simp -implicitDefEqProofs
      refine AAlloc.intro fun b2 g2 => ?_
      have n21 : b2 ≠ b1 := by intro e; subst e; simp [Heap.set] at g2
      have n12 := n21.symm
      have e2 : H b2 = none := (HLe.set_fresh g1).none g2
      simp -implicitDefEqProofs [n12, n21]
      refine go_draw 8 f_mixed (by decide +kernel) ?_
      simp -implicitDefEqProofs [n12, n21]
      refine AQS.eq (hL _) ?_
      simp -implicitDefEqProofs [n12, n21, h1, h1', w1]
      repeat (first | exact HWk.refl _ | refine HWk.new (by assumption) ?_)
    · have := hp hk
      rw [if_pos h1, hd1] at this
      rw [this]
      exact ⟨rfl, rfl, rfl⟩
  · have h1' : ¬ (Dd : Int) < (L : Int) := by omega
    by_cases h2 : M < 12
    · obtain ⟨m1, hm1⟩ : ∃ q, M + 1 = q := ⟨_, rfl⟩
      have w1 : IntKind.i64.wrap ((M : Int) + 1) = (m1 : Int) := wadd (b := 1) hm1 (by omega)
      have h2' : (M : Int) < 12 := by omega
      refine ⟨Y, m1, 1, ?_, fun hk => ?_⟩
      · refine ACalls.into Tryz.func211 rfl Tryz.ntmps211 Tryz.results211 (by simp) ?_
        simp -implicitDefEqProofs
        refine AAlloc.intro fun b1 g1 => ?_
        simp -implicitDefEqProofs
        refine AAlloc.intro fun b2 g2 => ?_
        have n21 : b2 ≠ b1 := by intro e; subst e; simp [Heap.set] at g2
        have n12 := n21.symm
        have e2 : H b2 = none := (HLe.set_fresh g1).none g2
        simp -implicitDefEqProofs [n12, n21]
        refine go_draw 8 f_mixed (by decide +kernel) ?_
        simp -implicitDefEqProofs [n12, n21]
        refine AQS.eq (hL _) ?_
        simp -implicitDefEqProofs [n12, n21, h1, h1', h2, h2', w1]
        repeat (first | exact HWk.refl _ | refine HWk.new (by assumption) ?_)
      · have := hp hk
        rw [if_neg h1, if_pos h2, hm1] at this
        rw [this]
        exact ⟨rfl, rfl, rfl⟩
    · have h2' : ¬ (M : Int) < 12 := by omega
      obtain ⟨y1, hy1⟩ : ∃ q, Y + 1 = q := ⟨_, rfl⟩
      have w1 : IntKind.i64.wrap ((Y : Int) + 1) = (y1 : Int) := wadd (b := 1) hy1 (by omega)
      refine ⟨y1, 1, 1, ?_, fun hk => ?_⟩
      · refine ACalls.into Tryz.func211 rfl Tryz.ntmps211 Tryz.results211 (by simp) ?_
        simp -implicitDefEqProofs
        refine AAlloc.intro fun b1 g1 => ?_
        simp -implicitDefEqProofs
        refine AAlloc.intro fun b2 g2 => ?_
        have n21 : b2 ≠ b1 := by intro e; subst e; simp [Heap.set] at g2
        have n12 := n21.symm
        have e2 : H b2 = none := (HLe.set_fresh g1).none g2
        simp -implicitDefEqProofs [n12, n21]
        refine go_draw 8 f_mixed (by decide +kernel) ?_
        simp -implicitDefEqProofs [n12, n21]
        refine AQS.eq (hL _) ?_
        simp -implicitDefEqProofs [n12, n21, h1, h1', h2, h2', w1]
        repeat (first | exact HWk.refl _ | refine HWk.new (by assumption) ?_)
      · have := hp hk
        rw [if_neg h1, if_neg h2, hy1] at this
        rw [this]
        exact ⟨rfl, rfl, rfl⟩
set_option maxHeartbeats 2000000 in
theorem c_ref8After {x : Ex} (hx : x.ok) (hm : mayX x = true) {t : Nat} (ht : t < 13569465600) {r : Option Nat} (hr : IsNext x t r) : AOk Tryz.prog 171 [exAV x, .sc (.int .i64 t)] H (outAV r) H := by
  obtain ⟨s1, hs1⟩ : ∃ q, t / 60 = q := ⟨_, rfl⟩
  obtain ⟨s2, hs2⟩ : ∃ q, s1 * 60 = q := ⟨_, rfl⟩
  obtain ⟨T, hT⟩ : ∃ q, s2 + 60 = q := ⟨_, rfl⟩
  have v1 : IntKind.i64.wrap ((t : Int) / 60) = (s1 : Int) := wdiv (b := 60) hs1 (by omega)
  have v2 : IntKind.i64.wrap ((s1 : Int) * 60) = (s2 : Int) := wmul (b := 60) hs2 (by omega)
  have v3 : IntKind.i64.wrap ((s2 : Int) + 60) = (T : Int) := wadd (b := 60) hT (by omega)
  have hO := outN_init (x := x) ht
  rw [hs1, hs2, hT] at hO
  have e0 := badE_ok hm ht
  clear hs1 hs2 hT
  refine ACalls.into Tryz.func171 rfl Tryz.ntmps171 Tryz.results171 (by simp) ?_
  simp -implicitDefEqProofs
  refine AAlloc.intro fun b2 h2 => ?_
  simp -implicitDefEqProofs
  generalize hK : Heap.set _ b2 _ = K0
  have k2 : K0 b2 = some (.cells (exC x) 42) := by rw [← hK]; simp [Heap.set]
  have kW : HWk H K0 := by rw [← hK]; exact HWk.new h2 (HWk.refl _)
  clear hK
  refine ACall.eq (c_ref8Bad x hx t) ?_
  rw [e0]
  by_cases hTM : 13569465600 ≤ T
  · have hTM' : (13569465600 : Int) ≤ T := by omega
    obtain rfl := next_one hr (s := none) (fun k h1 h3 => hO.2.2.2 k h1 (by have := hO.2.2.1; omega))
    simp -implicitDefEqProofs [v1, v2, v3, hTM, hTM', outAV, optN, errN]
    exact kW
  · have hTM' : ¬ (13569465600 : Int) ≤ T := by omega
    have hTl : T < 13569465600 := by omega
    obtain ⟨D0, hD0⟩ : ∃ d, T / 86400 = d := ⟨_, rfl⟩
    obtain ⟨m0, hm0⟩ : ∃ d, T % 86400 = d := ⟨_, rfl⟩
    obtain ⟨m1, hm1⟩ : ∃ d, m0 / 60 = d := ⟨_, rfl⟩
    rw [hD0, hm0, hm1] at hO
    have w1 : IntKind.i64.wrap ((T : Int) / 86400) = (D0 : Int) := wdiv (b := 86400) hD0 (by omega)
    have w2 : (T : Int).tmod 86400 = (m0 : Int) := wmod (b := 86400) hm0
    have w3 : IntKind.i64.wrap ((m0 : Int) / 60) = (m1 : Int) := wdiv (b := 60) hm1 (by omega)
    have hsp := fun K : Heap => c_ref5Split (H := K) hTl
    have hclk : ∃ hh mi ss : Int, clk T = ⟨((civ D0).1 : Nat), ((civ D0).2.1 : Nat), ((civ D0).2.2 : Nat), hh, mi, ss, (((D0 + 4) % 7 : Nat) : Int)⟩ := by
      unfold clk
      rw [hD0]
      exact ⟨_, _, _, rfl⟩
    obtain ⟨hh, mi, ss, hclk⟩ := hclk
    rw [hclk] at hsp
    obtain ⟨w0, hw0⟩ : ∃ w, (D0 + 4) % 7 = w := ⟨_, rfl⟩
    rw [hw0] at hsp
    have hD : D0 < 157054 := by omega
    obtain ⟨cY, hcY⟩ : ∃ q, (civ D0).1 = q := ⟨_, rfl⟩
    obtain ⟨cM, hcM⟩ : ∃ q, (civ D0).2.1 = q := ⟨_, rfl⟩
    obtain ⟨cD, hcD⟩ : ∃ q, (civ D0).2.2 = q := ⟨_, rfl⟩
    rw [hcY, hcM, hcD] at hsp
    simp -implicitDefEqProofs [v1, v2, v3, hTM, hTM']
    refine ACall.eq (hsp _) ?_
    simp -implicitDefEqProofs
    refine AAlloc.intro fun b7 h7 => ?_
    have n27 : b2 ≠ b7 := by intro e; subst e; rw [k2] at h7; cases h7
    simp -implicitDefEqProofs
    refine AAlloc.intro fun b9 h9 => ?_
    have h9' : K0 b9 = none := (HLe.set_fresh h7).none h9
    have n79 : b7 ≠ b9 := by intro e; subst e; simp [Heap.set] at h9
    have n97 := n79.symm
    have n29 : b2 ≠ b9 := by intro e; subst e; rw [k2] at h9'; cases h9'
    have e9 : H b9 = none := kW.none h9'
    simp -implicitDefEqProofs [n79, n97]
    generalize hK : Heap.set _ b9 _ = K1
    have k21 : K1 b2 = some (.cells (exC x) 42) := by rw [← hK]; simp [Heap.set, n27, n29, k2]
    have k91 : K1 b9 = some (.cells [.sc (.int .i64 cY), .sc (.int .i64 cM), .sc (.int .i64 cD)] 46) := by rw [← hK]; simp [Heap.set]
    have kW1 : HWk H K1 := by rw [← hK]; exact HWk.new e9 (HWk.new (kW.none h7) kW)
    simp -implicitDefEqProofs [w1, w2, w3]
    refine AGo.rounds (fun m ρ K => ∃ (n mm w : Nat) (a b c : Int), m = 157054 - n ∧ w < 7 ∧ OutN x t n mm ∧ (n < 157054 → a = (civ n).1 ∧ b = (civ n).2.1 ∧ c = (civ n).2.2 ∧ (n + 4) % 7 = w) ∧
        ρ 2 = .sc (.pointer (some ⟨b2, 0, none⟩)) ∧ ρ 9 = .sc (.pointer (some ⟨b9, 0, none⟩)) ∧ ρ 10 = .sc (.int .i64 w) ∧ ρ 11 = .sc (.int .i64 mm) ∧ ρ 12 = .sc (.int .i64 n) ∧
        K b2 = some (.cells (exC x) 42) ∧ K b9 = some (.cells [.sc (.int .i64 a), .sc (.int .i64 b), .sc (.int .i64 c)] 46) ∧ HWk H K) ?_ (m := 157054 - D0) (HLe.refl _)
      ⟨D0, m1, w0, cY, cM, cD, rfl, by omega, hO, (fun _ => ⟨by rw [hcY], by rw [hcM], by rw [hcD], hw0⟩), by simp, by simp, by simp, by simp, by simp, k21, k91, kW1⟩
    clear k21 k91 kW1 hO hsp hclk hcY hcM hcD w1 w2 w3 hw0 hD k2 kW h9 h7 h9' hK hTM hTM' hTl hD0 hm0 hm1 v1 v2 v3
    rintro m ρ K ih ⟨n, mm, w, a, b, c, rfl, hw7, hO, hcv, r2, r9, r10, r11, r12, k2, k9, kW⟩
    by_cases hn : n < 157054
    · have hnI : (n : Int) < 157054 := by omega
      have hmm : mm ≤ 1439 := hO.1
      obtain ⟨rfl, rfl, rfl, hw⟩ := hcv hn
      obtain ⟨nn, hnn⟩ : ∃ q, n + 1 = q := ⟨_, rfl⟩
      simp -implicitDefEqProofs [r12, hn, hnI]
      refine AGo.joinLoop (fun ρ K' => K' = K ∧ OutN x t nn 0 ∧ ρ 2 = .sc (.pointer (some ⟨b2, 0, none⟩)) ∧ ρ 9 = .sc (.pointer (some ⟨b9, 0, none⟩)) ∧ ρ 10 = .sc (.int .i64 w) ∧ ρ 12 = .sc (.int .i64 n)) (fun k' hk' => ?_) ?_
      · have hI := inU_init hO hn
        refine AGo.rounds (fun m ρ K' => ∃ (q : Nat), m = 1441 - q ∧ InU x t n q ∧ ρ 2 = .sc (.pointer (some ⟨b2, 0, none⟩)) ∧ ρ 9 = .sc (.pointer (some ⟨b9, 0, none⟩)) ∧ ρ 10 = .sc (.int .i64 w) ∧ ρ 11 = .sc (.int .i64 q) ∧ ρ 12 = .sc (.int .i64 n) ∧ K' = K) ?_ (m := 1441 - mm) (HLe.refl _)
          ⟨mm, rfl, hI, by simp [r2], by simp [r9], by simp [r10], by simp [r11], by simp [r12], rfl⟩
        clear hI hmm hO r2 r9 r10 r11 r12
        rintro m' ρ' K' ih2 ⟨q, rfl, hI, r2, r9, r10, r11, r12, rfl⟩
        simp -implicitDefEqProofs [r2, r9, r10, k2, k9]
        refine ACall.eq (c_ref8Fits x hx (civ n).1 (civ n).2.1 (civ n).2.2 w rfl hw) ?_
        cases hdb : dayB x n with
        | false =>
          have hO' := inU_day hI hdb
          rw [hnn] at hO'
          simp -implicitDefEqProofs
          exact hk' _ _ ⟨rfl, hO', by simp [r2], by simp [r9], by simp [r10], by simp [r12]⟩
        | true =>
          by_cases hq14 : q < 1440
          · have hq14' : (q : Int) < 1440 := by omega
            obtain ⟨q1, hq1⟩ : ∃ z, q % 60 = z := ⟨_, rfl⟩
            obtain ⟨q2, hq2⟩ : ∃ z, q / 60 = z := ⟨_, rfl⟩
            obtain ⟨q3, hq3⟩ : ∃ z, q + 1 = z := ⟨_, rfl⟩
            have v1 : (q : Int).tmod 60 = (q1 : Int) := wmod (b := 60) hq1
            have v2 : IntKind.i64.wrap ((q : Int) / 60) = (q2 : Int) := wdiv (b := 60) hq2 (by omega)
            have v3 : IntKind.i64.wrap ((q : Int) + 1) = (q3 : Int) := wadd (b := 1) hq3 (by omega)
            have hfnd := fun h1 h2 => inU_found hm hI hq14 hdb h1 h2
            have hdn := fun h => inU_up hI hq14 h
            rw [hq1, hq2] at hfnd hdn
            rw [hq3] at hdn
            simp -implicitDefEqProofs [r11, r2, k2, v1, v2, hq14, hq14']
            refine ACall.eq (c_refHas x.a q1 hx.a) ?_
            cases ha : hasB x.a.bits (q1 : Int) with
            | false =>
              simp -implicitDefEqProofs [r11, v3]
              exact AGo.again ih2 (m' := 1441 - q3) (by omega) (HLe.refl _) ⟨q3, rfl, hdn (by simp [ha]), by simp [r2], by simp [r9], by simp [r10], by simp, by simp [r12], rfl⟩
            | true =>
              simp -implicitDefEqProofs [r11, r2, k2, v1, v2]
              refine ACall.eq (c_refHas x.b q2 hx.b) ?_
              cases hb : hasB x.b.bits (q2 : Int) with
              | false =>
                simp -implicitDefEqProofs [r11, v3]
                exact AGo.again ih2 (m' := 1441 - q3) (by omega) (HLe.refl _) ⟨q3, rfl, hdn (by simp [hb]), by simp [r2], by simp [r9], by simp [r10], by simp, by simp [r12], rfl⟩
              | true =>
                obtain rfl := next_one hr (hfnd ha hb)
                obtain ⟨P1, hP1⟩ : ∃ q, n * 86400 = q := ⟨_, rfl⟩
                obtain ⟨P2, hP2⟩ : ∃ z, q * 60 = z := ⟨_, rfl⟩
                obtain ⟨P3, hP3⟩ : ∃ q, P1 + P2 = q := ⟨_, rfl⟩
                have u1 : IntKind.i64.wrap ((n : Int) * 86400) = (P1 : Int) := wmul (b := 86400) hP1 (by omega)
                have u2 : IntKind.i64.wrap ((q : Int) * 60) = (P2 : Int) := wmul (b := 60) hP2 (by omega)
                have u3 : IntKind.i64.wrap ((P1 : Int) + (P2 : Int)) = (P3 : Int) := wadd hP3 (by omega)
                rw [hP1, hP2, hP3]
                simp -implicitDefEqProofs [r11, r12, u1, u2, u3, outAV, optN, errN]
                exact kW
          · obtain rfl : q = 1440 := by have := hI.1; omega
            have hO' := inU_end hI
            rw [hnn] at hO'
            simp -implicitDefEqProofs [r11]
            exact hk' _ _ ⟨rfl, hO', by simp [r2], by simp [r9], by simp [r10], by simp [r12]⟩
      · clear r2 r9 r10 r11 r12 hO
        rintro ρ2 K' ⟨rfl, hO', r2, r9, r10, r12⟩
        obtain ⟨a', b', c', hy, hyk⟩ := c_tomorrow (H := K') hn
        rw [hnn] at hyk
        obtain ⟨p1, hp1⟩ : ∃ q, w + 1 = q := ⟨_, rfl⟩
        obtain ⟨p2, hp2⟩ : ∃ q, p1 % 7 = q := ⟨_, rfl⟩
        have u1 : IntKind.i64.wrap ((w : Int) + 1) = (p1 : Int) := wadd (b := 1) hp1 (by omega)
        have u2 : (p1 : Int).tmod 7 = (p2 : Int) := wmod (b := 7) hp2
        have v3 : IntKind.i64.wrap ((n : Int) + 1) = (nn : Int) := wadd (b := 1) hnn (by omega)
        simp -implicitDefEqProofs [r9, r10, r12, k9]
        refine ACall.eq hy ?_
        simp -implicitDefEqProofs [r9, r10, r12, k9, u1, u2, v3]
        refine AGo.again ih (m' := 157054 - nn) (by omega) (HLe.refl _) ⟨nn, 0, p2, a', b', c', rfl, by omega, hO', (fun hk => by
          obtain ⟨z1, z2, z3⟩ := hyk hk
          exact ⟨z1, z2, z3, by omega⟩), by simp [r2], by simp [r9], by simp, by simp, by simp, by simp [n29, k2], by simp, HWk.new e9 kW⟩
    · obtain rfl : n = 157054 := by have := hO.2.1; omega
      obtain rfl := next_one hr (outN_end hO)
      simp -implicitDefEqProofs [r12, outAV, optN, errN]
      exact kW
end Go.Proofs.YtmoncokklkiikaaGreatDoor
