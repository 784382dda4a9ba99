/- The document's parse of any expression. The document's dates and clocks. The document's clock of a moment. The document's expressions: which may be, which clocks fit. The last firing up to a moment, as the document looks for it. Jobs: which may be. -/
import Derived.Test.YtmoncokklkiikaaGreatDoorP22
import Derived.Test.YtmoncokklkiikaaGreatDoorP17
import Derived.Test.YtmoncokklkiikaaGreatDoorP19
set_option linter.unusedSimpArgs false
set_option linter.unusedVariables false
set_option linter.unnecessarySimpa false
namespace Go.Proofs.YtmoncokklkiikaaGreatDoor
open Rg Go
variable {H : Heap}
theorem cronK_name {n x : List UInt8} (hl : ¬ 400 < n.length) (hp : Lib.hasPrefix n [64] = true) (h : namedL n = x) : cronK n = cronB x := by
  unfold cronK
  rw [if_neg hl, if_pos hp, h]
theorem prefix64 (s : List UInt8) : (Lib.hasPrefix s [64] = false ∧ (¬ 0 < s.length ∨ ∃ h : 0 < s.length, ¬ s[0].toNat = 64)) ∨ (Lib.hasPrefix s [64] = true ∧ ∃ h : 0 < s.length, s[0].toNat = 64) := by
  cases s with
  | nil => exact .inl ⟨rfl, .inl (by simp)⟩
  | cons c r =>
    have e : Lib.hasPrefix (c :: r) [64] = (64 == c) := by unfold Lib.hasPrefix; simp [List.isPrefixOf]
    by_cases hc : c = 64
    · exact .inr ⟨by rw [e, hc]; rfl, by simp, by simp [hc]⟩
    · exact .inl ⟨by rw [e]; simpa using Ne.symm hc, .inr ⟨by simp, fun h => hc (UInt8.toNat_inj.1 (by simpa using h))⟩⟩
theorem namedL_none {s : List UInt8} (h : ∀ q, q < 7 → nmL.getD (2 * q) [] ≠ s) : namedL s = [] := by
  have h0 := h 0 (by omega)
  have h1 := h 1 (by omega)
  have h2 := h 2 (by omega)
  have h3 := h 3 (by omega)
  have h4 := h 4 (by omega)
  have h5 := h 5 (by omega)
  have h6 := h 6 (by omega)
  unfold namedL
  rw [if_neg (fun e => h0 e.symm), if_neg (fun e => h1 e.symm), if_neg (fun e => h2 e.symm), if_neg (fun e => h3 e.symm), if_neg (fun e => h4 e.symm), if_neg (fun e => h5 e.symm), if_neg (fun e => h6 e.symm)]
set_option maxHeartbeats 1000000 in
theorem c_ref7Parse (s : List UInt8) (hs : s.length ≤ 1000000) : AOk Tryz.prog 64 [str s] H (.tup [exAV (cronK s).1, .sc (.int .i64 (cronK s).2)]) H := by
  rcases prefix64 s with ⟨hp, hnp⟩ | ⟨hp, h0, h64⟩
  · have h := c_ref7Plain (H := H) s hs hnp
    have e : cronK s = if 400 < s.length then (ex0, 3) else cronB s := by unfold cronK; rw [hp]; rfl
    rw [e]; exact h
  · by_cases hl : 400 < s.length
    · have hl' : (400 : Int) < s.length := by omega
      have e : cronK s = (ex0, 3) := by unfold cronK; rw [if_pos hl]
      rw [e]
      refine ACalls.into Tryz.func64 rfl Tryz.ntmps64 Tryz.results64 (by simp) ?_
      simp -implicitDefEqProofs [ex0, f0]
      refine AAlloc.intro fun b2 h2 => ?_
      simp -implicitDefEqProofs [hl, hl']
      exact HWk.new h2 (HWk.refl _)
    · have hl' : ¬ (400 : Int) < s.length := by omega
      have h0' : (0 : Int) < s.length := by omega
      have h64' : (s[0].toNat : Int) = 64 := by omega
      refine ACalls.into Tryz.func64 rfl Tryz.ntmps64 Tryz.results64 (by simp) ?_
      simp -implicitDefEqProofs
      refine AAlloc.intro fun b2 h2 => ?_
      simp -implicitDefEqProofs [hl, hl', h0, h0', h64, h64']
      generalize hK : Heap.set _ b2 _ = K0
      have k2 : K0 b2 = some (.cells (exC ex0) 42) := by rw [← hK]; simp [Heap.set, ex0, f0]
      have kW : HWk H K0 := by rw [← hK]; exact HWk.new h2 (HWk.refl _)
      clear hK h64 h64'
      refine ACall.eq c_refNames ?_
      simp -implicitDefEqProofs
      refine AGo.rounds (fun m ρ K => ∃ q : Nat, q ≤ 7 ∧ m = 7 - q ∧ ρ 0 = str s ∧ ρ 2 = .sc (.pointer (some ⟨b2, 0, none⟩)) ∧ ρ 4 = .sl (strL nmL) .no ∧ ρ 5 = .sc (.int .i64 (2 * q : Nat)) ∧ (∀ q', q' < q → nmL.getD (2 * q') [] ≠ s) ∧ K = K0) ?_ (m := 7) (HLe.refl _)
        ⟨0, by omega, rfl, by simp, by simp, by simp, by simp, fun q' hq => by omega, rfl⟩
      rintro m ρ K ih ⟨q, hq, rfl, r0, r2, r4, r5, hne, rfl⟩
      have hc : q = 0 ∨ q = 1 ∨ q = 2 ∨ q = 3 ∨ q = 4 ∨ q = 5 ∨ q = 6 ∨ q = 7 := by omega
      rcases hc with rfl | rfl | rfl | rfl | rfl | rfl | rfl | rfl
      · skip
        by_cases hs : nHourly = s
        · subst hs
          have e : cronK nHourly = cronB xHourly := cronK_name (by decide) (by decide) (by decide)
          have hpl := c_ref7Plain (H := K) xHourly (by decide) (.inr ⟨by decide, by decide⟩)
          rw [if_neg (by decide)] at hpl
          rw [e]
          simp -implicitDefEqProofs [r0, r2, r4, r5, nmL, wrap_i64]
          refine ACall.eq hpl ?_
          simp -implicitDefEqProofs [r2, k2]
          exact HWk.new h2 kW
        · have hb : (nHourly == s) = false := by simpa using hs
          simp -implicitDefEqProofs [r0, r2, r4, r5, nmL, hb, wrap_i64]
          exact AGo.again ih (m' := 6) (by omega) (HLe.refl _) ⟨1, by omega, rfl, by simp [r0], by simp [r2], by simp [r4, nmL], by simp, lt_succ_all (P := fun q : Nat => nmL.getD (2 * q) [] ≠ s) hne hs, rfl⟩
      · skip
        by_cases hs : nDaily = s
        · subst hs
          have e : cronK nDaily = cronB xDaily := cronK_name (by decide) (by decide) (by decide)
          have hpl := c_ref7Plain (H := K) xDaily (by decide) (.inr ⟨by decide, by decide⟩)
          rw [if_neg (by decide)] at hpl
          rw [e]
          simp -implicitDefEqProofs [r0, r2, r4, r5, nmL, wrap_i64]
          refine ACall.eq hpl ?_
          simp -implicitDefEqProofs [r2, k2]
          exact HWk.new h2 kW
        · have hb : (nDaily == s) = false := by simpa using hs
          simp -implicitDefEqProofs [r0, r2, r4, r5, nmL, hb, wrap_i64]
          exact AGo.again ih (m' := 5) (by omega) (HLe.refl _) ⟨2, by omega, rfl, by simp [r0], by simp [r2], by simp [r4, nmL], by simp, lt_succ_all (P := fun q : Nat => nmL.getD (2 * q) [] ≠ s) hne hs, rfl⟩
      · skip
        by_cases hs : nMidnight = s
        · subst hs
          have e : cronK nMidnight = cronB xDaily := cronK_name (by decide) (by decide) (by decide)
          have hpl := c_ref7Plain (H := K) xDaily (by decide) (.inr ⟨by decide, by decide⟩)
          rw [if_neg (by decide)] at hpl
          rw [e]
          simp -implicitDefEqProofs [r0, r2, r4, r5, nmL, wrap_i64]
          refine ACall.eq hpl ?_
          simp -implicitDefEqProofs [r2, k2]
          exact HWk.new h2 kW
        · have hb : (nMidnight == s) = false := by simpa using hs
          simp -implicitDefEqProofs [r0, r2, r4, r5, nmL, hb, wrap_i64]
          exact AGo.again ih (m' := 4) (by omega) (HLe.refl _) ⟨3, by omega, rfl, by simp [r0], by simp [r2], by simp [r4, nmL], by simp, lt_succ_all (P := fun q : Nat => nmL.getD (2 * q) [] ≠ s) hne hs, rfl⟩
      · skip
        by_cases hs : nWeekly = s
        · subst hs
          have e : cronK nWeekly = cronB xWeekly := cronK_name (by decide) (by decide) (by decide)
          have hpl := c_ref7Plain (H := K) xWeekly (by decide) (.inr ⟨by decide, by decide⟩)
          rw [if_neg (by decide)] at hpl
          rw [e]
          simp -implicitDefEqProofs [r0, r2, r4, r5, nmL, wrap_i64]
          refine ACall.eq hpl ?_
          simp -implicitDefEqProofs [r2, k2]
          exact HWk.new h2 kW
        · have hb : (nWeekly == s) = false := by simpa using hs
          simp -implicitDefEqProofs [r0, r2, r4, r5, nmL, hb, wrap_i64]
          exact AGo.again ih (m' := 3) (by omega) (HLe.refl _) ⟨4, by omega, rfl, by simp [r0], by simp [r2], by simp [r4, nmL], by simp, lt_succ_all (P := fun q : Nat => nmL.getD (2 * q) [] ≠ s) hne hs, rfl⟩
      · skip
        by_cases hs : nMonthly = s
        · subst hs
          have e : cronK nMonthly = cronB xMonthly := cronK_name (by decide) (by decide) (by decide)
          have hpl := c_ref7Plain (H := K) xMonthly (by decide) (.inr ⟨by decide, by decide⟩)
          rw [if_neg (by decide)] at hpl
          rw [e]
          simp -implicitDefEqProofs [r0, r2, r4, r5, nmL, wrap_i64]
          refine ACall.eq hpl ?_
          simp -implicitDefEqProofs [r2, k2]
          exact HWk.new h2 kW
        · have hb : (nMonthly == s) = false := by simpa using hs
          simp -implicitDefEqProofs [r0, r2, r4, r5, nmL, hb, wrap_i64]
          exact AGo.again ih (m' := 2) (by omega) (HLe.refl _) ⟨5, by omega, rfl, by simp [r0], by simp [r2], by simp [r4, nmL], by simp, lt_succ_all (P := fun q : Nat => nmL.getD (2 * q) [] ≠ s) hne hs, rfl⟩
      · skip
        by_cases hs : nYearly = s
        · subst hs
          have e : cronK nYearly = cronB xYearly := cronK_name (by decide) (by decide) (by decide)
          have hpl := c_ref7Plain (H := K) xYearly (by decide) (.inr ⟨by decide, by decide⟩)
          rw [if_neg (by decide)] at hpl
          rw [e]
          simp -implicitDefEqProofs [r0, r2, r4, r5, nmL, wrap_i64]
          refine ACall.eq hpl ?_
          simp -implicitDefEqProofs [r2, k2]
          exact HWk.new h2 kW
        · have hb : (nYearly == s) = false := by simpa using hs
          simp -implicitDefEqProofs [r0, r2, r4, r5, nmL, hb, wrap_i64]
          exact AGo.again ih (m' := 1) (by omega) (HLe.refl _) ⟨6, by omega, rfl, by simp [r0], by simp [r2], by simp [r4, nmL], by simp, lt_succ_all (P := fun q : Nat => nmL.getD (2 * q) [] ≠ s) hne hs, rfl⟩
      · skip
        by_cases hs : nAnnually = s
        · subst hs
          have e : cronK nAnnually = cronB xYearly := cronK_name (by decide) (by decide) (by decide)
          have hpl := c_ref7Plain (H := K) xYearly (by decide) (.inr ⟨by decide, by decide⟩)
          rw [if_neg (by decide)] at hpl
          rw [e]
          simp -implicitDefEqProofs [r0, r2, r4, r5, nmL, wrap_i64]
          refine ACall.eq hpl ?_
          simp -implicitDefEqProofs [r2, k2]
          exact HWk.new h2 kW
        · have hb : (nAnnually == s) = false := by simpa using hs
          simp -implicitDefEqProofs [r0, r2, r4, r5, nmL, hb, wrap_i64]
          exact AGo.again ih (m' := 0) (by omega) (HLe.refl _) ⟨7, by omega, rfl, by simp [r0], by simp [r2], by simp [r4, nmL], by simp, lt_succ_all (P := fun q : Nat => nmL.getD (2 * q) [] ≠ s) hne hs, rfl⟩
      · have e : cronK s = (ex0, 70) := by
          unfold cronK
          rw [if_neg hl, if_pos hp, namedL_none hne]
          rfl
        rw [e]
        simp -implicitDefEqProofs [r4, r5, r2, nmL, k2, ex0, f0]
        exact HWk.new h2 kW
end Go.Proofs.YtmoncokklkiikaaGreatDoor
namespace Go.Proofs.YtmoncokklkiikaaGreatDoor
open Rg Go
variable {H : Heap}
theorem leap_bits (y : Nat) : leapN y = (decide (y % 400 = 0) || (!decide (y % 100 = 0) && decide (y % 4 = 0))) := by
  unfold leapN
  rw [Bool.eq_iff_iff]
  simp
  omega
theorem c_ref4Leap (y : Nat) : AOk Tryz.prog 158 [.sc (.int .i64 y)] H (.sc (.bool (leapN y))) H := by
  obtain ⟨a, ha⟩ : ∃ x, y % 400 = x := ⟨_, rfl⟩
  obtain ⟨b, hb⟩ : ∃ x, y % 100 = x := ⟨_, rfl⟩
  obtain ⟨c, hc⟩ : ∃ x, y % 4 = x := ⟨_, rfl⟩
  have e1 : (y : Int).tmod 400 = (a : Int) := wmod (b := 400) ha
  have e2 : (y : Int).tmod 100 = (b : Int) := wmod (b := 100) hb
  have e3 : (y : Int).tmod 4 = (c : Int) := wmod (b := 4) hc
  rw [leap_bits, ha, hb, hc]
  refine ACalls.into Tryz.func158 rfl Tryz.ntmps158 Tryz.results158 (by simp) ?_
  by_cases h1 : a = 0
  · simp -implicitDefEqProofs [e1, h1]
  · by_cases h2 : b = 0
    · simp -implicitDefEqProofs [e1, e2, h1, h2]
    · simp -implicitDefEqProofs [e1, e2, e3, h1, h2]
theorem c_ref4Long {y m : Nat} (h1 : 1 ≤ m) (h2 : m ≤ 12) : AOk Tryz.prog 159 [.sc (.int .i64 y), .sc (.int .i64 m)] H (.sc (.int .i64 (mLong y m))) H := by
  refine ACalls.into Tryz.func159 rfl Tryz.ntmps159 Tryz.results159 (by simp) ?_
  have hc : m = 2 ∨ m = 1 ∨ m = 3 ∨ m = 4 ∨ m = 5 ∨ m = 6 ∨ m = 7 ∨ m = 8 ∨ m = 9 ∨ m = 10 ∨ m = 11 ∨ m = 12 := by omega
  rcases hc with rfl | hc
  · simp -implicitDefEqProofs
    refine ACall.eq (c_ref4Leap y) ?_
    cases hl : leapN y <;> simp -implicitDefEqProofs [mLong, hl]
  · rcases hc with rfl | rfl | rfl | rfl | rfl | rfl | rfl | rfl | rfl | rfl | rfl <;> simp -implicitDefEqProofs [mLong]
theorem c_ref4Weekday (n : Nat) (hn : n < 1000000000) : AOk Tryz.prog 110 [.sc (.int .i64 n)] H (.sc (.int .i64 ((n + 4) % 7 : Nat))) H := by
  refine ACalls.into Tryz.func110 rfl Tryz.ntmps110 Tryz.results110 (by simp) ?_
  obtain ⟨r, hr⟩ : ∃ r, n % 7 = r := ⟨_, rfl⟩
  obtain ⟨r', hr'⟩ : ∃ x, r + 4 = x := ⟨_, rfl⟩
  obtain ⟨q, hq⟩ : ∃ x, (n + 4) % 7 = x := ⟨_, rfl⟩
  rw [hq]
  have e1 : (n : Int).tmod 7 = (r : Int) := wmod (b := 7) hr
  have e2 : IntKind.i64.wrap ((r : Int) + 4) = (r' : Int) := wadd (b := 4) hr' (by omega)
  have e3 : (r' : Int).tmod 7 = (q : Int) := wmod (b := 7) (by omega)
  simp -implicitDefEqProofs [e1, e2, e3]
def yearLen (y : Nat) : Nat := if leapN y = true then 366 else 365
def okY (j : Nat) : Bool := decide (mFirst (12 * (j + 1)) = mFirst (12 * j) + yearLen (1970 + j))
def okYs : Nat → Bool
  | 0 => true
  | j + 1 => okY j && okYs j
theorem okYs_true : okYs 430 = true := by decide +kernel
theorem okYs_at : ∀ {k j : Nat}, okYs k = true → j < k → okY j = true
  | 0, j, _, h => by omega
  | k + 1, j, h, hj => by
    simp only [okYs, Bool.and_eq_true] at h
    by_cases he : j = k
    · subst he; exact h.1
    · exact okYs_at h.2 (by omega)
theorem year_succ {j : Nat} (hj : j < 430) : mFirst (12 * (j + 1)) = mFirst (12 * j) + yearLen (1970 + j) := by simpa [okY] using okYs_at okYs_true hj
theorem c_ref4Of {n : Nat} (hn : n < 157054) : AOk Tryz.prog 111 [.sc (.int .i64 n)] H (.tup [dAV (civ n).1 (civ n).2.1 (civ n).2.2, .sc (.int .i64 0)]) H := by
  obtain ⟨i, d, hi, hd, hnd⟩ := day_of hn
  have hciv : civ n = (1970 + i / 12, i % 12 + 1, d + 1) := by rw [hnd]; exact civ_at hi hd
  rw [hciv]
  have hml := mLen_le i
  simp only
  obtain ⟨Y0, hY0⟩ : ∃ x, 1970 + i / 12 = x := ⟨_, rfl⟩
  obtain ⟨M0, hM0⟩ : ∃ x, i % 12 + 1 = x := ⟨_, rfl⟩
  obtain ⟨D0, hD0⟩ : ∃ x, d + 1 = x := ⟨_, rfl⟩
  rw [hY0, hM0, hD0]
  refine ACalls.into Tryz.func111 rfl Tryz.ntmps111 Tryz.results111 (by simp) ?_
  simp -implicitDefEqProofs
  refine AAlloc.intro fun b2 h2 => ?_
  have hW : ∀ o, HWk H (H.set b2 o) := fun o => HWk.new h2 (HWk.refl _)
  simp -implicitDefEqProofs
  generalize hK : Heap.set _ b2 _ = K0
  have k2 : K0 b2 = some (.cells [.sc (.int .i64 0), .sc (.int .i64 0), .sc (.int .i64 0)] 46) := by rw [← hK]; simp [Heap.set]
  have kW : HWk H K0 := by rw [← hK]; exact hW _
  clear hK
  obtain ⟨Z0, hZ0⟩ : ∃ x, n - mFirst (12 * (i / 12)) = x := ⟨_, rfl⟩
  refine AGo.joinLoop (fun ρ K => K = K0 ∧ ρ 2 = .sc (.pointer (some ⟨b2, 0, none⟩)) ∧ ρ 4 = .sc (.int .i64 Y0) ∧ ρ 0 = .sc (.int .i64 Z0)) (fun k' hk' => ?_) ?_
  · refine AGo.rounds (fun m ρ K => ∃ j Y Z : Nat, j ≤ i / 12 ∧ m = 430 - j ∧ Y = 1970 + j ∧ Z = n - mFirst (12 * j) ∧ ρ 2 = .sc (.pointer (some ⟨b2, 0, none⟩)) ∧ ρ 4 = .sc (.int .i64 Y) ∧ ρ 0 = .sc (.int .i64 Z) ∧ K = K0) ?_ (m := 430) (HLe.refl _)
      ⟨0, 1970, n, by omega, rfl, rfl, by rw [show 12 * 0 = 0 from rfl, mFirst_zero]; rfl, by simp, by simp, by simp, rfl⟩
    rintro m ρ K ih ⟨j, Y, Z, hj, rfl, hY, hZ, r2, r4, r0, rfl⟩
    have hj4 : j < 430 := by omega
    have hys := year_succ hj4
    have hb1 : mFirst (12 * j) ≤ mFirst i := mFirst_mono (by omega) (by omega)
    have hmx : mFirst i + d < 157054 := by omega
    rw [← hY] at hys
    have c1 : (Y : Int) ≤ 2399 := by omega
    obtain ⟨Y', hY'⟩ : ∃ x, x = 1970 + (j + 1) := ⟨_, rfl⟩
    obtain ⟨Z', hZ'⟩ : ∃ x, x = n - mFirst (12 * (j + 1)) := ⟨_, rfl⟩
    have hwY : IntKind.i64.wrap ((Y : Int) + 1) = (Y' : Int) := wadd (b := 1) (by omega) (by omega)
    obtain ⟨L, hL⟩ : ∃ x, yearLen Y = x := ⟨_, rfl⟩
    rw [hL] at hys
    simp -implicitDefEqProofs [r4, c1]
    refine ACall.eq (c_ref4Leap Y) ?_
    by_cases hlast : j = i / 12
    · have hup : n < mFirst (12 * (j + 1)) := by
        have h3 := mFirst_mono (i := i + 1) (j := 12 * (j + 1)) (by omega) (by omega)
        rw [mFirst_succ hi] at h3
        omega
      have hlt : (Z : Int) < (L : Int) := by omega
      have eY : Y = Y0 := by omega
      have eZ : Z = Z0 := by rw [hlast] at hZ; omega
      cases hl : leapN Y with
      | true =>
        have hL2 : L = 366 := by rw [← hL]; unfold yearLen; rw [if_pos hl]
        have hlt2 : (Z : Int) < 366 := by omega
        have hlt3 : Z < 366 := by omega
        simp -implicitDefEqProofs [r0, hlt2, hlt3]
        exact hk' _ _ ⟨rfl, by simp [r2], by simp [r4, eY], by simp [r0, eZ]⟩
      | false =>
        have hL2 : L = 365 := by rw [← hL]; unfold yearLen; rw [if_neg (by simp [hl])]
        have hlt2 : (Z : Int) < 365 := by omega
        have hlt3 : Z < 365 := by omega
        simp -implicitDefEqProofs [r0, hlt2, hlt3]
        exact hk' _ _ ⟨rfl, by simp [r2], by simp [r4, eY], by simp [r0, eZ]⟩
    · have hup : mFirst (12 * (j + 1)) ≤ mFirst i := mFirst_mono (by omega) (by omega)
      have hlt : ¬ (Z : Int) < (L : Int) := by omega
      have hwZ : IntKind.i64.wrap ((Z : Int) - (L : Int)) = (Z' : Int) := wsub (by omega) (by omega) (by omega)
      cases hl : leapN Y with
      | true =>
        have hL2 : L = 366 := by rw [← hL]; unfold yearLen; rw [if_pos hl]
        have hlt2 : ¬ (Z : Int) < 366 := by omega
        have hlt3 : ¬ Z < 366 := by omega
        have hwZ2 : IntKind.i64.wrap ((Z : Int) - 366) = (Z' : Int) := wsub (b := 366) (by omega) (by omega) (by omega)
        simp -implicitDefEqProofs [r0, r4, hlt2, hlt3, hwZ2, hwY]
        exact AGo.again ih (m' := 430 - (j + 1)) (by omega) (HLe.refl _) ⟨j + 1, Y', Z', by omega, rfl, hY', hZ', by simp [r2], by simp, by simp, rfl⟩
      | false =>
        have hL2 : L = 365 := by rw [← hL]; unfold yearLen; rw [if_neg (by simp [hl])]
        have hlt2 : ¬ (Z : Int) < 365 := by omega
        have hlt3 : ¬ Z < 365 := by omega
        have hwZ2 : IntKind.i64.wrap ((Z : Int) - 365) = (Z' : Int) := wsub (b := 365) (by omega) (by omega) (by omega)
        simp -implicitDefEqProofs [r0, r4, hlt2, hlt3, hwZ2, hwY]
        exact AGo.again ih (m' := 430 - (j + 1)) (by omega) (HLe.refl _) ⟨j + 1, Y', Z', by omega, rfl, hY', hZ', by simp [r2], by simp, by simp, rfl⟩
  · rintro ρ K ⟨rfl, r2, r4, r0⟩
    have c1 : ¬ (2399 : Int) < (Y0 : Int) := by omega
    have c1' : ¬ 2399 < Y0 := by omega
    simp -implicitDefEqProofs [r4, c1, c1']
    refine AGo.rounds (fun m ρ K2 => ∃ q Z : Nat, q ≤ i % 12 ∧ m = 12 - q ∧ Z = n - mFirst (12 * (i / 12) + q) ∧ ρ 2 = .sc (.pointer (some ⟨b2, 0, none⟩)) ∧ ρ 4 = .sc (.int .i64 Y0) ∧ ρ 6 = .sc (.int .i64 (q + 1 : Nat)) ∧ ρ 0 = .sc (.int .i64 Z) ∧ K2 = K) ?_ (m := 12) (HLe.refl _)
      ⟨0, Z0, by omega, rfl, hZ0.symm, by simp [r2], by simp [r4], by simp, by simp [r0], rfl⟩
    rintro m ρ K2 ih ⟨q, Z, hq, rfl, hZ, r2, r4, r6, r0, rfl⟩
    have hq12 : q < 12 := by omega
    have hil : 12 * (i / 12) + q < 5160 := by omega
    have hms := mFirst_succ hil
    have hlen : mLen (12 * (i / 12) + q) = mLong Y0 (q + 1) := by
      unfold mLen
      rw [show (12 * (i / 12) + q) / 12 = i / 12 by omega, show (12 * (i / 12) + q) % 12 = q by omega, hY0]
    rw [hlen] at hms
    have hb1 : mFirst (12 * (i / 12) + q) ≤ mFirst i := mFirst_mono (by omega) (by omega)
    obtain ⟨q1, hq1⟩ : ∃ x, q + 1 = x := ⟨_, rfl⟩
    rw [hq1] at r6 hms
    obtain ⟨L, hL⟩ : ∃ x, mLong Y0 q1 = x := ⟨_, rfl⟩
    rw [hL] at hms
    simp -implicitDefEqProofs [r0, r4, r6]
    refine ACall.eq (c_ref4Long (y := Y0) (m := q1) (by omega) (by omega)) ?_
    rw [hL]
    by_cases hlast : q = i % 12
    · have hii : 12 * (i / 12) + q = i := by omega
      have hZd : Z = d := by rw [hZ, hii]; omega
      have hLd : d < L := by rw [← hL, ← hq1, ← hlen, hii]; exact hd
      have hlt : ¬ (L : Int) ≤ (Z : Int) := by omega
      have hlt' : ¬ L ≤ Z := by omega
      have hw : IntKind.i64.wrap ((Z : Int) + 1) = (D0 : Int) := wadd (b := 1) (by omega) (by omega)
      have hq1' : M0 = q1 := by omega
      rw [hq1']
      simp -implicitDefEqProofs [r0, r2, r4, r6, hlt, hlt', hw, k2]
      exact HWk.new h2 kW
    · have hup : mFirst (12 * (i / 12) + q + 1) ≤ mFirst i := mFirst_mono (by omega) (by omega)
      have hlt : (L : Int) ≤ (Z : Int) := by omega
      have hlt' : L ≤ Z := by omega
      obtain ⟨Z', hZ'⟩ : ∃ x, x = n - mFirst (12 * (i / 12) + (q + 1)) := ⟨_, rfl⟩
      have hms' : mFirst (12 * (i / 12) + (q + 1)) = mFirst (12 * (i / 12) + q) + L := hms
      have hwZ : IntKind.i64.wrap ((Z : Int) - (L : Int)) = (Z' : Int) := wsub (by omega) (by omega) (by omega)
      have hw1 : IntKind.i64.wrap ((q1 : Int) + 1) = ((q1 + 1 : Nat) : Int) := wadd (b := 1) rfl (by omega)
      simp -implicitDefEqProofs [r0, r4, r6, hlt, hlt']
      refine ACall.eq (c_ref4Long (y := Y0) (m := q1) (by omega) (by omega)) ?_
      rw [hL]
      simp -implicitDefEqProofs [r0, r4, r6, hwZ, hw1]
      exact AGo.again ih (m' := 12 - (q + 1)) (by omega) (HLe.refl _) ⟨q + 1, Z', by omega, rfl, hZ', by simp [r2], by simp [r4], by simp [← hq1], by simp, rfl⟩
end Go.Proofs.YtmoncokklkiikaaGreatDoor
namespace Go.Proofs.YtmoncokklkiikaaGreatDoor
open Rg Go
variable {H : Heap}
theorem c_ref5Split {t : Nat} (ht : t < 13569465600) : AOk Tryz.prog 40 [.sc (.int .i64 t)] H (.tup [cAV (clk t), .sc (.int .i64 0)]) H := by
  obtain ⟨n, hn⟩ : ∃ x, t / 86400 = x := ⟨_, rfl⟩
  obtain ⟨s, hs⟩ : ∃ x, t % 60 = x := ⟨_, rfl⟩
  obtain ⟨a, ha⟩ : ∃ x, t / 60 = x := ⟨_, rfl⟩
  obtain ⟨m, hm⟩ : ∃ x, a % 60 = x := ⟨_, rfl⟩
  obtain ⟨b, hb⟩ : ∃ x, t / 3600 = x := ⟨_, rfl⟩
  obtain ⟨h, hh⟩ : ∃ x, b % 24 = x := ⟨_, rfl⟩
  have hn2 : n < 157054 := by omega
  have e1 : t % 3600 / 60 = m := by omega
  have e2 : t % 86400 / 3600 = h := by omega
  have w1 : IntKind.i64.wrap ((t : Int) / 86400) = (n : Int) := wdiv (b := 86400) hn (by omega)
  have w2 : (t : Int).tmod 60 = (s : Int) := wmod (b := 60) hs
  have w3 : IntKind.i64.wrap ((t : Int) / 60) = (a : Int) := wdiv (b := 60) ha (by omega)
  have w4 : (a : Int).tmod 60 = (m : Int) := wmod (b := 60) hm
  have w5 : IntKind.i64.wrap ((t : Int) / 3600) = (b : Int) := wdiv (b := 3600) hb (by omega)
  have w6 : (b : Int).tmod 24 = (h : Int) := wmod (b := 24) hh
  have wn : IntKind.i64.wrap (n : Int) = (n : Int) := wrap_i64 (by omega) (by omega)
  have c1 : ¬ (13569465600 : Int) ≤ (t : Int) := by omega
  have c1' : ¬ 13569465600 ≤ t := by omega
  have v1 : IntKind.i64.wrap (s : Int) = (s : Int) := wrap_i64 (by omega) (by omega)
  have v2 : IntKind.i64.wrap (m : Int) = (m : Int) := wrap_i64 (by omega) (by omega)
  have v3 : IntKind.i64.wrap (h : Int) = (h : Int) := wrap_i64 (by omega) (by omega)
  unfold clk
  rw [hn, e1, e2, hs]
  refine ACalls.into Tryz.func40 rfl Tryz.ntmps40 Tryz.results40 (by simp) ?_
  simp -implicitDefEqProofs
  refine AAlloc.intro fun b2 h2 => ?_
  simp -implicitDefEqProofs [w1, w2, w3, w4, w5, w6, wn, c1, c1', v1, v2, v3]
  refine AAlloc.intro fun b4 h4 => ?_
  have n42 : b4 ≠ b2 := by intro e; subst e; simp [Heap.set] at h4
  have n24 := n42.symm
  have e4 : H b4 = none := (HLe.set_fresh h2).none h4
  simp -implicitDefEqProofs [n42, n24, w1, wn]
  refine ACall.eq (c_ref4Of hn2) ?_
  simp -implicitDefEqProofs [n42, n24]
  refine AAlloc.intro fun b6 h6 => ?_
  have n62 : b6 ≠ b2 := by intro e; subst e; simp [Heap.set, n24] at h6
  have n64 : b6 ≠ b4 := by intro e; subst e; simp [Heap.set] at h6
  have n26 := n62.symm
  have n46 := n64.symm
  have e6 : H b6 = none := by simpa [Heap.set, n62, n64] using h6
  simp -implicitDefEqProofs [n42, n24, n62, n64, n26, n46]
  refine ACall.eq (c_ref4Weekday n (by omega)) ?_
  simp -implicitDefEqProofs [n42, n24, n62, n64, n26, n46]
  repeat (first | exact HWk.refl _ | refine HWk.new (by assumption) ?_)
end Go.Proofs.YtmoncokklkiikaaGreatDoor
namespace Go.Proofs.YtmoncokklkiikaaGreatDoor
open Rg Go
variable {H : Heap}
theorem c_ref4LongOut {y m : Int} (h : m < 1 ∨ 12 < m) : AOk Tryz.prog 159 [.sc (.int .i64 y), .sc (.int .i64 m)] H (.sc (.int .i64 0)) H := by
  have e1 : ¬ m = 1 := by omega
  have e2 : ¬ m = 2 := by omega
  have e3 : ¬ m = 3 := by omega
  have e4 : ¬ m = 4 := by omega
  have e5 : ¬ m = 5 := by omega
  have e6 : ¬ m = 6 := by omega
  have e7 : ¬ m = 7 := by omega
  have e8 : ¬ m = 8 := by omega
  have e9 : ¬ m = 9 := by omega
  have e10 : ¬ m = 10 := by omega
  have e11 : ¬ m = 11 := by omega
  have e12 : ¬ m = 12 := by omega
  refine ACalls.into Tryz.func159 rfl Tryz.ntmps159 Tryz.results159 (by simp) ?_
  simp -implicitDefEqProofs [e1, e2, e3, e4, e5, e6, e7, e8, e9, e10, e11, e12]
theorem c_ref4LongI {y : Nat} {m : Int} : AOk Tryz.prog 159 [.sc (.int .i64 y), .sc (.int .i64 m)] H (.sc (.int .i64 (longI y m))) H := by
  by_cases h : m < 1 ∨ 12 < m
  · have e : longI y m = 0 := by unfold longI; rw [if_pos h]
    rw [e]
    exact c_ref4LongOut h
  · obtain ⟨M, rfl⟩ := Int.eq_ofNat_of_zero_le (a := m) (by omega)
    rw [long_nat y (by omega) (by omega)]
    exact c_ref4Long (by omega) (by omega)
theorem c_ref4May (y m d : Int) : AOk Tryz.prog 157 [dAV y m d] H (.sc (.bool (mayD y m d))) H := by
  refine ACalls.into Tryz.func157 rfl Tryz.ntmps157 Tryz.results157 (by simp) ?_
  simp -implicitDefEqProofs
  refine AAlloc.intro fun b hb => ?_
  have hW : ∀ o, HWk H (H.set b o) := fun o => HWk.new hb (HWk.refl _)
  unfold mayD
  simp -implicitDefEqProofs
  refine go_draw 24 f_mixed (by decide +kernel) ?_
  by_cases h1 : 1970 ≤ y
  · by_cases h2 : y ≤ 2399
    · by_cases h3 : 1 ≤ d
      · obtain ⟨Y, rfl⟩ := Int.eq_ofNat_of_zero_le (a := y) (by omega)
        simp -implicitDefEqProofs [h1, h2, h3]
        refine AQS.eq (c_ref4LongI (y := Y) (m := m)) ?_
        simp -implicitDefEqProofs
        exact hW _
      · simp -implicitDefEqProofs [h1, h2, h3]
        exact hW _
    · simp -implicitDefEqProofs [h1, h2]
      exact hW _
  · simp -implicitDefEqProofs [h1]
    exact hW _
theorem c_ref4Days_bad {y m d : Int} (h : mayD y m d = false) : AOk Tryz.prog 109 [dAV y m d] H (.tup [.sc (.int .i64 0), .sc (.int .i64 2)]) H := by
  refine ACalls.into Tryz.func109 rfl Tryz.ntmps109 Tryz.results109 (by simp) ?_
  simp -implicitDefEqProofs
  refine AAlloc.intro fun b hb => ?_
  simp -implicitDefEqProofs
  refine ACall.eq (c_ref4May y m d) ?_
  simp -implicitDefEqProofs [h]
  exact HWk.new hb (HWk.refl _)
theorem c_ref4Days {y m d : Nat} (h : mayD (y : Int) (m : Int) (d : Int) = true) : AOk Tryz.prog 109 [dAV y m d] H (.tup [.sc (.int .i64 (daysN y m d)), .sc (.int .i64 0)]) H := by
  obtain ⟨i, dd, hi, hdd, h1, h2, h3⟩ := mayD_in h
  have e : daysN y m d = mFirst i + dd := by rw [← days_of i dd]; congr 1 <;> omega
  have hlt := mFirst_mono (i := i + 1) (j := 5160) (by omega) (Nat.le_refl _)
  rw [mFirst_succ hi, mFirst_end] at hlt
  rw [e]
  obtain ⟨r, hr⟩ : ∃ r, mFirst i + dd = r := ⟨_, rfl⟩
  rw [hr]
  have hy : y = 1970 + i / 12 := by omega
  have hmm : m = i % 12 + 1 := by omega
  have hd : d = dd + 1 := by omega
  clear h1 h2 h3 e
  refine ACalls.into Tryz.func109 rfl Tryz.ntmps109 Tryz.results109 (by simp) ?_
  simp -implicitDefEqProofs
  refine AAlloc.intro fun b hb => ?_
  simp -implicitDefEqProofs
  generalize hK : Heap.set _ b _ = K0
  have kb : K0 b = some (.cells [.sc (.int .i64 y), .sc (.int .i64 m), .sc (.int .i64 d)] 46) := by rw [← hK]; simp [Heap.set]
  have kW : HWk H K0 := by rw [← hK]; exact HWk.new hb (HWk.refl _)
  clear hK
  refine ACall.eq (c_ref4May y m d) ?_
  obtain ⟨B, hB⟩ : ∃ B, mFirst (12 * (i / 12)) = B := ⟨_, rfl⟩
  simp -implicitDefEqProofs [h]
  refine AGo.joinLoop (fun ρ K => K = K0 ∧ ρ 1 = .sc (.pointer (some ⟨b, 0, none⟩)) ∧ ρ 4 = .sc (.int .i64 B)) (fun k' hk' => ?_) ?_
  · refine AGo.rounds (fun mm ρ K => ∃ j Y N : Nat, j ≤ i / 12 ∧ mm = 430 - j ∧ Y = 1970 + j ∧ N = mFirst (12 * j) ∧ ρ 1 = .sc (.pointer (some ⟨b, 0, none⟩)) ∧ ρ 4 = .sc (.int .i64 N) ∧ ρ 5 = .sc (.int .i64 Y) ∧ K = K0) ?_ (m := 430) (HLe.refl _)
      ⟨0, 1970, 0, by omega, rfl, rfl, by rw [show 12 * 0 = 0 from rfl, mFirst_zero], by simp, by simp, by simp, rfl⟩
    rintro mm ρ K ih ⟨j, Y, N, hj, rfl, hY, hN, r1, r4, r5, rfl⟩
    by_cases hlast : j = i / 12
    · have c1 : ¬ (Y : Int) < (y : Int) := by omega
      have c1' : ¬ Y < y := by omega
      have hNB : N = B := by rw [hN, hlast, hB]
      simp -implicitDefEqProofs [r1, r5, kb, c1, c1']
      exact hk' _ _ ⟨rfl, by simp [r1], by simp [r4, hNB]⟩
    · have c1 : (Y : Int) < (y : Int) := by omega
      have c1' : Y < y := by omega
      have hj4 : j < 430 := by omega
      have hys := year_succ hj4
      rw [← hY, ← hN] at hys
      have hb2 : mFirst (12 * (j + 1)) ≤ mFirst i := mFirst_mono (by omega) (by omega)
      obtain ⟨N', hN'⟩ : ∃ x, x = mFirst (12 * (j + 1)) := ⟨_, rfl⟩
      rw [← hN'] at hys hb2
      obtain ⟨Y', hY'⟩ : ∃ x, x = 1970 + (j + 1) := ⟨_, rfl⟩
      have wY : IntKind.i64.wrap ((Y : Int) + 1) = (Y' : Int) := wadd (b := 1) (by omega) (by omega)
      obtain ⟨N1, hN1⟩ : ∃ x, N + 365 = x := ⟨_, rfl⟩
      have w1 : IntKind.i64.wrap ((N : Int) + 365) = (N1 : Int) := wadd (b := 365) hN1 (by omega)
      simp -implicitDefEqProofs [r1, r4, r5, kb, c1, c1', w1]
      refine ACall.eq (c_ref4Leap Y) ?_
      unfold yearLen at hys
      cases hl : leapN Y with
      | true =>
        rw [if_pos hl] at hys
        have w2 : IntKind.i64.wrap ((N1 : Int) + 1) = (N' : Int) := wadd (b := 1) (by omega) (by omega)
        simp -implicitDefEqProofs [r5, w2, wY]
        exact AGo.again ih (m' := 430 - (j + 1)) (by omega) (HLe.refl _) ⟨j + 1, Y', N', by omega, rfl, hY', hN', by simp [r1], by simp, by simp, rfl⟩
      | false =>
        rw [if_neg (by simp [hl])] at hys
        have e2 : N1 = N' := by omega
        simp -implicitDefEqProofs [r5, wY]
        exact AGo.again ih (m' := 430 - (j + 1)) (by omega) (HLe.refl _) ⟨j + 1, Y', N', by omega, rfl, hY', hN', by simp [r1], by simp [e2], by simp, rfl⟩
  · rintro ρ K ⟨rfl, r1, r4⟩
    simp -implicitDefEqProofs [r1, r4]
    refine AGo.rounds (fun mm ρ K2 => ∃ q M N : Nat, q ≤ i % 12 ∧ mm = 12 - q ∧ M = q + 1 ∧ N = mFirst (12 * (i / 12) + q) ∧ ρ 1 = .sc (.pointer (some ⟨b, 0, none⟩)) ∧ ρ 4 = .sc (.int .i64 N) ∧ ρ 6 = .sc (.int .i64 M) ∧ K2 = K) ?_ (m := 12) (HLe.refl _)
      ⟨0, 1, B, by omega, rfl, rfl, hB.symm, by simp [r1], by simp [r4], by simp, rfl⟩
    rintro mm ρ K2 ih ⟨q, M, N, hq, rfl, hM, hN, r1, r4, r6, rfl⟩
    by_cases hlast : q = i % 12
    · have c1 : ¬ (M : Int) < (m : Int) := by omega
      have c1' : ¬ M < m := by omega
      have hii : 12 * (i / 12) + q = i := by omega
      rw [hii] at hN
      obtain ⟨N1, hN1⟩ : ∃ x, N + d = x := ⟨_, rfl⟩
      have w1 : IntKind.i64.wrap ((N : Int) + (d : Int)) = (N1 : Int) := wadd hN1 (by omega)
      have w2 : IntKind.i64.wrap ((N1 : Int) - 1) = (r : Int) := wsub (b := 1) (by omega) (by omega) (by omega)
      simp -implicitDefEqProofs [r1, r4, r6, kb, c1, c1', w1, w2]
      exact kW
    · have c1 : (M : Int) < (m : Int) := by omega
      have c1' : M < m := by omega
      have hil : 12 * (i / 12) + q < 5160 := by omega
      have hms := mFirst_succ hil
      have hlen : mLen (12 * (i / 12) + q) = mLong y M := by
        unfold mLen
        rw [show (12 * (i / 12) + q) / 12 = i / 12 by omega, show (12 * (i / 12) + q) % 12 = q by omega, ← hy, ← hM]
      rw [hlen, ← hN] at hms
      have hb2 : mFirst (12 * (i / 12) + q + 1) ≤ mFirst i := mFirst_mono (by omega) (by omega)
      obtain ⟨N', hN'⟩ : ∃ x, x = mFirst (12 * (i / 12) + (q + 1)) := ⟨_, rfl⟩
      have hms' : N' = N + mLong y M := by rw [hN']; exact hms
      have hb3 : N' ≤ mFirst i := by rw [hN']; exact hb2
      obtain ⟨L, hL⟩ : ∃ x, mLong y M = x := ⟨_, rfl⟩
      rw [hL] at hms'
      obtain ⟨M', hM'⟩ : ∃ x, x = q + 1 + 1 := ⟨_, rfl⟩
      have w1 : IntKind.i64.wrap ((N : Int) + (L : Int)) = (N' : Int) := wadd hms'.symm (by omega)
      have w2 : IntKind.i64.wrap ((M : Int) + 1) = (M' : Int) := wadd (b := 1) (by omega) (by omega)
      simp -implicitDefEqProofs [r1, r4, r6, kb, c1, c1']
      refine ACall.eq (c_ref4Long (y := y) (m := M) (by omega) (by omega)) ?_
      rw [hL]
      simp -implicitDefEqProofs [r4, r6, w1, w2]
      exact AGo.again ih (m' := 12 - (q + 1)) (by omega) (HLe.refl _) ⟨q + 1, M', N', by omega, rfl, hM', hN', by simp [r1], by simp, by simp, rfl⟩
theorem c_ref7May (x : Ex) (hx : x.ok) : AOk Tryz.prog 30 [exAV x] H (.sc (.bool (mayX x))) H := by
  refine ACalls.into Tryz.func30 rfl Tryz.ntmps30 Tryz.results30 (by simp) ?_
  simp -implicitDefEqProofs
  refine AAlloc.intro fun b1 h1 => ?_
  simp -implicitDefEqProofs
  generalize hK : Heap.set _ b1 _ = K0
  have k1 : K0 b1 = some (.cells (exC x) 42) := by rw [← hK]; simp [Heap.set]
  have kW : HWk H K0 := by rw [← hK]; exact HWk.new h1 (HWk.refl _)
  clear hK
  refine AGo.rounds (fun m ρ K => ∃ j : Nat, j ≤ 5 ∧ m = 5 - j ∧ ρ 1 = .sc (.pointer (some ⟨b1, 0, none⟩)) ∧ ρ 3 = .sc (.int .i64 j) ∧ (∀ i, i < j → mayB (i : Int) (x.get i).bits = true) ∧ K = K0) ?_ (m := 5) (HLe.refl _)
    ⟨0, by omega, rfl, by simp, by simp, fun i hi => by omega, rfl⟩
  rintro m ρ K ih ⟨j, hj, rfl, r1, r3, hm, rfl⟩
  have hc : j = 0 ∨ j = 1 ∨ j = 2 ∨ j = 3 ∨ j = 4 ∨ j = 5 := by omega
  rcases hc with rfl | rfl | rfl | rfl | rfl | rfl
  · simp -implicitDefEqProofs [r1, r3, k1]
    refine ACall.eq (c_refMay 0 x.a hx.a) ?_
    cases he : mayB 0 x.a.bits with
    | false => simp -implicitDefEqProofs [mayX, he]; exact kW
    | true =>
      simp -implicitDefEqProofs [r3, wrap_i64]
      exact AGo.again ih (m' := 4) (by omega) (HLe.refl _) ⟨1, by omega, rfl, by simp [r1], by simp, lt_succ_all (P := fun i : Nat => mayB (i : Int) (x.get i).bits = true) hm he, rfl⟩
  · simp -implicitDefEqProofs [r1, r3, k1]
    refine ACall.eq (c_refMay 1 x.b hx.b) ?_
    cases he : mayB 1 x.b.bits with
    | false => simp -implicitDefEqProofs [mayX, he]; exact kW
    | true =>
      simp -implicitDefEqProofs [r3, wrap_i64]
      exact AGo.again ih (m' := 3) (by omega) (HLe.refl _) ⟨2, by omega, rfl, by simp [r1], by simp, lt_succ_all (P := fun i : Nat => mayB (i : Int) (x.get i).bits = true) hm he, rfl⟩
  · simp -implicitDefEqProofs [r1, r3, k1]
    refine ACall.eq (c_refMay 2 x.c hx.c) ?_
    cases he : mayB 2 x.c.bits with
    | false => simp -implicitDefEqProofs [mayX, he]; exact kW
    | true =>
      simp -implicitDefEqProofs [r3, wrap_i64]
      exact AGo.again ih (m' := 2) (by omega) (HLe.refl _) ⟨3, by omega, rfl, by simp [r1], by simp, lt_succ_all (P := fun i : Nat => mayB (i : Int) (x.get i).bits = true) hm he, rfl⟩
  · simp -implicitDefEqProofs [r1, r3, k1]
    refine ACall.eq (c_refMay 3 x.d hx.d) ?_
    cases he : mayB 3 x.d.bits with
    | false => simp -implicitDefEqProofs [mayX, he]; exact kW
    | true =>
      simp -implicitDefEqProofs [r3, wrap_i64]
      exact AGo.again ih (m' := 1) (by omega) (HLe.refl _) ⟨4, by omega, rfl, by simp [r1], by simp, lt_succ_all (P := fun i : Nat => mayB (i : Int) (x.get i).bits = true) hm he, rfl⟩
  · simp -implicitDefEqProofs [r1, r3, k1]
    refine ACall.eq (c_refMay 4 x.e hx.e) ?_
    cases he : mayB 4 x.e.bits with
    | false => simp -implicitDefEqProofs [mayX, he]; exact kW
    | true =>
      simp -implicitDefEqProofs [r3, wrap_i64]
      exact AGo.again ih (m' := 0) (by omega) (HLe.refl _) ⟨5, by omega, rfl, by simp [r1], by simp, lt_succ_all (P := fun i : Nat => mayB (i : Int) (x.get i).bits = true) hm he, rfl⟩
  · have g0 : mayB 0 x.a.bits = true := hm 0 (by omega)
    have g1 : mayB 1 x.b.bits = true := hm 1 (by omega)
    have g2 : mayB 2 x.c.bits = true := hm 2 (by omega)
    have g3 : mayB 3 x.d.bits = true := hm 3 (by omega)
    have g4 : mayB 4 x.e.bits = true := hm 4 (by omega)
    simp -implicitDefEqProofs [r1, r3, mayX, g0, g1, g2, g3, g4]
    exact kW
end Go.Proofs.YtmoncokklkiikaaGreatDoor
namespace Go.Proofs.YtmoncokklkiikaaGreatDoor
open Rg Go
variable {H : Heap}
theorem c_ref8Bad (x : Ex) (hx : x.ok) (t : Int) : AOk Tryz.prog 170 [exAV x, .sc (.int .i64 t)] H (.sc (.int .i64 (badE x t))) H := by
  refine ACalls.into Tryz.func170 rfl Tryz.ntmps170 Tryz.results170 (by simp) ?_
  simp -implicitDefEqProofs
  refine AAlloc.intro fun b2 h2 => ?_
  have hW : ∀ o, HWk H (H.set b2 o) := fun o => HWk.new h2 (HWk.refl _)
  simp -implicitDefEqProofs
  refine ACall.eq (c_ref7May x hx) ?_
  unfold badE
  cases hm : mayX x with
  | false =>
    simp -implicitDefEqProofs
    exact hW _
  | true =>
    by_cases h1 : t < 0
    · simp -implicitDefEqProofs [h1]
      exact hW _
    · by_cases h2 : 13569465600 ≤ t
      · simp -implicitDefEqProofs [h1, h2]
        exact hW _
      · simp -implicitDefEqProofs [h1, h2]
        exact hW _
theorem c_ref8Fits (x : Ex) (hx : x.ok) {n : Nat} (Y M Dd : Nat) (w : Nat) (hc : civ n = (Y, M, Dd)) (hw : (n + 4) % 7 = w) : AOk Tryz.prog 210 [exAV x, dAV Y M Dd, .sc (.int .i64 w)] H (.sc (.bool (dayB x n))) H := by
  unfold dayB
  rw [hc, hw]
  simp only
  refine ACalls.into Tryz.func210 rfl Tryz.ntmps210 Tryz.results210 (by simp) ?_
  simp -implicitDefEqProofs
  refine AAlloc.intro fun b3 h3 => ?_
  simp -implicitDefEqProofs
  refine AAlloc.intro fun b4 h4 => ?_
  have n43 : b4 ≠ b3 := by intro e; subst e; simp [Heap.set] at h4
  have n34 := n43.symm
  have e4 : H b4 = none := (HLe.set_fresh h3).none h4
  simp -implicitDefEqProofs [n34, n43]
  generalize hK : Heap.set _ b4 _ = K
  have k3 : K b3 = some (.cells (exC x) 42) := by rw [← hK]; simp [Heap.set, n34]
  have k4 : K b4 = some (.cells [.sc (.int .i64 Y), .sc (.int .i64 M), .sc (.int .i64 Dd)] 46) := by rw [← hK]; simp [Heap.set]
  have kW : HWk H K := by rw [← hK]; exact HWk.new e4 (HWk.new h3 (HWk.refl _))
  clear hK
  refine ACall.eq (c_refHas x.c Dd hx.c) ?_
  simp -implicitDefEqProofs [k3, k4]
  refine ACall.eq (c_refHas x.e w hx.e) ?_
  simp -implicitDefEqProofs [k3, k4]
  refine ACall.eq (c_refHas x.d M hx.d) ?_
  obtain ⟨day, hday⟩ : ∃ z, hasB x.c.bits (Dd : Int) = z := ⟨_, rfl⟩
  obtain ⟨week, hweek⟩ : ∃ z, hasB x.e.bits (w : Int) = z := ⟨_, rfl⟩
  obtain ⟨mon, hmon⟩ : ∃ z, hasB x.d.bits (M : Int) = z := ⟨_, rfl⟩
  rw [hday, hweek, hmon]
  cases hsc : x.c.star with
  | true => cases mon <;> cases day <;> cases week <;> simp -implicitDefEqProofs [k3, hsc] <;> exact kW
  | false =>
    cases hse : x.e.star with
    | true => cases mon <;> cases day <;> cases week <;> simp -implicitDefEqProofs [k3, hsc, hse] <;> exact kW
    | false => cases mon <;> cases day <;> cases week <;> simp -implicitDefEqProofs [k3, hsc, hse] <;> exact kW
end Go.Proofs.YtmoncokklkiikaaGreatDoor
namespace Go.Proofs.YtmoncokklkiikaaGreatDoor
open Rg Go
variable {H : Heap}
structure Jb where
  id : Nat
  name : List UInt8
  ex : List UInt8
  pol : Int
  gr : Int
  lim : Int
  ret : Int
  tim : Int
  deps : List Nat
  pau : Bool
  ver : Nat
  seen : Int
abbrev jbC (j : Jb) (t : Tok) : List AV := [.sc (.int .u64 (j.id : Nat)), str j.name, str j.ex, .sc (.int .i64 j.pol), .sc (.int .i64 j.gr), .sc (.int .i64 j.lim), .sc (.int .i64 j.ret), .sc (.int .i64 j.tim), .sl (j.deps.map fun n : Nat => .sc (.int .u64 n)) t, .sc (.bool j.pau), .sc (.int .u64 (j.ver : Nat)), .sc (.int .i64 j.seen)]
abbrev jbAV (j : Jb) (t : Tok) : AV := .agg (jbC j t)
def badJ (j : Jb) : Bool := decide (j.pol < 1) || decide (3 < j.pol) || decide (j.gr < 0) || decide (604800 < j.gr) || decide (j.lim < 1) || decide (8 < j.lim) || decide (j.ret < 0) || decide (5 < j.ret) || decide (j.tim < 1) || decide (86400 < j.tim) || decide (j.seen < -1) || decide (13569465600 ≤ j.seen)
def mayJ (j : Jb) : Int :=
  if j.name.length < 1 then 140 else if 32 < j.name.length then 140 else if (cronK j.ex).2 ≠ 0 then (cronK j.ex).2 else if 8 < j.deps.length then 3 else if badJ j = true then 2 else 0
set_option maxHeartbeats 4000000 in
theorem c_jobMay (hG : Glob H) (j : Jb) (t : Tok) (hs : j.ex.length ≤ 9223372036854775807) : AOk Tryz.prog 16 [jbAV j t] H (.sc (.int .i64 (mayJ j))) H := by
  unfold mayJ
  refine ACalls.into Tryz.func16 rfl Tryz.ntmps16 Tryz.results16 (by simp) ?_
  simp -implicitDefEqProofs
  refine AAlloc.intro fun b1 h1 => ?_
  simp -implicitDefEqProofs
  generalize hK : Heap.set _ b1 _ = K1
  have k1 : K1 b1 = some (.cells (jbC j t) 25) := by rw [← hK]; simp [Heap.set]
  have kG : Glob K1 := by rw [← hK]; exact hG.new h1
  have kW : HWk H K1 := by rw [← hK]; exact HWk.new h1 (HWk.refl _)
  clear hK
  by_cases c0 : j.name = []
  · simp -implicitDefEqProofs [c0]
    exact kW
  · have c1 : ¬ j.name.length < 1 := by
      have := List.length_pos_iff.2 c0
      omega
    have c1' : ¬ (j.name.length : Int) < 1 := by omega
    by_cases c2 : 32 < j.name.length
    · have c2' : (32 : Int) < (j.name.length : Int) := by omega
      simp -implicitDefEqProofs [k1, c0, c1', c2, c2']
      exact kW
    · have c2' : ¬ (32 : Int) < (j.name.length : Int) := by omega
      simp -implicitDefEqProofs [k1, c0, c1', c2, c2']
      have hp := c_cronParse kG j.ex hs
      generalize cronK j.ex = p at *
      obtain ⟨x, e⟩ := p
      simp only at hp ⊢
      refine ACall.eq hp ?_
      simp -implicitDefEqProofs
      refine AAlloc.intro fun b3 h3 => ?_
      have n13 : b1 ≠ b3 := by intro e; subst e; rw [k1] at h3; cases h3
      have kW3 : ∀ o, HWk H (K1.set b3 o) := fun o => HWk.new (kW.none h3) kW
      by_cases he : e = 0
      · subst he
        simp -implicitDefEqProofs [n13, k1]
        generalize hK : Heap.set K1 b3 _ = K3
        have k3 : K3 b1 = some (.cells (jbC j t) 25) := by rw [← hK]; simp [Heap.set, n13, k1]
        have kW3 : HWk H K3 := by rw [← hK]; exact kW3 _
        clear hK
        by_cases c3 : 8 < j.deps.length
        · have c3' : (8 : Int) < (j.deps.length : Int) := by omega
          simp -implicitDefEqProofs [c3, c3']
          exact kW3
        · have c3' : ¬ (8 : Int) < (j.deps.length : Int) := by omega
          by_cases q0 : j.pol < 1
          · simp -implicitDefEqProofs [k3, c3, c3', q0, badJ]
            exact kW3
          · by_cases q1 : 3 < j.pol
            · simp -implicitDefEqProofs [k3, c3, c3', q0, q1, badJ]
              exact kW3
            · by_cases q2 : j.gr < 0
              · simp -implicitDefEqProofs [k3, c3, c3', q0, q1, q2, badJ]
                exact kW3
              · by_cases q3 : 604800 < j.gr
                · simp -implicitDefEqProofs [k3, c3, c3', q0, q1, q2, q3, badJ]
                  exact kW3
                · by_cases q4 : j.lim < 1
                  · simp -implicitDefEqProofs [k3, c3, c3', q0, q1, q2, q3, q4, badJ]
                    exact kW3
                  · by_cases q5 : 8 < j.lim
                    · simp -implicitDefEqProofs [k3, c3, c3', q0, q1, q2, q3, q4, q5, badJ]
                      exact kW3
                    · by_cases q6 : j.ret < 0
                      · simp -implicitDefEqProofs [k3, c3, c3', q0, q1, q2, q3, q4, q5, q6, badJ]
                        exact kW3
                      · by_cases q7 : 5 < j.ret
                        · simp -implicitDefEqProofs [k3, c3, c3', q0, q1, q2, q3, q4, q5, q6, q7, badJ]
                          exact kW3
                        · by_cases q8 : j.tim < 1
                          · simp -implicitDefEqProofs [k3, c3, c3', q0, q1, q2, q3, q4, q5, q6, q7, q8, badJ]
                            exact kW3
                          · by_cases q9 : 86400 < j.tim
                            · simp -implicitDefEqProofs [k3, c3, c3', q0, q1, q2, q3, q4, q5, q6, q7, q8, q9, badJ]
                              exact kW3
                            · by_cases q10 : j.seen < -1
                              · simp -implicitDefEqProofs [k3, c3, c3', q0, q1, q2, q3, q4, q5, q6, q7, q8, q9, q10, badJ]
                                exact kW3
                              · by_cases q11 : 13569465600 ≤ j.seen
                                · simp -implicitDefEqProofs [k3, c3, c3', q0, q1, q2, q3, q4, q5, q6, q7, q8, q9, q10, q11, badJ]
                                  exact kW3
                                · simp -implicitDefEqProofs [k3, c3, c3', q0, q1, q2, q3, q4, q5, q6, q7, q8, q9, q10, q11, badJ]
                                  exact kW3
      · simp -implicitDefEqProofs [he]
        exact kW3 _
set_option maxHeartbeats 8000000 in
theorem c_ref14May (j : Jb) (t : Tok) (hs : j.ex.length ≤ 1000000) : AOk Tryz.prog 65 [jbAV j t] H (.sc (.int .i64 (mayJ j))) H := by
  unfold mayJ
  refine ACalls.into Tryz.func65 rfl Tryz.ntmps65 Tryz.results65 (by simp) ?_
  simp -implicitDefEqProofs
  refine AAlloc.intro fun b1 h1 => ?_
  simp -implicitDefEqProofs
  generalize hK : Heap.set _ b1 _ = K1
  have k1 : K1 b1 = some (.cells (jbC j t) 25) := by rw [← hK]; simp [Heap.set]
  have kW : HWk H K1 := by rw [← hK]; exact HWk.new h1 (HWk.refl _)
  clear hK
  by_cases c1 : j.name = []
  · simp -implicitDefEqProofs [c1]
    exact kW
  · have c1' : ¬ j.name.length < 1 := by
      have := List.length_pos_iff.2 c1
      omega
    have c1e : j.name.isEmpty = false := by simp [c1]
    by_cases c2 : 32 < j.name.length
    · have c2' : (32 : Int) < (j.name.length : Int) := by omega
      simp -implicitDefEqProofs [k1, c1, c1e, c2, c2']
      exact kW
    · have c2' : ¬ (32 : Int) < (j.name.length : Int) := by omega
      simp -implicitDefEqProofs [k1, c1, c1e, c2, c2']
      have hp := c_ref7Parse (H := K1) j.ex hs
      generalize cronK j.ex = p at *
      obtain ⟨x, e⟩ := p
      simp only at hp ⊢
      refine ACall.eq hp ?_
      simp -implicitDefEqProofs
      refine AAlloc.intro fun b3 h3 => ?_
      have n13 : b1 ≠ b3 := by intro e; subst e; rw [k1] at h3; cases h3
      have kW3 : ∀ o, HWk H (K1.set b3 o) := fun o => HWk.new (kW.none h3) kW
      by_cases he : e = 0
      · subst he
        simp -implicitDefEqProofs [n13, k1]
        generalize hK : Heap.set K1 b3 _ = K3
        have k3 : K3 b1 = some (.cells (jbC j t) 25) := by rw [← hK]; simp [Heap.set, n13, k1]
        have kW3 : HWk H K3 := by rw [← hK]; exact kW3 _
        clear hK
        by_cases c3 : 8 < j.deps.length
        · have c3' : (8 : Int) < (j.deps.length : Int) := by omega
          simp -implicitDefEqProofs [c3, c3']
          exact kW3
        · have c3' : ¬ (8 : Int) < (j.deps.length : Int) := by omega
          by_cases p1 : j.pol = 1
          · by_cases q0 : j.gr < 0
            · simp -implicitDefEqProofs [k3, c3, c3', p1, q0, badJ]
              exact kW3
            · by_cases q1 : 604800 < j.gr
              · simp -implicitDefEqProofs [k3, c3, c3', p1, q0, q1, badJ]
                exact kW3
              · by_cases q2 : j.lim < 1
                · simp -implicitDefEqProofs [k3, c3, c3', p1, q0, q1, q2, badJ]
                  exact kW3
                · by_cases q3 : 8 < j.lim
                  · simp -implicitDefEqProofs [k3, c3, c3', p1, q0, q1, q2, q3, badJ]
                    exact kW3
                  · by_cases q4 : j.ret < 0
                    · simp -implicitDefEqProofs [k3, c3, c3', p1, q0, q1, q2, q3, q4, badJ]
                      exact kW3
                    · by_cases q5 : 5 < j.ret
                      · simp -implicitDefEqProofs [k3, c3, c3', p1, q0, q1, q2, q3, q4, q5, badJ]
                        exact kW3
                      · by_cases q6 : j.tim < 1
                        · simp -implicitDefEqProofs [k3, c3, c3', p1, q0, q1, q2, q3, q4, q5, q6, badJ]
                          exact kW3
                        · by_cases q7 : 86400 < j.tim
                          · simp -implicitDefEqProofs [k3, c3, c3', p1, q0, q1, q2, q3, q4, q5, q6, q7, badJ]
                            exact kW3
                          · by_cases q8 : j.seen < -1
                            · simp -implicitDefEqProofs [k3, c3, c3', p1, q0, q1, q2, q3, q4, q5, q6, q7, q8, badJ]
                              exact kW3
                            · by_cases q9 : 13569465600 ≤ j.seen
                              · have r : 13569465599 < j.seen := by omega
                                simp -implicitDefEqProofs [k3, c3, c3', p1, q0, q1, q2, q3, q4, q5, q6, q7, q8, q9, r, badJ]
                                exact kW3
                              · have r : ¬ 13569465599 < j.seen := by omega
                                simp -implicitDefEqProofs [k3, c3, c3', p1, q0, q1, q2, q3, q4, q5, q6, q7, q8, q9, r, badJ]
                                exact kW3
          · by_cases p2 : j.pol = 2
            · by_cases q0 : j.gr < 0
              · simp -implicitDefEqProofs [k3, c3, c3', p2, q0, badJ]
                exact kW3
              · by_cases q1 : 604800 < j.gr
                · simp -implicitDefEqProofs [k3, c3, c3', p2, q0, q1, badJ]
                  exact kW3
                · by_cases q2 : j.lim < 1
                  · simp -implicitDefEqProofs [k3, c3, c3', p2, q0, q1, q2, badJ]
                    exact kW3
                  · by_cases q3 : 8 < j.lim
                    · simp -implicitDefEqProofs [k3, c3, c3', p2, q0, q1, q2, q3, badJ]
                      exact kW3
                    · by_cases q4 : j.ret < 0
                      · simp -implicitDefEqProofs [k3, c3, c3', p2, q0, q1, q2, q3, q4, badJ]
                        exact kW3
                      · by_cases q5 : 5 < j.ret
                        · simp -implicitDefEqProofs [k3, c3, c3', p2, q0, q1, q2, q3, q4, q5, badJ]
                          exact kW3
                        · by_cases q6 : j.tim < 1
                          · simp -implicitDefEqProofs [k3, c3, c3', p2, q0, q1, q2, q3, q4, q5, q6, badJ]
                            exact kW3
                          · by_cases q7 : 86400 < j.tim
                            · simp -implicitDefEqProofs [k3, c3, c3', p2, q0, q1, q2, q3, q4, q5, q6, q7, badJ]
                              exact kW3
                            · by_cases q8 : j.seen < -1
                              · simp -implicitDefEqProofs [k3, c3, c3', p2, q0, q1, q2, q3, q4, q5, q6, q7, q8, badJ]
                                exact kW3
                              · by_cases q9 : 13569465600 ≤ j.seen
                                · have r : 13569465599 < j.seen := by omega
                                  simp -implicitDefEqProofs [k3, c3, c3', p2, q0, q1, q2, q3, q4, q5, q6, q7, q8, q9, r, badJ]
                                  exact kW3
                                · have r : ¬ 13569465599 < j.seen := by omega
                                  simp -implicitDefEqProofs [k3, c3, c3', p2, q0, q1, q2, q3, q4, q5, q6, q7, q8, q9, r, badJ]
                                  exact kW3
            · by_cases p3 : j.pol = 3
              · by_cases q0 : j.gr < 0
                · simp -implicitDefEqProofs [k3, c3, c3', p3, q0, badJ]
                  exact kW3
                · by_cases q1 : 604800 < j.gr
                  · simp -implicitDefEqProofs [k3, c3, c3', p3, q0, q1, badJ]
                    exact kW3
                  · by_cases q2 : j.lim < 1
                    · simp -implicitDefEqProofs [k3, c3, c3', p3, q0, q1, q2, badJ]
                      exact kW3
                    · by_cases q3 : 8 < j.lim
                      · simp -implicitDefEqProofs [k3, c3, c3', p3, q0, q1, q2, q3, badJ]
                        exact kW3
                      · by_cases q4 : j.ret < 0
                        · simp -implicitDefEqProofs [k3, c3, c3', p3, q0, q1, q2, q3, q4, badJ]
                          exact kW3
                        · by_cases q5 : 5 < j.ret
                          · simp -implicitDefEqProofs [k3, c3, c3', p3, q0, q1, q2, q3, q4, q5, badJ]
                            exact kW3
                          · by_cases q6 : j.tim < 1
                            · simp -implicitDefEqProofs [k3, c3, c3', p3, q0, q1, q2, q3, q4, q5, q6, badJ]
                              exact kW3
                            · by_cases q7 : 86400 < j.tim
                              · simp -implicitDefEqProofs [k3, c3, c3', p3, q0, q1, q2, q3, q4, q5, q6, q7, badJ]
                                exact kW3
                              · by_cases q8 : j.seen < -1
                                · simp -implicitDefEqProofs [k3, c3, c3', p3, q0, q1, q2, q3, q4, q5, q6, q7, q8, badJ]
                                  exact kW3
                                · by_cases q9 : 13569465600 ≤ j.seen
                                  · have r : 13569465599 < j.seen := by omega
                                    simp -implicitDefEqProofs [k3, c3, c3', p3, q0, q1, q2, q3, q4, q5, q6, q7, q8, q9, r, badJ]
                                    exact kW3
                                  · have r : ¬ 13569465599 < j.seen := by omega
                                    simp -implicitDefEqProofs [k3, c3, c3', p3, q0, q1, q2, q3, q4, q5, q6, q7, q8, q9, r, badJ]
                                    exact kW3
              · have hb : badJ j = true := by
                  by_cases g : j.pol < 1
                  · simp [badJ, g]
                  · have g2 : 3 < j.pol := by omega
                    simp [badJ, g2]
                simp -implicitDefEqProofs [k3, c3, c3', p1, p2, p3, hb]
                exact kW3
      · simp -implicitDefEqProofs [he]
        exact kW3 _
end Go.Proofs.YtmoncokklkiikaaGreatDoor
