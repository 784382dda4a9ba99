/- The document's parse of any expression. The document's expressions: which may be, which clocks fit. The document's moments of clocks; which clocks fit; texts of expressions. Looking for firings, in plain words: what is known on the way, down (Last) and up (After), by hours and minutes, or minute by minute. -/
import Derived.Test.YtmoncokklkiikaaGreatDoorP20
import Derived.Test.YtmoncokklkiikaaGreatDoorP16
import Derived.Test.YtmoncokklkiikaaGreatDoorP17
set_option linter.unusedSimpArgs false
set_option linter.unusedVariables false
set_option linter.unnecessarySimpa false
namespace Go.Proofs.YtmoncokklkiikaaGreatDoor
open Rg Go
variable {H : Heap}
theorem cronK_name {n x : List UInt8} (hl : ¬ 400 < n.length) (hp : Lib.hasPrefix n [64] = true) (h : namedL n = x) : cronK n = cronB x := by
  unfold cronK
  rw [if_neg hl, if_pos hp, h]
theorem prefix64 (s : List UInt8) : (Lib.hasPrefix s [64] = false ∧ (¬ 0 < s.length ∨ ∃ h : 0 < s.length, ¬ s[0].toNat = 64)) ∨ (Lib.hasPrefix s [64] = true ∧ ∃ h : 0 < s.length, s[0].toNat = 64) := by
  cases s with
  | nil => exact .inl ⟨rfl, .inl (by simp)⟩
  | cons c r =>
    have e : Lib.hasPrefix (c :: r) [64] = (64 == c) := by unfold Lib.hasPrefix; simp [List.isPrefixOf]
    by_cases hc : c = 64
    · exact .inr ⟨by rw [e, hc]; rfl, by simp, by simp [hc]⟩
    · exact .inl ⟨by rw [e]; simpa using Ne.symm hc, .inr ⟨by simp, fun h => hc (UInt8.toNat_inj.1 (by simpa using h))⟩⟩
theorem namedL_none {s : List UInt8} (h : ∀ q, q < 7 → nmL.getD (2 * q) [] ≠ s) : namedL s = [] := by
  have h0 := h 0 (by omega)
  have h1 := h 1 (by omega)
  have h2 := h 2 (by omega)
  have h3 := h 3 (by omega)
  have h4 := h 4 (by omega)
  have h5 := h 5 (by omega)
  have h6 := h 6 (by omega)
  unfold namedL
  rw [if_neg (fun e => h0 e.symm), if_neg (fun e => h1 e.symm), if_neg (fun e => h2 e.symm), if_neg (fun e => h3 e.symm), if_neg (fun e => h4 e.symm), if_neg (fun e => h5 e.symm), if_neg (fun e => h6 e.symm)]
set_option maxHeartbeats 1000000 in
theorem c_ref7Parse (s : List UInt8) (hs : s.length ≤ 1000000) : AOk Tryz.prog 64 [str s] H (.tup [exAV (cronK s).1, .sc (.int .i64 (cronK s).2)]) H := by
  rcases prefix64 s with ⟨hp, hnp⟩ | ⟨hp, h0, h64⟩
  · have h := c_ref7Plain (H := H) s hs hnp
    have e : cronK s = if 400 < s.length then (ex0, 3) else cronB s := by unfold cronK; rw [hp]; rfl
    rw [e]; exact h
  · by_cases hl : 400 < s.length
    · have hl' : (400 : Int) < s.length := by omega
      have e : cronK s = (ex0, 3) := by unfold cronK; rw [if_pos hl]
      rw [e]
      refine ACalls.into Tryz.func64 rfl Tryz.ntmps64 Tryz.results64 (by simp) ?_
      simp -implicitDefEqProofs [ex0, f0]
      refine AAlloc.intro fun b2 h2 => ?_
      simp -implicitDefEqProofs [hl, hl']
      exact HWk.new h2 (HWk.refl _)
    · have hl' : ¬ (400 : Int) < s.length := by omega
      have h0' : (0 : Int) < s.length := by omega
      have h64' : (s[0].toNat : Int) = 64 := by omega
      refine ACalls.into Tryz.func64 rfl Tryz.ntmps64 Tryz.results64 (by simp) ?_
      simp -implicitDefEqProofs
      refine AAlloc.intro fun b2 h2 => ?_
      simp -implicitDefEqProofs [hl, hl', h0, h0', h64, h64']
      generalize hK : Heap.set _ b2 _ = K0
      have k2 : K0 b2 = some (.cells (exC ex0) 42) := by rw [← hK]; simp [Heap.set, ex0, f0]
      have kW : HWk H K0 := by rw [← hK]; exact HWk.new h2 (HWk.refl _)
      clear hK h64 h64'
      refine ACall.eq c_refNames ?_
      simp -implicitDefEqProofs
      refine AGo.rounds (fun m ρ K => ∃ q : Nat, q ≤ 7 ∧ m = 7 - q ∧ ρ 0 = str s ∧ ρ 2 = .sc (.pointer (some ⟨b2, 0, none⟩)) ∧ ρ 4 = .sl (strL nmL) .no ∧ ρ 5 = .sc (.int .i64 (2 * q : Nat)) ∧ (∀ q', q' < q → nmL.getD (2 * q') [] ≠ s) ∧ K = K0) ?_ (m := 7) (HLe.refl _)
        ⟨0, by omega, rfl, by simp, by simp, by simp, by simp, fun q' hq => by omega, rfl⟩
      rintro m ρ K ih ⟨q, hq, rfl, r0, r2, r4, r5, hne, rfl⟩
      have hc : q = 0 ∨ q = 1 ∨ q = 2 ∨ q = 3 ∨ q = 4 ∨ q = 5 ∨ q = 6 ∨ q = 7 := by omega
      rcases hc with rfl | rfl | rfl | rfl | rfl | rfl | rfl | rfl
      · skip
        by_cases hs : nHourly = s
        · subst hs
          have e : cronK nHourly = cronB xHourly := cronK_name (by decide) (by decide) (by decide)
          have hpl := c_ref7Plain (H := K) xHourly (by decide) (.inr ⟨by decide, by decide⟩)
          rw [if_neg (by decide)] at hpl
          rw [e]
          simp -implicitDefEqProofs [r0, r2, r4, r5, nmL, wrap_i64]
          refine ACall.eq hpl ?_
          simp -implicitDefEqProofs [r2, k2]
          exact HWk.new h2 kW
        · have hb : (nHourly == s) = false := by simpa using hs
          simp -implicitDefEqProofs [r0, r2, r4, r5, nmL, hb, wrap_i64]
          exact AGo.again ih (m' := 6) (by omega) (HLe.refl _) ⟨1, by omega, rfl, by simp [r0], by simp [r2], by simp [r4, nmL], by simp, lt_succ_all (P := fun q : Nat => nmL.getD (2 * q) [] ≠ s) hne hs, rfl⟩
      · skip
        by_cases hs : nDaily = s
        · subst hs
          have e : cronK nDaily = cronB xDaily := cronK_name (by decide) (by decide) (by decide)
          have hpl := c_ref7Plain (H := K) xDaily (by decide) (.inr ⟨by decide, by decide⟩)
          rw [if_neg (by decide)] at hpl
          rw [e]
          simp -implicitDefEqProofs [r0, r2, r4, r5, nmL, wrap_i64]
          refine ACall.eq hpl ?_
          simp -implicitDefEqProofs [r2, k2]
          exact HWk.new h2 kW
        · have hb : (nDaily == s) = false := by simpa using hs
          simp -implicitDefEqProofs [r0, r2, r4, r5, nmL, hb, wrap_i64]
          exact AGo.again ih (m' := 5) (by omega) (HLe.refl _) ⟨2, by omega, rfl, by simp [r0], by simp [r2], by simp [r4, nmL], by simp, lt_succ_all (P := fun q : Nat => nmL.getD (2 * q) [] ≠ s) hne hs, rfl⟩
      · skip
        by_cases hs : nMidnight = s
        · subst hs
          have e : cronK nMidnight = cronB xDaily := cronK_name (by decide) (by decide) (by decide)
          have hpl := c_ref7Plain (H := K) xDaily (by decide) (.inr ⟨by decide, by decide⟩)
          rw [if_neg (by decide)] at hpl
          rw [e]
          simp -implicitDefEqProofs [r0, r2, r4, r5, nmL, wrap_i64]
          refine ACall.eq hpl ?_
          simp -implicitDefEqProofs [r2, k2]
          exact HWk.new h2 kW
        · have hb : (nMidnight == s) = false := by simpa using hs
          simp -implicitDefEqProofs [r0, r2, r4, r5, nmL, hb, wrap_i64]
          exact AGo.again ih (m' := 4) (by omega) (HLe.refl _) ⟨3, by omega, rfl, by simp [r0], by simp [r2], by simp [r4, nmL], by simp, lt_succ_all (P := fun q : Nat => nmL.getD (2 * q) [] ≠ s) hne hs, rfl⟩
      · skip
        by_cases hs : nWeekly = s
        · subst hs
          have e : cronK nWeekly = cronB xWeekly := cronK_name (by decide) (by decide) (by decide)
          have hpl := c_ref7Plain (H := K) xWeekly (by decide) (.inr ⟨by decide, by decide⟩)
          rw [if_neg (by decide)] at hpl
          rw [e]
          simp -implicitDefEqProofs [r0, r2, r4, r5, nmL, wrap_i64]
          refine ACall.eq hpl ?_
          simp -implicitDefEqProofs [r2, k2]
          exact HWk.new h2 kW
        · have hb : (nWeekly == s) = false := by simpa using hs
          simp -implicitDefEqProofs [r0, r2, r4, r5, nmL, hb, wrap_i64]
          exact AGo.again ih (m' := 3) (by omega) (HLe.refl _) ⟨4, by omega, rfl, by simp [r0], by simp [r2], by simp [r4, nmL], by simp, lt_succ_all (P := fun q : Nat => nmL.getD (2 * q) [] ≠ s) hne hs, rfl⟩
      · skip
        by_cases hs : nMonthly = s
        · subst hs
          have e : cronK nMonthly = cronB xMonthly := cronK_name (by decide) (by decide) (by decide)
          have hpl := c_ref7Plain (H := K) xMonthly (by decide) (.inr ⟨by decide, by decide⟩)
          rw [if_neg (by decide)] at hpl
          rw [e]
          simp -implicitDefEqProofs [r0, r2, r4, r5, nmL, wrap_i64]
          refine ACall.eq hpl ?_
          simp -implicitDefEqProofs [r2, k2]
          exact HWk.new h2 kW
        · have hb : (nMonthly == s) = false := by simpa using hs
          simp -implicitDefEqProofs [r0, r2, r4, r5, nmL, hb, wrap_i64]
          exact AGo.again ih (m' := 2) (by omega) (HLe.refl _) ⟨5, by omega, rfl, by simp [r0], by simp [r2], by simp [r4, nmL], by simp, lt_succ_all (P := fun q : Nat => nmL.getD (2 * q) [] ≠ s) hne hs, rfl⟩
      · skip
        by_cases hs : nYearly = s
        · subst hs
          have e : cronK nYearly = cronB xYearly := cronK_name (by decide) (by decide) (by decide)
          have hpl := c_ref7Plain (H := K) xYearly (by decide) (.inr ⟨by decide, by decide⟩)
          rw [if_neg (by decide)] at hpl
          rw [e]
          simp -implicitDefEqProofs [r0, r2, r4, r5, nmL, wrap_i64]
          refine ACall.eq hpl ?_
          simp -implicitDefEqProofs [r2, k2]
          exact HWk.new h2 kW
        · have hb : (nYearly == s) = false := by simpa using hs
          simp -implicitDefEqProofs [r0, r2, r4, r5, nmL, hb, wrap_i64]
          exact AGo.again ih (m' := 1) (by omega) (HLe.refl _) ⟨6, by omega, rfl, by simp [r0], by simp [r2], by simp [r4, nmL], by simp, lt_succ_all (P := fun q : Nat => nmL.getD (2 * q) [] ≠ s) hne hs, rfl⟩
      · skip
        by_cases hs : nAnnually = s
        · subst hs
          have e : cronK nAnnually = cronB xYearly := cronK_name (by decide) (by decide) (by decide)
          have hpl := c_ref7Plain (H := K) xYearly (by decide) (.inr ⟨by decide, by decide⟩)
          rw [if_neg (by decide)] at hpl
          rw [e]
          simp -implicitDefEqProofs [r0, r2, r4, r5, nmL, wrap_i64]
          refine ACall.eq hpl ?_
          simp -implicitDefEqProofs [r2, k2]
          exact HWk.new h2 kW
        · have hb : (nAnnually == s) = false := by simpa using hs
          simp -implicitDefEqProofs [r0, r2, r4, r5, nmL, hb, wrap_i64]
          exact AGo.again ih (m' := 0) (by omega) (HLe.refl _) ⟨7, by omega, rfl, by simp [r0], by simp [r2], by simp [r4, nmL], by simp, lt_succ_all (P := fun q : Nat => nmL.getD (2 * q) [] ≠ s) hne hs, rfl⟩
      · have e : cronK s = (ex0, 70) := by
          unfold cronK
          rw [if_neg hl, if_pos hp, namedL_none hne]
          rfl
        rw [e]
        simp -implicitDefEqProofs [r4, r5, r2, nmL, k2, ex0, f0]
        exact HWk.new h2 kW
end Go.Proofs.YtmoncokklkiikaaGreatDoor
namespace Go.Proofs.YtmoncokklkiikaaGreatDoor
open Rg Go
variable {H : Heap}
theorem c_ref4LongOut {y m : Int} (h : m < 1 ∨ 12 < m) : AOk Tryz.prog 159 [.sc (.int .i64 y), .sc (.int .i64 m)] H (.sc (.int .i64 0)) H := by
  have e1 : ¬ m = 1 := by omega
  have e2 : ¬ m = 2 := by omega
  have e3 : ¬ m = 3 := by omega
  have e4 : ¬ m = 4 := by omega
  have e5 : ¬ m = 5 := by omega
  have e6 : ¬ m = 6 := by omega
  have e7 : ¬ m = 7 := by omega
  have e8 : ¬ m = 8 := by omega
  have e9 : ¬ m = 9 := by omega
  have e10 : ¬ m = 10 := by omega
  have e11 : ¬ m = 11 := by omega
  have e12 : ¬ m = 12 := by omega
  refine ACalls.into Tryz.func159 rfl Tryz.ntmps159 Tryz.results159 (by simp) ?_
  simp -implicitDefEqProofs [e1, e2, e3, e4, e5, e6, e7, e8, e9, e10, e11, e12]
theorem c_ref4LongI {y : Nat} {m : Int} : AOk Tryz.prog 159 [.sc (.int .i64 y), .sc (.int .i64 m)] H (.sc (.int .i64 (longI y m))) H := by
  by_cases h : m < 1 ∨ 12 < m
  · have e : longI y m = 0 := by unfold longI; rw [if_pos h]
    rw [e]
    exact c_ref4LongOut h
  · obtain ⟨M, rfl⟩ := Int.eq_ofNat_of_zero_le (a := m) (by omega)
    rw [long_nat y (by omega) (by omega)]
    exact c_ref4Long (by omega) (by omega)
theorem c_ref4May (y m d : Int) : AOk Tryz.prog 157 [dAV y m d] H (.sc (.bool (mayD y m d))) H := by
  refine ACalls.into Tryz.func157 rfl Tryz.ntmps157 Tryz.results157 (by simp) ?_
  simp -implicitDefEqProofs
  refine AAlloc.intro fun b hb => ?_
  have hW : ∀ o, HWk H (H.set b o) := fun o => HWk.new hb (HWk.refl _)
  unfold mayD
  simp -implicitDefEqProofs
  refine go_draw 24 f_mixed (by decide +kernel) ?_
  by_cases h1 : 1970 ≤ y
  · by_cases h2 : y ≤ 2399
    · by_cases h3 : 1 ≤ d
      · obtain ⟨Y, rfl⟩ := Int.eq_ofNat_of_zero_le (a := y) (by omega)
        simp -implicitDefEqProofs [h1, h2, h3]
        refine AQS.eq (c_ref4LongI (y := Y) (m := m)) ?_
        simp -implicitDefEqProofs
        exact hW _
      · simp -implicitDefEqProofs [h1, h2, h3]
        exact hW _
    · simp -implicitDefEqProofs [h1, h2]
      exact hW _
  · simp -implicitDefEqProofs [h1]
    exact hW _
theorem c_ref4Days_bad {y m d : Int} (h : mayD y m d = false) : AOk Tryz.prog 109 [dAV y m d] H (.tup [.sc (.int .i64 0), .sc (.int .i64 2)]) H := by
  refine ACalls.into Tryz.func109 rfl Tryz.ntmps109 Tryz.results109 (by simp) ?_
  simp -implicitDefEqProofs
  refine AAlloc.intro fun b hb => ?_
  simp -implicitDefEqProofs
  refine ACall.eq (c_ref4May y m d) ?_
  simp -implicitDefEqProofs [h]
  exact HWk.new hb (HWk.refl _)
theorem c_ref4Days {y m d : Nat} (h : mayD (y : Int) (m : Int) (d : Int) = true) : AOk Tryz.prog 109 [dAV y m d] H (.tup [.sc (.int .i64 (daysN y m d)), .sc (.int .i64 0)]) H := by
  obtain ⟨i, dd, hi, hdd, h1, h2, h3⟩ := mayD_in h
  have e : daysN y m d = mFirst i + dd := by rw [← days_of i dd]; congr 1 <;> omega
  have hlt := mFirst_mono (i := i + 1) (j := 5160) (by omega) (Nat.le_refl _)
  rw [mFirst_succ hi, mFirst_end] at hlt
  rw [e]
  obtain ⟨r, hr⟩ : ∃ r, mFirst i + dd = r := ⟨_, rfl⟩
  rw [hr]
  have hy : y = 1970 + i / 12 := by omega
  have hmm : m = i % 12 + 1 := by omega
  have hd : d = dd + 1 := by omega
  clear h1 h2 h3 e
  refine ACalls.into Tryz.func109 rfl Tryz.ntmps109 Tryz.results109 (by simp) ?_
  simp -implicitDefEqProofs
  refine AAlloc.intro fun b hb => ?_
  simp -implicitDefEqProofs
  generalize hK : Heap.set _ b _ = K0
  have kb : K0 b = some (.cells [.sc (.int .i64 y), .sc (.int .i64 m), .sc (.int .i64 d)] 46) := by rw [← hK]; simp [Heap.set]
  have kW : HWk H K0 := by rw [← hK]; exact HWk.new hb (HWk.refl _)
  clear hK
  refine ACall.eq (c_ref4May y m d) ?_
  obtain ⟨B, hB⟩ : ∃ B, mFirst (12 * (i / 12)) = B := ⟨_, rfl⟩
  simp -implicitDefEqProofs [h]
  refine AGo.joinLoop (fun ρ K => K = K0 ∧ ρ 1 = .sc (.pointer (some ⟨b, 0, none⟩)) ∧ ρ 4 = .sc (.int .i64 B)) (fun k' hk' => ?_) ?_
  · refine AGo.rounds (fun mm ρ K => ∃ j Y N : Nat, j ≤ i / 12 ∧ mm = 430 - j ∧ Y = 1970 + j ∧ N = mFirst (12 * j) ∧ ρ 1 = .sc (.pointer (some ⟨b, 0, none⟩)) ∧ ρ 4 = .sc (.int .i64 N) ∧ ρ 5 = .sc (.int .i64 Y) ∧ K = K0) ?_ (m := 430) (HLe.refl _)
      ⟨0, 1970, 0, by omega, rfl, rfl, by rw [show 12 * 0 = 0 from rfl, mFirst_zero], by simp, by simp, by simp, rfl⟩
    rintro mm ρ K ih ⟨j, Y, N, hj, rfl, hY, hN, r1, r4, r5, rfl⟩
    by_cases hlast : j = i / 12
    · have c1 : ¬ (Y : Int) < (y : Int) := by omega
      have c1' : ¬ Y < y := by omega
      have hNB : N = B := by rw [hN, hlast, hB]
      simp -implicitDefEqProofs [r1, r5, kb, c1, c1']
      exact hk' _ _ ⟨rfl, by simp [r1], by simp [r4, hNB]⟩
    · have c1 : (Y : Int) < (y : Int) := by omega
      have c1' : Y < y := by omega
      have hj4 : j < 430 := by omega
      have hys := year_succ hj4
      rw [← hY, ← hN] at hys
      have hb2 : mFirst (12 * (j + 1)) ≤ mFirst i := mFirst_mono (by omega) (by omega)
      obtain ⟨N', hN'⟩ : ∃ x, x = mFirst (12 * (j + 1)) := ⟨_, rfl⟩
      rw [← hN'] at hys hb2
      obtain ⟨Y', hY'⟩ : ∃ x, x = 1970 + (j + 1) := ⟨_, rfl⟩
      have wY : IntKind.i64.wrap ((Y : Int) + 1) = (Y' : Int) := wadd (b := 1) (by omega) (by omega)
      obtain ⟨N1, hN1⟩ : ∃ x, N + 365 = x := ⟨_, rfl⟩
      have w1 : IntKind.i64.wrap ((N : Int) + 365) = (N1 : Int) := wadd (b := 365) hN1 (by omega)
      simp -implicitDefEqProofs [r1, r4, r5, kb, c1, c1', w1]
      refine ACall.eq (c_ref4Leap Y) ?_
      unfold yearLen at hys
      cases hl : leapN Y with
      | true =>
        rw [if_pos hl] at hys
        have w2 : IntKind.i64.wrap ((N1 : Int) + 1) = (N' : Int) := wadd (b := 1) (by omega) (by omega)
        simp -implicitDefEqProofs [r5, w2, wY]
        exact AGo.again ih (m' := 430 - (j + 1)) (by omega) (HLe.refl _) ⟨j + 1, Y', N', by omega, rfl, hY', hN', by simp [r1], by simp, by simp, rfl⟩
      | false =>
        rw [if_neg (by simp [hl])] at hys
        have e2 : N1 = N' := by omega
        simp -implicitDefEqProofs [r5, wY]
        exact AGo.again ih (m' := 430 - (j + 1)) (by omega) (HLe.refl _) ⟨j + 1, Y', N', by omega, rfl, hY', hN', by simp [r1], by simp [e2], by simp, rfl⟩
  · rintro ρ K ⟨rfl, r1, r4⟩
    simp -implicitDefEqProofs [r1, r4]
    refine AGo.rounds (fun mm ρ K2 => ∃ q M N : Nat, q ≤ i % 12 ∧ mm = 12 - q ∧ M = q + 1 ∧ N = mFirst (12 * (i / 12) + q) ∧ ρ 1 = .sc (.pointer (some ⟨b, 0, none⟩)) ∧ ρ 4 = .sc (.int .i64 N) ∧ ρ 6 = .sc (.int .i64 M) ∧ K2 = K) ?_ (m := 12) (HLe.refl _)
      ⟨0, 1, B, by omega, rfl, rfl, hB.symm, by simp [r1], by simp [r4], by simp, rfl⟩
    rintro mm ρ K2 ih ⟨q, M, N, hq, rfl, hM, hN, r1, r4, r6, rfl⟩
    by_cases hlast : q = i % 12
    · have c1 : ¬ (M : Int) < (m : Int) := by omega
      have c1' : ¬ M < m := by omega
      have hii : 12 * (i / 12) + q = i := by omega
      rw [hii] at hN
      obtain ⟨N1, hN1⟩ : ∃ x, N + d = x := ⟨_, rfl⟩
      have w1 : IntKind.i64.wrap ((N : Int) + (d : Int)) = (N1 : Int) := wadd hN1 (by omega)
      have w2 : IntKind.i64.wrap ((N1 : Int) - 1) = (r : Int) := wsub (b := 1) (by omega) (by omega) (by omega)
      simp -implicitDefEqProofs [r1, r4, r6, kb, c1, c1', w1, w2]
      exact kW
    · have c1 : (M : Int) < (m : Int) := by omega
      have c1' : M < m := by omega
      have hil : 12 * (i / 12) + q < 5160 := by omega
      have hms := mFirst_succ hil
      have hlen : mLen (12 * (i / 12) + q) = mLong y M := by
        unfold mLen
        rw [show (12 * (i / 12) + q) / 12 = i / 12 by omega, show (12 * (i / 12) + q) % 12 = q by omega, ← hy, ← hM]
      rw [hlen, ← hN] at hms
      have hb2 : mFirst (12 * (i / 12) + q + 1) ≤ mFirst i := mFirst_mono (by omega) (by omega)
      obtain ⟨N', hN'⟩ : ∃ x, x = mFirst (12 * (i / 12) + (q + 1)) := ⟨_, rfl⟩
      have hms' : N' = N + mLong y M := by rw [hN']; exact hms
      have hb3 : N' ≤ mFirst i := by rw [hN']; exact hb2
      obtain ⟨L, hL⟩ : ∃ x, mLong y M = x := ⟨_, rfl⟩
      rw [hL] at hms'
      obtain ⟨M', hM'⟩ : ∃ x, x = q + 1 + 1 := ⟨_, rfl⟩
      have w1 : IntKind.i64.wrap ((N : Int) + (L : Int)) = (N' : Int) := wadd hms'.symm (by omega)
      have w2 : IntKind.i64.wrap ((M : Int) + 1) = (M' : Int) := wadd (b := 1) (by omega) (by omega)
      simp -implicitDefEqProofs [r1, r4, r6, kb, c1, c1']
      refine ACall.eq (c_ref4Long (y := y) (m := M) (by omega) (by omega)) ?_
      rw [hL]
      simp -implicitDefEqProofs [r4, r6, w1, w2]
      exact AGo.again ih (m' := 12 - (q + 1)) (by omega) (HLe.refl _) ⟨q + 1, M', N', by omega, rfl, hM', hN', by simp [r1], by simp, by simp, rfl⟩
theorem c_ref7May (x : Ex) (hx : x.ok) : AOk Tryz.prog 30 [exAV x] H (.sc (.bool (mayX x))) H := by
  refine ACalls.into Tryz.func30 rfl Tryz.ntmps30 Tryz.results30 (by simp) ?_
  simp -implicitDefEqProofs
  refine AAlloc.intro fun b1 h1 => ?_
  simp -implicitDefEqProofs
  generalize hK : Heap.set _ b1 _ = K0
  have k1 : K0 b1 = some (.cells (exC x) 42) := by rw [← hK]; simp [Heap.set]
  have kW : HWk H K0 := by rw [← hK]; exact HWk.new h1 (HWk.refl _)
  clear hK
  refine AGo.rounds (fun m ρ K => ∃ j : Nat, j ≤ 5 ∧ m = 5 - j ∧ ρ 1 = .sc (.pointer (some ⟨b1, 0, none⟩)) ∧ ρ 3 = .sc (.int .i64 j) ∧ (∀ i, i < j → mayB (i : Int) (x.get i).bits = true) ∧ K = K0) ?_ (m := 5) (HLe.refl _)
    ⟨0, by omega, rfl, by simp, by simp, fun i hi => by omega, rfl⟩
  rintro m ρ K ih ⟨j, hj, rfl, r1, r3, hm, rfl⟩
  have hc : j = 0 ∨ j = 1 ∨ j = 2 ∨ j = 3 ∨ j = 4 ∨ j = 5 := by omega
  rcases hc with rfl | rfl | rfl | rfl | rfl | rfl
  · simp -implicitDefEqProofs [r1, r3, k1]
    refine ACall.eq (c_refMay 0 x.a hx.a) ?_
    cases he : mayB 0 x.a.bits with
    | false => simp -implicitDefEqProofs [mayX, he]; exact kW
    | true =>
      simp -implicitDefEqProofs [r3, wrap_i64]
      exact AGo.again ih (m' := 4) (by omega) (HLe.refl _) ⟨1, by omega, rfl, by simp [r1], by simp, lt_succ_all (P := fun i : Nat => mayB (i : Int) (x.get i).bits = true) hm he, rfl⟩
  · simp -implicitDefEqProofs [r1, r3, k1]
    refine ACall.eq (c_refMay 1 x.b hx.b) ?_
    cases he : mayB 1 x.b.bits with
    | false => simp -implicitDefEqProofs [mayX, he]; exact kW
    | true =>
      simp -implicitDefEqProofs [r3, wrap_i64]
      exact AGo.again ih (m' := 3) (by omega) (HLe.refl _) ⟨2, by omega, rfl, by simp [r1], by simp, lt_succ_all (P := fun i : Nat => mayB (i : Int) (x.get i).bits = true) hm he, rfl⟩
  · simp -implicitDefEqProofs [r1, r3, k1]
    refine ACall.eq (c_refMay 2 x.c hx.c) ?_
    cases he : mayB 2 x.c.bits with
    | false => simp -implicitDefEqProofs [mayX, he]; exact kW
    | true =>
      simp -implicitDefEqProofs [r3, wrap_i64]
      exact AGo.again ih (m' := 2) (by omega) (HLe.refl _) ⟨3, by omega, rfl, by simp [r1], by simp, lt_succ_all (P := fun i : Nat => mayB (i : Int) (x.get i).bits = true) hm he, rfl⟩
  · simp -implicitDefEqProofs [r1, r3, k1]
    refine ACall.eq (c_refMay 3 x.d hx.d) ?_
    cases he : mayB 3 x.d.bits with
    | false => simp -implicitDefEqProofs [mayX, he]; exact kW
    | true =>
      simp -implicitDefEqProofs [r3, wrap_i64]
      exact AGo.again ih (m' := 1) (by omega) (HLe.refl _) ⟨4, by omega, rfl, by simp [r1], by simp, lt_succ_all (P := fun i : Nat => mayB (i : Int) (x.get i).bits = true) hm he, rfl⟩
  · simp -implicitDefEqProofs [r1, r3, k1]
    refine ACall.eq (c_refMay 4 x.e hx.e) ?_
    cases he : mayB 4 x.e.bits with
    | false => simp -implicitDefEqProofs [mayX, he]; exact kW
    | true =>
      simp -implicitDefEqProofs [r3, wrap_i64]
      exact AGo.again ih (m' := 0) (by omega) (HLe.refl _) ⟨5, by omega, rfl, by simp [r1], by simp, lt_succ_all (P := fun i : Nat => mayB (i : Int) (x.get i).bits = true) hm he, rfl⟩
  · have g0 : mayB 0 x.a.bits = true := hm 0 (by omega)
    have g1 : mayB 1 x.b.bits = true := hm 1 (by omega)
    have g2 : mayB 2 x.c.bits = true := hm 2 (by omega)
    have g3 : mayB 3 x.d.bits = true := hm 3 (by omega)
    have g4 : mayB 4 x.e.bits = true := hm 4 (by omega)
    simp -implicitDefEqProofs [r1, r3, mayX, g0, g1, g2, g3, g4]
    exact kW
end Go.Proofs.YtmoncokklkiikaaGreatDoor
namespace Go.Proofs.YtmoncokklkiikaaGreatDoor
open Rg Go
variable {H : Heap}
theorem c_join_bad {c : Clk} (h : mayC c = false) : AOk Tryz.prog 37 [cAV c] H (.tup [.sc (.int .i64 0), .sc (.int .i64 2)]) H := by
  obtain ⟨y, m, d, h', mi, s, w⟩ := c
  refine ACalls.into Tryz.func37 rfl Tryz.ntmps37 Tryz.results37 (by simp) ?_
  simp -implicitDefEqProofs
  refine AAlloc.intro fun b hb => ?_
  have hW : ∀ o, HWk H (H.set b o) := fun o => HWk.new hb (HWk.refl _)
  simp -implicitDefEqProofs
  cases hd : mayD y m d with
  | false =>
    refine ACall.eq (c_ref4Days_bad hd) ?_
    simp -implicitDefEqProofs
    refine go_draw 39 f_mixed (by decide +kernel) ?_
    simp -implicitDefEqProofs
    exact hW _
  | true =>
    obtain ⟨i, dd, hi, hdd, e1, e2, e3⟩ := mayD_in hd
    generalize 1970 + i / 12 = Y at e1
    generalize i % 12 + 1 = M at e2
    generalize dd + 1 = D at e3
    subst e1 e2 e3
    refine ACall.eq (c_ref4Days hd) ?_
    simp -implicitDefEqProofs
    refine go_draw 39 f_mixed (by decide +kernel) ?_
    by_cases h1 : h' < 0
    · simp -implicitDefEqProofs [h1]
      exact hW _
    · by_cases h2 : 24 ≤ h'
      · simp -implicitDefEqProofs [h1, h2]
        exact hW _
      · by_cases m1 : mi < 0
        · simp -implicitDefEqProofs [h1, h2, m1]
          exact hW _
        · by_cases m2 : 60 ≤ mi
          · simp -implicitDefEqProofs [h1, h2, m1, m2]
            exact hW _
          · by_cases s1 : s < 0
            · simp -implicitDefEqProofs [h1, h2, m1, m2, s1]
              exact hW _
            · by_cases s2 : 60 ≤ s
              · simp -implicitDefEqProofs [h1, h2, m1, m2, s1, s2]
                exact hW _
              · simp -implicitDefEqProofs [h1, h2, m1, m2, s1, s2]
                have hlt := (clk_mom (h := 0) (mi := 0) (s := 0) hd (by omega) (by omega) (by omega)).1
                unfold momC at hlt
                refine AQS.eq (c_ref4Weekday (daysN Y M D) (by omega)) ?_
                have hw : ¬ w = (((daysN Y M D + 4) % 7 : Nat) : Int) := fun e => by
                  have e2 : w = wdayC ⟨Y, M, D, h', mi, s, w⟩ := e
                  have : mayC ⟨Y, M, D, h', mi, s, w⟩ = true := by
                    simp only [mayC, Bool.and_eq_true, decide_eq_true_eq]
                    exact ⟨⟨⟨⟨⟨⟨⟨by omega, by omega⟩, by omega⟩, by omega⟩, by omega⟩, by omega⟩, hd⟩, e2⟩
                  rw [this] at h; cases h
                generalize (((daysN Y M D + 4) % 7 : Nat) : Int) = wd at hw ⊢
                simp -implicitDefEqProofs [hw]
                exact hW _
theorem c_join_ok {y m d h mi s : Nat} (hd : mayD (y : Int) (m : Int) (d : Int) = true) (hh : h ≤ 23) (hm : mi ≤ 59) (hs : s ≤ 59) :
    AOk Tryz.prog 37 [cAV ⟨y, m, d, h, mi, s, (((daysN y m d + 4) % 7 : Nat) : Int)⟩] H (.tup [.sc (.int .i64 (momC y m d h mi s)), .sc (.int .i64 0)]) H := by
  have hlt := (clk_mom (h := 0) (mi := 0) (s := 0) hd (by omega) (by omega) (by omega)).1
  unfold momC at *
  have hdays := c_ref4Days (H := H) hd
  obtain ⟨n, hn⟩ : ∃ x, daysN y m d = x := ⟨_, rfl⟩
  rw [hn] at hlt ⊢
  obtain ⟨wd, hwd⟩ : ∃ x, (n + 4) % 7 = x := ⟨_, rfl⟩
  rw [hwd]
  obtain ⟨a1, ha1⟩ : ∃ x, n * 24 = x := ⟨_, rfl⟩
  obtain ⟨a2, ha2⟩ : ∃ x, a1 + h = x := ⟨_, rfl⟩
  obtain ⟨a3, ha3⟩ : ∃ x, a2 * 60 = x := ⟨_, rfl⟩
  obtain ⟨a4, ha4⟩ : ∃ x, a3 + mi = x := ⟨_, rfl⟩
  obtain ⟨a5, ha5⟩ : ∃ x, a4 * 60 = x := ⟨_, rfl⟩
  obtain ⟨a6, ha6⟩ : ∃ x, a5 + s = x := ⟨_, rfl⟩
  have w1 : IntKind.i64.wrap ((n : Int) * 24) = (a1 : Int) := wmul (b := 24) ha1 (by omega)
  have w2 : IntKind.i64.wrap ((a1 : Int) + (h : Int)) = (a2 : Int) := wadd ha2 (by omega)
  have w3 : IntKind.i64.wrap ((a2 : Int) * 60) = (a3 : Int) := wmul (b := 60) ha3 (by omega)
  have w4 : IntKind.i64.wrap ((a3 : Int) + (mi : Int)) = (a4 : Int) := wadd ha4 (by omega)
  have w5 : IntKind.i64.wrap ((a4 : Int) * 60) = (a5 : Int) := wmul (b := 60) ha5 (by omega)
  have w6 : IntKind.i64.wrap ((a5 : Int) + (s : Int)) = (a6 : Int) := wadd ha6 (by omega)
  have wn : IntKind.i64.wrap (n : Int) = (n : Int) := wrap_i64 (by omega) (by omega)
  have wh : IntKind.i64.wrap (h : Int) = (h : Int) := wrap_i64 (by omega) (by omega)
  have wm : IntKind.i64.wrap (mi : Int) = (mi : Int) := wrap_i64 (by omega) (by omega)
  have ws : IntKind.i64.wrap (s : Int) = (s : Int) := wrap_i64 (by omega) (by omega)
  have eq : n * 86400 + h * 3600 + mi * 60 + s = a6 := by omega
  rw [eq]
  have h2 : ¬ (24 : Int) ≤ (h : Int) := by omega
  have h2' : ¬ 24 ≤ h := by omega
  have m2 : ¬ (60 : Int) ≤ (mi : Int) := by omega
  have m2' : ¬ 60 ≤ mi := by omega
  have s2 : ¬ (60 : Int) ≤ (s : Int) := by omega
  have s2' : ¬ 60 ≤ s := by omega
  refine ACalls.into Tryz.func37 rfl Tryz.ntmps37 Tryz.results37 (by simp) ?_
  simp -implicitDefEqProofs
  refine AAlloc.intro fun b hb => ?_
  simp -implicitDefEqProofs
  refine ACall.eq (v := .tup [.sc (.int .i64 n), .sc (.int .i64 0)]) (by rw [← hn]; exact c_ref4Days hd) ?_
  simp -implicitDefEqProofs
  refine go_draw 39 f_mixed (by decide +kernel) ?_
  simp -implicitDefEqProofs [h2, h2', m2, m2', s2, s2']
  refine AQS.eq (v := .sc (.int .i64 wd)) (by rw [← hwd]; exact c_ref4Weekday n (by omega)) ?_
  simp -implicitDefEqProofs [w1, w2, w3, w4, w5, w6, wn, wh, wm, ws]
  exact HWk.new hb (HWk.refl _)
theorem c_join_any (c : Clk) : ∃ v : Int, AOk Tryz.prog 37 [cAV c] H (.tup [.sc (.int .i64 v), .sc (.int .i64 (if mayC c = true then 0 else 2))]) H := by
  cases h : mayC c with
  | false => exact ⟨0, c_join_bad h⟩
  | true =>
    obtain ⟨y, m, d, h', mi, s, w⟩ := c
    simp only [mayC, Bool.and_eq_true, decide_eq_true_eq] at h
    obtain ⟨⟨⟨⟨⟨⟨⟨h1, h2⟩, h3⟩, h4⟩, h5⟩, h6⟩, hd⟩, hw⟩ := h
    obtain ⟨i, dd, hi, hdd, e1, e2, e3⟩ := mayD_in hd
    generalize 1970 + i / 12 = Y at e1
    generalize i % 12 + 1 = M at e2
    generalize dd + 1 = D at e3
    subst e1 e2 e3
    obtain ⟨h', rfl⟩ := Int.eq_ofNat_of_zero_le h1
    obtain ⟨mi, rfl⟩ := Int.eq_ofNat_of_zero_le h3
    obtain ⟨s, rfl⟩ := Int.eq_ofNat_of_zero_le h5
    have ew : w = (((daysN Y M D + 4) % 7 : Nat) : Int) := hw
    subst ew
    exact ⟨_, c_join_ok hd (by omega) (by omega) (by omega)⟩
theorem c_ref7DayFits (x : Ex) (hx : x.ok) (c : Clk) : AOk Tryz.prog 112 [exAV x, cAV c] H (.sc (.bool (dayFitsX x c))) H := by
  refine ACalls.into Tryz.func112 rfl Tryz.ntmps112 Tryz.results112 (by simp) ?_
  simp -implicitDefEqProofs
  refine AAlloc.intro fun b2 h2 => ?_
  simp -implicitDefEqProofs
  refine AAlloc.intro fun b3 h3 => ?_
  have n32 : b3 ≠ b2 := by intro e; subst e; simp [Heap.set] at h3
  have n23 := n32.symm
  have e3 : H b3 = none := (HLe.set_fresh h2).none h3
  simp -implicitDefEqProofs [n32, n23]
  generalize hK : Heap.set _ b3 _ = K
  have k2 : K b2 = some (.cells (exC x) 42) := by rw [← hK]; simp [Heap.set, n23]
  have k3 : K b3 = some (.cells [.sc (.int .i64 c.y), .sc (.int .i64 c.m), .sc (.int .i64 c.d), .sc (.int .i64 c.h), .sc (.int .i64 c.mi), .sc (.int .i64 c.s), .sc (.int .i64 c.w)] 48) := by rw [← hK]; simp [Heap.set]
  have kW : HWk H K := by rw [← hK]; exact HWk.new e3 (HWk.new h2 (HWk.refl _))
  clear hK
  obtain ⟨v, hj⟩ := c_join_any (H := K) c
  unfold dayFitsX
  cases hc : mayC c with
  | false =>
    rw [hc] at hj
    refine ACall.eq hj ?_
    simp -implicitDefEqProofs
    exact kW
  | true =>
    rw [hc] at hj
    refine ACall.eq hj ?_
    simp -implicitDefEqProofs [k2]
    refine ACall.eq (c_ref7May x hx) ?_
    cases hm : mayX x with
    | false => simp -implicitDefEqProofs; exact kW
    | true =>
      obtain ⟨day, hday⟩ : ∃ z, hasB x.c.bits c.d = z := ⟨_, rfl⟩
      obtain ⟨week, hweek⟩ : ∃ z, hasB x.e.bits c.w = z := ⟨_, rfl⟩
      obtain ⟨mon, hmon⟩ : ∃ z, hasB x.d.bits c.m = z := ⟨_, rfl⟩
      have p1 := c_refHas (H := K) x.d c.m hx.d
      have p2 := c_refHas (H := K) x.c c.d hx.c
      have p3 := c_refHas (H := K) x.e c.w hx.e
      rw [hmon] at p1
      rw [hday] at p2
      rw [hweek] at p3
      rw [hday, hweek, hmon]
      simp -implicitDefEqProofs [k2, k3]
      refine ACall.eq p1 ?_
      cases mon with
      | false => simp -implicitDefEqProofs; exact kW
      | true =>
        simp -implicitDefEqProofs [k2, k3]
        refine ACall.eq p2 ?_
        simp -implicitDefEqProofs [k2, k3]
        refine ACall.eq p3 ?_
        cases hsc : x.c.star with
        | true =>
          simp -implicitDefEqProofs [k2, hsc]
          cases day <;> cases week <;> simp -implicitDefEqProofs <;> exact kW
        | false =>
          cases hse : x.e.star with
          | true =>
            simp -implicitDefEqProofs [k2, hsc, hse]
            cases day <;> cases week <;> simp -implicitDefEqProofs <;> exact kW
          | false =>
            simp -implicitDefEqProofs [k2, hsc, hse]
            cases day <;> cases week <;> simp -implicitDefEqProofs <;> exact kW
theorem c_ref7Fits (x : Ex) (hx : x.ok) (c : Clk) : AOk Tryz.prog 44 [exAV x, cAV c] H (.sc (.bool (fitsX x c))) H := by
  refine ACalls.into Tryz.func44 rfl Tryz.ntmps44 Tryz.results44 (by simp) ?_
  simp -implicitDefEqProofs
  refine AAlloc.intro fun b2 h2 => ?_
  simp -implicitDefEqProofs
  refine AAlloc.intro fun b3 h3 => ?_
  have n32 : b3 ≠ b2 := by intro e; subst e; simp [Heap.set] at h3
  have n23 := n32.symm
  have e3 : H b3 = none := (HLe.set_fresh h2).none h3
  simp -implicitDefEqProofs [n32, n23]
  generalize hK : Heap.set _ b3 _ = K
  have k2 : K b2 = some (.cells (exC x) 42) := by rw [← hK]; simp [Heap.set, n23]
  have k3 : K b3 = some (.cells [.sc (.int .i64 c.y), .sc (.int .i64 c.m), .sc (.int .i64 c.d), .sc (.int .i64 c.h), .sc (.int .i64 c.mi), .sc (.int .i64 c.s), .sc (.int .i64 c.w)] 48) := by rw [← hK]; simp [Heap.set]
  have kW : HWk H K := by rw [← hK]; exact HWk.new e3 (HWk.new h2 (HWk.refl _))
  clear hK
  refine ACall.eq (c_ref7DayFits x hx c) ?_
  unfold fitsX
  cases hd : dayFitsX x c with
  | false => simp -implicitDefEqProofs; exact kW
  | true =>
    simp -implicitDefEqProofs [k2, k3]
    refine ACall.eq (c_refHas x.a c.mi hx.a) ?_
    cases hm : hasB x.a.bits c.mi with
    | false => simp -implicitDefEqProofs; exact kW
    | true =>
      simp -implicitDefEqProofs [k2, k3]
      refine ACall.eq (c_refHas x.b c.h hx.b) ?_
      simp -implicitDefEqProofs
      exact kW
end Go.Proofs.YtmoncokklkiikaaGreatDoor
namespace Go.Proofs.YtmoncokklkiikaaGreatDoor
open Rg Go
theorem byc {p : Prop} [Decidable p] (h : ¬p → False) : p := Decidable.byContradiction h
theorem false_of {x : Ex} {k : Nat} (h : fireB x k = true → False) : fireB x k = false := by
  cases e : fireB x k with
  | false => rfl
  | true => exact absurd (h e) id
theorem bits_ok {x : Ex} (hx : x.ok) (hm : mayX x = true) : (∀ j, x.a.bits.testBit j = true → j ≤ 59) ∧ (∀ j, x.b.bits.testBit j = true → j ≤ 23) := by
  simp only [mayX, Bool.and_eq_true] at hm
  obtain ⟨⟨⟨⟨h0, h1⟩, h2⟩, h3⟩, h4⟩ := hm
  refine ⟨fun j hj => ?_, fun j hj => ?_⟩
  · have := (may_bits hx.a h0).2.2 j hj; simp [mostK] at this; omega
  · have := (may_bits hx.b h1).2.2 j hj; simp [mostK] at this; omega
theorem has_bit {b : Nat} {n : Nat} (h : n ≤ 63) : hasB b (n : Int) = b.testBit n := hasB_nat2 b n h
def OutL (x : Ex) (t D mm : Nat) : Prop := mm ≤ 1439 ∧ D ≤ 157054 ∧ D * 86400 + mm * 60 < t + 86401 ∧ ∀ k, D * 86400 + mm * 60 + 59 < k + 86400 → k ≤ t → fireB x k = false
def InL (x : Ex) (t n HH mm : Nat) : Prop := mm ≤ 59 ∧ HH ≤ 24 ∧ n < 157054 ∧ dayB x n = true ∧ n * 86400 + (HH * 3600 + mm * 60 - 3600) < t + 1 ∧ ∀ k, n * 86400 + HH * 3600 + mm * 60 + 59 < k + 3600 → k ≤ t → fireB x k = false
def InM (x : Ex) (t n MM : Nat) : Prop := MM ≤ 1440 ∧ n < 157054 ∧ n * 86400 + MM * 60 < t + 61 ∧ ∀ k, n * 86400 + MM * 60 ≤ k → k ≤ t → fireB x k = false
section
variable {x : Ex} {t n mm h m D : Nat}
theorem outL_init (ht : t < 13569465600) : OutL x t (t / 86400 + 1) (t % 86400 / 60) :=
  ⟨byc fun _ => by omega, byc fun _ => by omega, byc fun _ => by omega, fun k h1 h2 => false_of fun hf => by
    obtain ⟨n, h, m, g1, g2, g3, rfl, _⟩ := fire_inv (byc fun _ => by omega) hf
    omega⟩
theorem outL_end (hO : OutL x t 0 mm) : IsLast x t none := fun k hk => hO.2.2.2 k (by have := hO.1; omega) hk
theorem outL_month (ht : t < 13569465600) (hO : OutL x t (n + 1) mm) (hb : hasB x.d.bits ((civ n).2.1 : Int) = false) : OutL x t (n + 1 - (civ n).2.2) 1439 := by
  obtain ⟨h1, h2, h3, h4⟩ := hO
  obtain ⟨c1, c2, c3, c4, c5, c6, c7, c8⟩ := civ_month (n := n) (byc fun _ => by omega)
  refine ⟨byc fun _ => by omega, byc fun _ => by omega, byc fun _ => by omega, fun k g1 g2 => ?_⟩
  by_cases hk : (n + 1) * 86400 + mm * 60 + 59 < k + 86400
  · exact h4 k hk g2
  · refine false_of fun hf => ?_
    obtain ⟨q, h, m, q1, q2, q3, rfl, q4, q5, _⟩ := fire_inv (byc fun _ => by omega) hf
    have := civ_same (n := n) (k := q) (byc fun _ => by omega) (byc fun _ => by omega) (byc fun _ => by omega)
    unfold dayB at q5
    rw [this.2, hb] at q5
    simp at q5
theorem outL_day (ht : t < 13569465600) (hO : OutL x t (n + 1) mm) (hb : dayB x n = false) : OutL x t n 1439 := by
  obtain ⟨h1, h2, h3, h4⟩ := hO
  refine ⟨byc fun _ => by omega, byc fun _ => by omega, byc fun _ => by omega, fun k g1 g2 => ?_⟩
  by_cases hk : (n + 1) * 86400 + mm * 60 + 59 < k + 86400
  · exact h4 k hk g2
  · refine false_of fun hf => ?_
    obtain ⟨q, h, m, q1, q2, q3, rfl, q4, q5, _⟩ := fire_inv (byc fun _ => by omega) hf
    obtain rfl : q = n := byc fun _ => by omega
    rw [hb] at q5; cases q5
theorem inL_init (hO : OutL x t (n + 1) mm) (hb : dayB x n = true) : InL x t n (mm / 60 + 1) (mm % 60) := by
  obtain ⟨h1, h2, h3, h4⟩ := hO
  exact ⟨byc fun _ => by omega, byc fun _ => by omega, byc fun _ => by omega, hb, byc fun _ => by omega, fun k g1 g2 => h4 k (byc fun _ => by omega) g2⟩
theorem inL_end (hI : InL x t n 0 mm) : OutL x t n 1439 := by
  obtain ⟨h1, h2, h3, h4, h5, h6⟩ := hI
  exact ⟨byc fun _ => by omega, byc fun _ => by omega, byc fun _ => by omega, fun k g1 g2 => h6 k (byc fun _ => by omega) g2⟩
theorem inL_none (ht : t < 13569465600) (hI : InL x t n (h + 1) mm) (hb : ∀ j : Nat, j ≤ h → hasB x.b.bits (j : Int) = false) : OutL x t n 1439 := by
  obtain ⟨h1, h2, h3, h4, h5, h6⟩ := hI
  refine ⟨byc fun _ => by omega, byc fun _ => by omega, byc fun _ => by omega, fun k g1 g2 => ?_⟩
  by_cases hk : n * 86400 + (h + 1) * 3600 + mm * 60 + 59 < k + 3600
  · exact h6 k hk g2
  · refine false_of fun hf => ?_
    obtain ⟨q, h', m, q1, q2, q3, rfl, q4, q5, q6, q7⟩ := fire_inv (byc fun _ => by omega) hf
    rw [hb h' (byc fun _ => by omega)] at q7; cases q7
theorem inL_down {h' : Nat} (ht : t < 13569465600) (hI : InL x t n (h + 1) mm) (hh : h' < h) (hb : ∀ j : Nat, h' < j → j ≤ h → hasB x.b.bits (j : Int) = false) : InL x t n (h' + 1) 59 := by
  obtain ⟨h1, h2, h3, h4, h5, h6⟩ := hI
  refine ⟨byc fun _ => by omega, byc fun _ => by omega, byc fun _ => by omega, h4, byc fun _ => by omega, fun k g1 g2 => ?_⟩
  by_cases hk : n * 86400 + (h + 1) * 3600 + mm * 60 + 59 < k + 3600
  · exact h6 k hk g2
  · refine false_of fun hf => ?_
    obtain ⟨q, h'', m, q1, q2, q3, rfl, q4, q5, q6, q7⟩ := fire_inv (byc fun _ => by omega) hf
    rw [hb h'' (byc fun _ => by omega) (byc fun _ => by omega)] at q7; cases q7
theorem inL_found (ht : t < 13569465600) (hx : mayX x = true) (hI : InL x t n (h + 1) mm) (hb : hasB x.b.bits (h : Int) = true) (ha : hasB x.a.bits (m : Int) = true) (hm : m ≤ mm) (hn : ∀ j : Nat, m < j → j ≤ mm → hasB x.a.bits (j : Int) = false) :
    IsLast x t (some (n * 86400 + h * 3600 + m * 60)) := by
  obtain ⟨h1, h2, h3, h4, h5, h6⟩ := hI
  refine ⟨byc fun _ => by omega, fire_mk h3 (byc fun _ => by omega) (byc fun _ => by omega) hx h4 ha hb, fun k g1 g2 => ?_⟩
  by_cases hk : n * 86400 + (h + 1) * 3600 + mm * 60 + 59 < k + 3600
  · exact h6 k hk g2
  · refine false_of fun hf => ?_
    obtain ⟨q, h'', m', q1, q2, q3, rfl, q4, q5, q6, q7⟩ := fire_inv (byc fun _ => by omega) hf
    rw [hn m' (byc fun _ => by omega) (byc fun _ => by omega)] at q6; cases q6
theorem inL_min (ht : t < 13569465600) (hI : InL x t n (h + 1) mm) (hn : ∀ j : Nat, j ≤ mm → hasB x.a.bits (j : Int) = false) : InL x t n h 59 := by
  obtain ⟨h1, h2, h3, h4, h5, h6⟩ := hI
  refine ⟨byc fun _ => by omega, byc fun _ => by omega, byc fun _ => by omega, h4, byc fun _ => by omega, fun k g1 g2 => ?_⟩
  by_cases hk : n * 86400 + (h + 1) * 3600 + mm * 60 + 59 < k + 3600
  · exact h6 k hk g2
  · refine false_of fun hf => ?_
    obtain ⟨q, h'', m', q1, q2, q3, rfl, q4, q5, q6, q7⟩ := fire_inv (byc fun _ => by omega) hf
    rw [hn m' (byc fun _ => by omega)] at q6; cases q6
theorem inM_init (hO : OutL x t (n + 1) mm) : InM x t n (mm + 1) := by
  obtain ⟨h1, h2, h3, h4⟩ := hO
  exact ⟨byc fun _ => by omega, byc fun _ => by omega, byc fun _ => by omega, fun k g1 g2 => h4 k (byc fun _ => by omega) g2⟩
theorem inM_end (hI : InM x t n 0) : OutL x t n 1439 := by
  obtain ⟨h1, h2, h3, h4⟩ := hI
  exact ⟨byc fun _ => by omega, byc fun _ => by omega, byc fun _ => by omega, fun k g1 g2 => h4 k (byc fun _ => by omega) g2⟩
theorem inM_day (ht : t < 13569465600) (hI : InM x t n m) (hb : dayB x n = false) : OutL x t n 1439 := by
  obtain ⟨h1, h2, h3, h4⟩ := hI
  refine ⟨byc fun _ => by omega, byc fun _ => by omega, byc fun _ => by omega, fun k g1 g2 => ?_⟩
  by_cases hk : n * 86400 + m * 60 ≤ k
  · exact h4 k hk g2
  · refine false_of fun hf => ?_
    obtain ⟨q, h, m', q1, q2, q3, rfl, q4, q5, _⟩ := fire_inv (byc fun _ => by omega) hf
    obtain rfl : q = n := byc fun _ => by omega
    rw [hb] at q5; cases q5
theorem inM_found (hx : mayX x = true) (hI : InM x t n (m + 1)) (hd : dayB x n = true) (ha : hasB x.a.bits ((m % 60 : Nat) : Int) = true) (hb : hasB x.b.bits ((m / 60 : Nat) : Int) = true) (ht : t < 13569465600) : IsLast x t (some (n * 86400 + m * 60)) := by
  obtain ⟨h1, h2, h3, h4⟩ := hI
  have hf := fire_mk (h := m / 60) (m := m % 60) h2 (by omega) (by omega) hx hd ha hb
  rw [show n * 86400 + m / 60 * 3600 + m % 60 * 60 = n * 86400 + m * 60 by omega] at hf
  refine ⟨byc fun _ => by omega, hf, fun k g1 g2 => ?_⟩
  by_cases hk : n * 86400 + (m + 1) * 60 ≤ k
  · exact h4 k hk g2
  · refine false_of fun hf => ?_
    obtain ⟨q, h'', m', q1, q2, q3, rfl, q4, q5, q6, q7⟩ := fire_inv (byc fun _ => by omega) hf
    omega
theorem inM_down (hI : InM x t n (m + 1)) (hn : ¬ (hasB x.a.bits ((m % 60 : Nat) : Int) = true ∧ hasB x.b.bits ((m / 60 : Nat) : Int) = true)) (ht : t < 13569465600) : InM x t n m := by
  obtain ⟨h1, h2, h3, h4⟩ := hI
  refine ⟨byc fun _ => by omega, byc fun _ => by omega, byc fun _ => by omega, fun k g1 g2 => ?_⟩
  by_cases hk : n * 86400 + (m + 1) * 60 ≤ k
  · exact h4 k hk g2
  · refine false_of fun hf => hn ?_
    obtain ⟨q, h'', m', q1, q2, q3, rfl, q4, q5, q6, q7⟩ := fire_inv (byc fun _ => by omega) hf
    rw [show m % 60 = m' by omega, show m / 60 = h'' by omega]
    exact ⟨q6, q7⟩
end
def OutN (x : Ex) (t n mm : Nat) : Prop := mm ≤ 1439 ∧ n ≤ 157054 ∧ t < n * 86400 + mm * 60 ∧ ∀ k, t < k → k < n * 86400 + mm * 60 → fireB x k = false
def InN (x : Ex) (t n h mm : Nat) : Prop := mm ≤ 59 ∧ h ≤ 24 ∧ n < 157054 ∧ dayB x n = true ∧ t < n * 86400 + min (h * 3600 + mm * 60) 86400 ∧ ∀ k, t < k → k < n * 86400 + h * 3600 + mm * 60 → fireB x k = false
def InU (x : Ex) (t n m : Nat) : Prop := m ≤ 1440 ∧ n < 157054 ∧ t < n * 86400 + m * 60 ∧ ∀ k, t < k → k < n * 86400 + m * 60 → fireB x k = false
section
variable {x : Ex} {t n mm h m D : Nat}
theorem outN_init (ht : t < 13569465600) : OutN x t ((t / 60 * 60 + 60) / 86400) ((t / 60 * 60 + 60) % 86400 / 60) :=
  ⟨byc fun _ => by omega, byc fun _ => by omega, byc fun _ => by omega, fun k h1 h2 => false_of fun hf => by
    obtain ⟨n, h, m, g1, g2, g3, rfl, _⟩ := fire_inv (byc fun _ => by omega) hf
    omega⟩
theorem outN_end (hO : OutN x t 157054 mm) : IsNext x t none := fun k h1 h2 => hO.2.2.2 k h1 (byc fun _ => by omega)
theorem outN_month (hO : OutN x t n mm) (hn : n < 157054) (hb : hasB x.d.bits ((civ n).2.1 : Int) = false) : OutN x t (n + (mLong (civ n).1 (civ n).2.1 - (civ n).2.2) + 1) 0 := by
  obtain ⟨h1, h2, h3, h4⟩ := hO
  obtain ⟨c1, c2, c3, c4, c5, c6, c7, c8⟩ := civ_month (n := n) (byc fun _ => by omega)
  have c9 := (civ_same (n := n) (k := n + (mLong (civ n).1 (civ n).2.1 - (civ n).2.2)) (byc fun _ => by omega) (byc fun _ => by omega) (byc fun _ => by omega)).1
  refine ⟨byc fun _ => by omega, byc fun _ => by omega, byc fun _ => by omega, fun k g1 g2 => ?_⟩
  by_cases hk : k < n * 86400 + mm * 60
  · exact h4 k g1 hk
  · refine false_of fun hf => ?_
    obtain ⟨q, h, m, q1, q2, q3, rfl, q4, q5, _⟩ := fire_inv (byc fun _ => by omega) hf
    have := civ_same (n := n) (k := q) (byc fun _ => by omega) (byc fun _ => by omega) (byc fun _ => by omega)
    unfold dayB at q5
    rw [this.2, hb] at q5
    simp at q5
theorem outN_day (hO : OutN x t n mm) (hn : n < 157054) (hb : dayB x n = false) : OutN x t (n + 1) 0 := by
  obtain ⟨h1, h2, h3, h4⟩ := hO
  refine ⟨byc fun _ => by omega, byc fun _ => by omega, byc fun _ => by omega, fun k g1 g2 => ?_⟩
  by_cases hk : k < n * 86400 + mm * 60
  · exact h4 k g1 hk
  · refine false_of fun hf => ?_
    obtain ⟨q, h, m, q1, q2, q3, rfl, q4, q5, _⟩ := fire_inv (byc fun _ => by omega) hf
    obtain rfl : q = n := byc fun _ => by omega
    rw [hb] at q5; cases q5
theorem inN_init (hO : OutN x t n mm) (hn : n < 157054) (hb : dayB x n = true) : InN x t n (mm / 60) (mm % 60) := by
  obtain ⟨h1, h2, h3, h4⟩ := hO
  exact ⟨byc fun _ => by omega, byc fun _ => by omega, hn, hb, byc fun _ => by omega, fun k g1 g2 => h4 k g1 (byc fun _ => by omega)⟩
theorem inN_none (hI : InN x t n h mm) (hb : ∀ j : Nat, h ≤ j → hasB x.b.bits (j : Int) = false) : OutN x t (n + 1) 0 := by
  obtain ⟨h1, h2, h3, h4, h5, h6⟩ := hI
  refine ⟨byc fun _ => by omega, byc fun _ => by omega, byc fun _ => by omega, fun k g1 g2 => ?_⟩
  by_cases hk : k < n * 86400 + h * 3600 + mm * 60
  · exact h6 k g1 hk
  · refine false_of fun hf => ?_
    obtain ⟨q, h', m, q1, q2, q3, rfl, q4, q5, q6, q7⟩ := fire_inv (byc fun _ => by omega) hf
    rw [hb h' (byc fun _ => by omega)] at q7; cases q7
theorem inN_up {h' : Nat} (hI : InN x t n h mm) (hh : h < h') (hh' : h' ≤ 24) (hb : ∀ j : Nat, h ≤ j → j < h' → hasB x.b.bits (j : Int) = false) : InN x t n h' 0 := by
  obtain ⟨h1, h2, h3, h4, h5, h6⟩ := hI
  refine ⟨byc fun _ => by omega, byc fun _ => by omega, byc fun _ => by omega, h4, byc fun _ => by omega, fun k g1 g2 => ?_⟩
  by_cases hk : k < n * 86400 + h * 3600 + mm * 60
  · exact h6 k g1 hk
  · refine false_of fun hf => ?_
    obtain ⟨q, h'', m, q1, q2, q3, rfl, q4, q5, q6, q7⟩ := fire_inv (byc fun _ => by omega) hf
    rw [hb h'' (byc fun _ => by omega) (byc fun _ => by omega)] at q7; cases q7
theorem inN_found (hx : mayX x = true) (hI : InN x t n h mm) (hh : h < 24) (hb : hasB x.b.bits (h : Int) = true) (ha : hasB x.a.bits (m : Int) = true) (hm : mm ≤ m) (hm2 : m < 60) (hn : ∀ j : Nat, mm ≤ j → j < m → hasB x.a.bits (j : Int) = false) :
    IsNext x t (some (n * 86400 + h * 3600 + m * 60)) := by
  obtain ⟨h1, h2, h3, h4, h5, h6⟩ := hI
  refine ⟨byc fun _ => by omega, byc fun _ => by omega, fire_mk h3 (byc fun _ => by omega) (byc fun _ => by omega) hx h4 ha hb, fun k g1 g2 => ?_⟩
  by_cases hk : k < n * 86400 + h * 3600 + mm * 60
  · exact h6 k g1 hk
  · refine false_of fun hf => ?_
    obtain ⟨q, h'', m', q1, q2, q3, rfl, q4, q5, q6, q7⟩ := fire_inv (byc fun _ => by omega) hf
    rw [hn m' (byc fun _ => by omega) (byc fun _ => by omega)] at q6; cases q6
theorem inN_min (hI : InN x t n h mm) (hh : h < 24) (hn : ∀ j : Nat, mm ≤ j → hasB x.a.bits (j : Int) = false) : InN x t n (h + 1) 0 := by
  obtain ⟨h1, h2, h3, h4, h5, h6⟩ := hI
  refine ⟨byc fun _ => by omega, byc fun _ => by omega, byc fun _ => by omega, h4, byc fun _ => by omega, fun k g1 g2 => ?_⟩
  by_cases hk : k < n * 86400 + h * 3600 + mm * 60
  · exact h6 k g1 hk
  · refine false_of fun hf => ?_
    obtain ⟨q, h'', m', q1, q2, q3, rfl, q4, q5, q6, q7⟩ := fire_inv (byc fun _ => by omega) hf
    rw [hn m' (byc fun _ => by omega)] at q6; cases q6
theorem inU_init (hO : OutN x t n mm) (hn : n < 157054) : InU x t n mm := by
  obtain ⟨h1, h2, h3, h4⟩ := hO
  exact ⟨byc fun _ => by omega, hn, byc fun _ => by omega, h4⟩
theorem inU_end (hI : InU x t n 1440) : OutN x t (n + 1) 0 := by
  obtain ⟨h1, h2, h3, h4⟩ := hI
  exact ⟨byc fun _ => by omega, byc fun _ => by omega, byc fun _ => by omega, fun k g1 g2 => h4 k g1 (byc fun _ => by omega)⟩
theorem inU_day (hI : InU x t n m) (hb : dayB x n = false) : OutN x t (n + 1) 0 := by
  obtain ⟨h1, h2, h3, h4⟩ := hI
  refine ⟨byc fun _ => by omega, byc fun _ => by omega, byc fun _ => by omega, fun k g1 g2 => ?_⟩
  by_cases hk : k < n * 86400 + m * 60
  · exact h4 k g1 hk
  · refine false_of fun hf => ?_
    obtain ⟨q, h, m', q1, q2, q3, rfl, q4, q5, _⟩ := fire_inv (byc fun _ => by omega) hf
    obtain rfl : q = n := byc fun _ => by omega
    rw [hb] at q5; cases q5
theorem inU_found (hx : mayX x = true) (hI : InU x t n m) (hm : m < 1440) (hd : dayB x n = true) (ha : hasB x.a.bits ((m % 60 : Nat) : Int) = true) (hb : hasB x.b.bits ((m / 60 : Nat) : Int) = true) : IsNext x t (some (n * 86400 + m * 60)) := by
  obtain ⟨h1, h2, h3, h4⟩ := hI
  have hf := fire_mk (h := m / 60) (m := m % 60) h2 (by omega) (by omega) hx hd ha hb
  rw [show n * 86400 + m / 60 * 3600 + m % 60 * 60 = n * 86400 + m * 60 by omega] at hf
  exact ⟨byc fun _ => by omega, byc fun _ => by omega, hf, fun k g1 g2 => h4 k g1 g2⟩
theorem inU_up (hI : InU x t n m) (hm : m < 1440) (hn : ¬ (hasB x.a.bits ((m % 60 : Nat) : Int) = true ∧ hasB x.b.bits ((m / 60 : Nat) : Int) = true)) : InU x t n (m + 1) := by
  obtain ⟨h1, h2, h3, h4⟩ := hI
  refine ⟨byc fun _ => by omega, byc fun _ => by omega, byc fun _ => by omega, fun k g1 g2 => ?_⟩
  by_cases hk : k < n * 86400 + m * 60
  · exact h4 k g1 hk
  · refine false_of fun hf => hn ?_
    obtain ⟨q, h'', m', q1, q2, q3, rfl, q4, q5, q6, q7⟩ := fire_inv (byc fun _ => by omega) hf
    rw [show m % 60 = m' by omega, show m / 60 = h'' by omega]
    exact ⟨q6, q7⟩
end
end Go.Proofs.YtmoncokklkiikaaGreatDoor
