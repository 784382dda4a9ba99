/- The document's parse of any expression. -/
import Derived.Test.YtdpgnbinekcgdaaGreatDoorRefX
namespace Go.Proofs.YtdpgnbinekcgdaaGreatDoor
open Rg Go

variable {H : Heap}

theorem cronK_name {n x : List UInt8} (hl : ¬ 400 < n.length) (hp : Lib.hasPrefix n [64] = true) (h : namedL n = x) : cronK n = cronB x := by
  unfold cronK
  rw [if_neg hl, if_pos hp, h]
theorem prefix64 (s : List UInt8) : (Lib.hasPrefix s [64] = false ∧ (¬ 0 < s.length ∨ ∃ h : 0 < s.length, ¬ s[0].toNat = 64)) ∨ (Lib.hasPrefix s [64] = true ∧ ∃ h : 0 < s.length, s[0].toNat = 64) := by
  cases s with
  | nil => exact .inl ⟨rfl, .inl (by simp)⟩
  | cons c r =>
    have e : Lib.hasPrefix (c :: r) [64] = (64 == c) := by unfold Lib.hasPrefix; simp [List.isPrefixOf]
    by_cases hc : c = 64
    · exact .inr ⟨by rw [e, hc]; rfl, by simp, by simp [hc]⟩
    · exact .inl ⟨by rw [e]; simpa using Ne.symm hc, .inr ⟨by simp, fun h => hc (UInt8.toNat_inj.1 (by simpa using h))⟩⟩
theorem namedL_none {s : List UInt8} (h : ∀ q, q < 7 → nmL.getD (2 * q) [] ≠ s) : namedL s = [] := by
  have h0 := h 0 (by omega)
  have h1 := h 1 (by omega)
  have h2 := h 2 (by omega)
  have h3 := h 3 (by omega)
  have h4 := h 4 (by omega)
  have h5 := h 5 (by omega)
  have h6 := h 6 (by omega)
  unfold namedL
  rw [if_neg (fun e => h0 e.symm), if_neg (fun e => h1 e.symm), if_neg (fun e => h2 e.symm), if_neg (fun e => h3 e.symm), if_neg (fun e => h4 e.symm), if_neg (fun e => h5 e.symm), if_neg (fun e => h6 e.symm)]

set_option maxHeartbeats 1000000 in
theorem c_ref7Parse (s : List UInt8) (hs : s.length ≤ 1000000) : AOk Tryz.prog 23 [str s] H (.tup [exAV (cronK s).1, .sc (.int .i64 (cronK s).2)]) H := by
  rcases prefix64 s with ⟨hp, hnp⟩ | ⟨hp, h0, h64⟩
  · have h := c_ref7Plain (H := H) s hs hnp
    have e : cronK s = if 400 < s.length then (ex0, 3) else cronB s := by unfold cronK; rw [hp]; rfl
    rw [e]; exact h
  · by_cases hl : 400 < s.length
    · have hl' : (400 : Int) < s.length := by omega
      have e : cronK s = (ex0, 3) := by unfold cronK; rw [if_pos hl]
      rw [e]
      refine ACalls.into Tryz.func23 rfl Tryz.ntmps23 Tryz.results23 (by simp) ?_
      simp -implicitDefEqProofs [ex0, f0]
      refine AAlloc.intro fun b2 h2 => ?_
      simp -implicitDefEqProofs [hl, hl']
      exact HWk.new h2 (HWk.refl _)
    · have hl' : ¬ (400 : Int) < s.length := by omega
      have h0' : (0 : Int) < s.length := by omega
      have h64' : (s[0].toNat : Int) = 64 := by omega
      refine ACalls.into Tryz.func23 rfl Tryz.ntmps23 Tryz.results23 (by simp) ?_
      simp -implicitDefEqProofs
      refine AAlloc.intro fun b2 h2 => ?_
      simp -implicitDefEqProofs [hl, hl', h0, h0', h64, h64']
      generalize hK : Heap.set _ b2 _ = K0
      have k2 : K0 b2 = some (.cells (exC ex0) 37) := by rw [← hK]; simp [Heap.set, ex0, f0]
      have kW : HWk H K0 := by rw [← hK]; exact HWk.new h2 (HWk.refl _)
      clear hK h64 h64'
      refine ACall.eq c_refNames ?_
      simp -implicitDefEqProofs
      refine AGo.rounds (fun m ρ K => ∃ q : Nat, q ≤ 7 ∧ m = 7 - q ∧ ρ 0 = str s ∧ ρ 2 = .sc (.pointer (some ⟨b2, 0, none⟩)) ∧ ρ 4 = .sl (strL nmL) .no ∧ ρ 5 = .sc (.int .i64 (2 * q : Nat)) ∧ (∀ q', q' < q → nmL.getD (2 * q') [] ≠ s) ∧ K = K0) ?_ (m := 7) (HLe.refl _)
        ⟨0, by omega, rfl, by simp, by simp, by simp, by simp, fun q' hq => by omega, rfl⟩
      rintro m ρ K ih ⟨q, hq, rfl, r0, r2, r4, r5, hne, rfl⟩
      have hc : q = 0 ∨ q = 1 ∨ q = 2 ∨ q = 3 ∨ q = 4 ∨ q = 5 ∨ q = 6 ∨ q = 7 := by omega
      rcases hc with rfl | rfl | rfl | rfl | rfl | rfl | rfl | rfl
      · skip
        by_cases hs : nHourly = s
        · subst hs
          have e : cronK nHourly = cronB xHourly := cronK_name (by decide) (by decide) (by decide)
          have hpl := c_ref7Plain (H := K) xHourly (by decide) (.inr ⟨by decide, by decide⟩)
          rw [if_neg (by decide)] at hpl
          rw [e]
          simp -implicitDefEqProofs [r0, r2, r4, r5, nmL, wrap_i64]
          refine ACall.eq hpl ?_
          simp -implicitDefEqProofs [r2, k2]
          exact HWk.new h2 kW
        · have hb : (nHourly == s) = false := by simpa using hs
          simp -implicitDefEqProofs [r0, r2, r4, r5, nmL, hb, wrap_i64]
          exact AGo.again ih (m' := 6) (by omega) (HLe.refl _) ⟨1, by omega, rfl, by simp [r0], by simp [r2], by simp [r4, nmL], by simp, lt_succ_all (P := fun q : Nat => nmL.getD (2 * q) [] ≠ s) hne hs, rfl⟩
      · skip
        by_cases hs : nDaily = s
        · subst hs
          have e : cronK nDaily = cronB xDaily := cronK_name (by decide) (by decide) (by decide)
          have hpl := c_ref7Plain (H := K) xDaily (by decide) (.inr ⟨by decide, by decide⟩)
          rw [if_neg (by decide)] at hpl
          rw [e]
          simp -implicitDefEqProofs [r0, r2, r4, r5, nmL, wrap_i64]
          refine ACall.eq hpl ?_
          simp -implicitDefEqProofs [r2, k2]
          exact HWk.new h2 kW
        · have hb : (nDaily == s) = false := by simpa using hs
          simp -implicitDefEqProofs [r0, r2, r4, r5, nmL, hb, wrap_i64]
          exact AGo.again ih (m' := 5) (by omega) (HLe.refl _) ⟨2, by omega, rfl, by simp [r0], by simp [r2], by simp [r4, nmL], by simp, lt_succ_all (P := fun q : Nat => nmL.getD (2 * q) [] ≠ s) hne hs, rfl⟩
      · skip
        by_cases hs : nMidnight = s
        · subst hs
          have e : cronK nMidnight = cronB xDaily := cronK_name (by decide) (by decide) (by decide)
          have hpl := c_ref7Plain (H := K) xDaily (by decide) (.inr ⟨by decide, by decide⟩)
          rw [if_neg (by decide)] at hpl
          rw [e]
          simp -implicitDefEqProofs [r0, r2, r4, r5, nmL, wrap_i64]
          refine ACall.eq hpl ?_
          simp -implicitDefEqProofs [r2, k2]
          exact HWk.new h2 kW
        · have hb : (nMidnight == s) = false := by simpa using hs
          simp -implicitDefEqProofs [r0, r2, r4, r5, nmL, hb, wrap_i64]
          exact AGo.again ih (m' := 4) (by omega) (HLe.refl _) ⟨3, by omega, rfl, by simp [r0], by simp [r2], by simp [r4, nmL], by simp, lt_succ_all (P := fun q : Nat => nmL.getD (2 * q) [] ≠ s) hne hs, rfl⟩
      · skip
        by_cases hs : nWeekly = s
        · subst hs
          have e : cronK nWeekly = cronB xWeekly := cronK_name (by decide) (by decide) (by decide)
          have hpl := c_ref7Plain (H := K) xWeekly (by decide) (.inr ⟨by decide, by decide⟩)
          rw [if_neg (by decide)] at hpl
          rw [e]
          simp -implicitDefEqProofs [r0, r2, r4, r5, nmL, wrap_i64]
          refine ACall.eq hpl ?_
          simp -implicitDefEqProofs [r2, k2]
          exact HWk.new h2 kW
        · have hb : (nWeekly == s) = false := by simpa using hs
          simp -implicitDefEqProofs [r0, r2, r4, r5, nmL, hb, wrap_i64]
          exact AGo.again ih (m' := 3) (by omega) (HLe.refl _) ⟨4, by omega, rfl, by simp [r0], by simp [r2], by simp [r4, nmL], by simp, lt_succ_all (P := fun q : Nat => nmL.getD (2 * q) [] ≠ s) hne hs, rfl⟩
      · skip
        by_cases hs : nMonthly = s
        · subst hs
          have e : cronK nMonthly = cronB xMonthly := cronK_name (by decide) (by decide) (by decide)
          have hpl := c_ref7Plain (H := K) xMonthly (by decide) (.inr ⟨by decide, by decide⟩)
          rw [if_neg (by decide)] at hpl
          rw [e]
          simp -implicitDefEqProofs [r0, r2, r4, r5, nmL, wrap_i64]
          refine ACall.eq hpl ?_
          simp -implicitDefEqProofs [r2, k2]
          exact HWk.new h2 kW
        · have hb : (nMonthly == s) = false := by simpa using hs
          simp -implicitDefEqProofs [r0, r2, r4, r5, nmL, hb, wrap_i64]
          exact AGo.again ih (m' := 2) (by omega) (HLe.refl _) ⟨5, by omega, rfl, by simp [r0], by simp [r2], by simp [r4, nmL], by simp, lt_succ_all (P := fun q : Nat => nmL.getD (2 * q) [] ≠ s) hne hs, rfl⟩
      · skip
        by_cases hs : nYearly = s
        · subst hs
          have e : cronK nYearly = cronB xYearly := cronK_name (by decide) (by decide) (by decide)
          have hpl := c_ref7Plain (H := K) xYearly (by decide) (.inr ⟨by decide, by decide⟩)
          rw [if_neg (by decide)] at hpl
          rw [e]
          simp -implicitDefEqProofs [r0, r2, r4, r5, nmL, wrap_i64]
          refine ACall.eq hpl ?_
          simp -implicitDefEqProofs [r2, k2]
          exact HWk.new h2 kW
        · have hb : (nYearly == s) = false := by simpa using hs
          simp -implicitDefEqProofs [r0, r2, r4, r5, nmL, hb, wrap_i64]
          exact AGo.again ih (m' := 1) (by omega) (HLe.refl _) ⟨6, by omega, rfl, by simp [r0], by simp [r2], by simp [r4, nmL], by simp, lt_succ_all (P := fun q : Nat => nmL.getD (2 * q) [] ≠ s) hne hs, rfl⟩
      · skip
        by_cases hs : nAnnually = s
        · subst hs
          have e : cronK nAnnually = cronB xYearly := cronK_name (by decide) (by decide) (by decide)
          have hpl := c_ref7Plain (H := K) xYearly (by decide) (.inr ⟨by decide, by decide⟩)
          rw [if_neg (by decide)] at hpl
          rw [e]
          simp -implicitDefEqProofs [r0, r2, r4, r5, nmL, wrap_i64]
          refine ACall.eq hpl ?_
          simp -implicitDefEqProofs [r2, k2]
          exact HWk.new h2 kW
        · have hb : (nAnnually == s) = false := by simpa using hs
          simp -implicitDefEqProofs [r0, r2, r4, r5, nmL, hb, wrap_i64]
          exact AGo.again ih (m' := 0) (by omega) (HLe.refl _) ⟨7, by omega, rfl, by simp [r0], by simp [r2], by simp [r4, nmL], by simp, lt_succ_all (P := fun q : Nat => nmL.getD (2 * q) [] ≠ s) hne hs, rfl⟩
      · have e : cronK s = (ex0, 70) := by
          unfold cronK
          rw [if_neg hl, if_pos hp, namedL_none hne]
          rfl
        rw [e]
        simp -implicitDefEqProofs [r4, r5, r2, nmL, k2, ex0, f0]
        exact HWk.new h2 kW
end Go.Proofs.YtdpgnbinekcgdaaGreatDoor
