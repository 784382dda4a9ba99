/- The document's parse of any expression. The document's dates and clocks. The document's clock of a moment. The document's expressions: which may be, which clocks fit. The last firing up to a moment, as the document looks for it. Jobs: which may be. Jobs as bytes: job.Put. Jobs as bytes: what job.Parse's closures take. -/
import Derived.Test.YtghlkjkdejebnaaGreatDoorP17
import Derived.Test.YtghlkjkdejebnaaGreatDoorP13
import Derived.Test.YtghlkjkdejebnaaGreatDoorP14
set_option linter.unusedSimpArgs false
set_option linter.unusedVariables false
set_option linter.unnecessarySimpa false
namespace Go.Proofs.YtghlkjkdejebnaaGreatDoor
open Rg Go
variable {H : Heap}
theorem cronK_name {n x : List UInt8} (hl : ¬ 400 < n.length) (hp : Lib.hasPrefix n [64] = true) (h : namedL n = x) : cronK n = cronB x := by
  unfold cronK
  rw [if_neg hl, if_pos hp, h]
theorem prefix64 (s : List UInt8) : (Lib.hasPrefix s [64] = false ∧ (¬ 0 < s.length ∨ ∃ h : 0 < s.length, ¬ s[0].toNat = 64)) ∨ (Lib.hasPrefix s [64] = true ∧ ∃ h : 0 < s.length, s[0].toNat = 64) := by
  cases s with
  | nil => exact .inl ⟨rfl, .inl (by simp)⟩
  | cons c r =>
    have e : Lib.hasPrefix (c :: r) [64] = (64 == c) := by unfold Lib.hasPrefix; simp [List.isPrefixOf]
    by_cases hc : c = 64
    · exact .inr ⟨by rw [e, hc]; rfl, by simp, by simp [hc]⟩
    · exact .inl ⟨by rw [e]; simpa using Ne.symm hc, .inr ⟨by simp, fun h => hc (UInt8.toNat_inj.1 (by simpa using h))⟩⟩
theorem namedL_none {s : List UInt8} (h : ∀ q, q < 7 → nmL.getD (2 * q) [] ≠ s) : namedL s = [] := by
  have h0 := h 0 (by omega)
  have h1 := h 1 (by omega)
  have h2 := h 2 (by omega)
  have h3 := h 3 (by omega)
  have h4 := h 4 (by omega)
  have h5 := h 5 (by omega)
  have h6 := h 6 (by omega)
  unfold namedL
  rw [if_neg (fun e => h0 e.symm), if_neg (fun e => h1 e.symm), if_neg (fun e => h2 e.symm), if_neg (fun e => h3 e.symm), if_neg (fun e => h4 e.symm), if_neg (fun e => h5 e.symm), if_neg (fun e => h6 e.symm)]
set_option maxHeartbeats 1000000 in
theorem c_ref7ParseW (s : List UInt8) (hs : s.length ≤ 9223372036854775807) : AOk Tryz.prog 108 [str s] H (.tup [exAV (cronK s).1, .sc (.int .i64 (cronK s).2)]) H := by
  rcases prefix64 s with ⟨hp, hnp⟩ | ⟨hp, h0, h64⟩
  · have h := c_ref7Plain (H := H) s hs hnp
    have e : cronK s = if 400 < s.length then (ex0, 3) else cronB s := by unfold cronK; rw [hp]; rfl
    rw [e]; exact h
  · by_cases hl : 400 < s.length
    · have hl' : (400 : Int) < s.length := by omega
      have e : cronK s = (ex0, 3) := by unfold cronK; rw [if_pos hl]
      rw [e]
      refine ACalls.into Tryz.func108 rfl Tryz.ntmps108 Tryz.results108 (by simp) ?_
      simp -implicitDefEqProofs [ex0, f0]
      refine AAlloc.intro fun b2 h2 => ?_
      simp -implicitDefEqProofs [hl, hl']
      exact HWk.new h2 (HWk.refl _)
    · have hl' : ¬ (400 : Int) < s.length := by omega
      have h0' : (0 : Int) < s.length := by omega
      have h64' : (s[0].toNat : Int) = 64 := by omega
      refine ACalls.into Tryz.func108 rfl Tryz.ntmps108 Tryz.results108 (by simp) ?_
      simp -implicitDefEqProofs
      refine AAlloc.intro fun b2 h2 => ?_
      simp -implicitDefEqProofs [hl, hl', h0, h0', h64, h64']
      generalize hK : Heap.set _ b2 _ = K0
      have k2 : K0 b2 = some (.cells (exC ex0) 144) := by rw [← hK]; simp [Heap.set, ex0, f0]
      have kW : HWk H K0 := by rw [← hK]; exact HWk.new h2 (HWk.refl _)
      clear hK h64 h64'
      refine ACall.eq c_refNames ?_
      simp -implicitDefEqProofs
      refine AGo.rounds (fun m ρ K => ∃ q : Nat, q ≤ 7 ∧ m = 7 - q ∧ ρ 0 = str s ∧ ρ 2 = .sc (.pointer (some ⟨b2, 0, none⟩)) ∧ ρ 4 = .sl (strL nmL) .no ∧ ρ 5 = .sc (.int .i64 (2 * q : Nat)) ∧ (∀ q', q' < q → nmL.getD (2 * q') [] ≠ s) ∧ K = K0) ?_ (m := 7) (HLe.refl _)
        ⟨0, by omega, rfl, by simp, by simp, by simp, by simp, fun q' hq => by omega, rfl⟩
      rintro m ρ K ih ⟨q, hq, rfl, r0, r2, r4, r5, hne, rfl⟩
      have hc : q = 0 ∨ q = 1 ∨ q = 2 ∨ q = 3 ∨ q = 4 ∨ q = 5 ∨ q = 6 ∨ q = 7 := by omega
      rcases hc with rfl | rfl | rfl | rfl | rfl | rfl | rfl | rfl
      · skip
        by_cases hs : nHourly = s
        · subst hs
          have e : cronK nHourly = cronB xHourly := cronK_name (by decide) (by decide) (by decide)
          have hpl := c_ref7Plain (H := K) xHourly (by decide) (.inr ⟨by decide, by decide⟩)
          rw [if_neg (by decide)] at hpl
          rw [e]
          simp -implicitDefEqProofs [r0, r2, r4, r5, nmL, wrap_i64]
          refine ACall.eq hpl ?_
          simp -implicitDefEqProofs [r2, k2]
          exact HWk.new h2 kW
        · have hb : (nHourly == s) = false := by simpa using hs
          simp -implicitDefEqProofs [r0, r2, r4, r5, nmL, hb, wrap_i64]
          exact AGo.again ih (m' := 6) (by omega) (HLe.refl _) ⟨1, by omega, rfl, by simp [r0], by simp [r2], by simp [r4, nmL], by simp, lt_succ_all (P := fun q : Nat => nmL.getD (2 * q) [] ≠ s) hne hs, rfl⟩
      · skip
        by_cases hs : nDaily = s
        · subst hs
          have e : cronK nDaily = cronB xDaily := cronK_name (by decide) (by decide) (by decide)
          have hpl := c_ref7Plain (H := K) xDaily (by decide) (.inr ⟨by decide, by decide⟩)
          rw [if_neg (by decide)] at hpl
          rw [e]
          simp -implicitDefEqProofs [r0, r2, r4, r5, nmL, wrap_i64]
          refine ACall.eq hpl ?_
          simp -implicitDefEqProofs [r2, k2]
          exact HWk.new h2 kW
        · have hb : (nDaily == s) = false := by simpa using hs
          simp -implicitDefEqProofs [r0, r2, r4, r5, nmL, hb, wrap_i64]
          exact AGo.again ih (m' := 5) (by omega) (HLe.refl _) ⟨2, by omega, rfl, by simp [r0], by simp [r2], by simp [r4, nmL], by simp, lt_succ_all (P := fun q : Nat => nmL.getD (2 * q) [] ≠ s) hne hs, rfl⟩
      · skip
        by_cases hs : nMidnight = s
        · subst hs
          have e : cronK nMidnight = cronB xDaily := cronK_name (by decide) (by decide) (by decide)
          have hpl := c_ref7Plain (H := K) xDaily (by decide) (.inr ⟨by decide, by decide⟩)
          rw [if_neg (by decide)] at hpl
          rw [e]
          simp -implicitDefEqProofs [r0, r2, r4, r5, nmL, wrap_i64]
          refine ACall.eq hpl ?_
          simp -implicitDefEqProofs [r2, k2]
          exact HWk.new h2 kW
        · have hb : (nMidnight == s) = false := by simpa using hs
          simp -implicitDefEqProofs [r0, r2, r4, r5, nmL, hb, wrap_i64]
          exact AGo.again ih (m' := 4) (by omega) (HLe.refl _) ⟨3, by omega, rfl, by simp [r0], by simp [r2], by simp [r4, nmL], by simp, lt_succ_all (P := fun q : Nat => nmL.getD (2 * q) [] ≠ s) hne hs, rfl⟩
      · skip
        by_cases hs : nWeekly = s
        · subst hs
          have e : cronK nWeekly = cronB xWeekly := cronK_name (by decide) (by decide) (by decide)
          have hpl := c_ref7Plain (H := K) xWeekly (by decide) (.inr ⟨by decide, by decide⟩)
          rw [if_neg (by decide)] at hpl
          rw [e]
          simp -implicitDefEqProofs [r0, r2, r4, r5, nmL, wrap_i64]
          refine ACall.eq hpl ?_
          simp -implicitDefEqProofs [r2, k2]
          exact HWk.new h2 kW
        · have hb : (nWeekly == s) = false := by simpa using hs
          simp -implicitDefEqProofs [r0, r2, r4, r5, nmL, hb, wrap_i64]
          exact AGo.again ih (m' := 3) (by omega) (HLe.refl _) ⟨4, by omega, rfl, by simp [r0], by simp [r2], by simp [r4, nmL], by simp, lt_succ_all (P := fun q : Nat => nmL.getD (2 * q) [] ≠ s) hne hs, rfl⟩
      · skip
        by_cases hs : nMonthly = s
        · subst hs
          have e : cronK nMonthly = cronB xMonthly := cronK_name (by decide) (by decide) (by decide)
          have hpl := c_ref7Plain (H := K) xMonthly (by decide) (.inr ⟨by decide, by decide⟩)
          rw [if_neg (by decide)] at hpl
          rw [e]
          simp -implicitDefEqProofs [r0, r2, r4, r5, nmL, wrap_i64]
          refine ACall.eq hpl ?_
          simp -implicitDefEqProofs [r2, k2]
          exact HWk.new h2 kW
        · have hb : (nMonthly == s) = false := by simpa using hs
          simp -implicitDefEqProofs [r0, r2, r4, r5, nmL, hb, wrap_i64]
          exact AGo.again ih (m' := 2) (by omega) (HLe.refl _) ⟨5, by omega, rfl, by simp [r0], by simp [r2], by simp [r4, nmL], by simp, lt_succ_all (P := fun q : Nat => nmL.getD (2 * q) [] ≠ s) hne hs, rfl⟩
      · skip
        by_cases hs : nYearly = s
        · subst hs
          have e : cronK nYearly = cronB xYearly := cronK_name (by decide) (by decide) (by decide)
          have hpl := c_ref7Plain (H := K) xYearly (by decide) (.inr ⟨by decide, by decide⟩)
          rw [if_neg (by decide)] at hpl
          rw [e]
          simp -implicitDefEqProofs [r0, r2, r4, r5, nmL, wrap_i64]
          refine ACall.eq hpl ?_
          simp -implicitDefEqProofs [r2, k2]
          exact HWk.new h2 kW
        · have hb : (nYearly == s) = false := by simpa using hs
          simp -implicitDefEqProofs [r0, r2, r4, r5, nmL, hb, wrap_i64]
          exact AGo.again ih (m' := 1) (by omega) (HLe.refl _) ⟨6, by omega, rfl, by simp [r0], by simp [r2], by simp [r4, nmL], by simp, lt_succ_all (P := fun q : Nat => nmL.getD (2 * q) [] ≠ s) hne hs, rfl⟩
      · skip
        by_cases hs : nAnnually = s
        · subst hs
          have e : cronK nAnnually = cronB xYearly := cronK_name (by decide) (by decide) (by decide)
          have hpl := c_ref7Plain (H := K) xYearly (by decide) (.inr ⟨by decide, by decide⟩)
          rw [if_neg (by decide)] at hpl
          rw [e]
          simp -implicitDefEqProofs [r0, r2, r4, r5, nmL, wrap_i64]
          refine ACall.eq hpl ?_
          simp -implicitDefEqProofs [r2, k2]
          exact HWk.new h2 kW
        · have hb : (nAnnually == s) = false := by simpa using hs
          simp -implicitDefEqProofs [r0, r2, r4, r5, nmL, hb, wrap_i64]
          exact AGo.again ih (m' := 0) (by omega) (HLe.refl _) ⟨7, by omega, rfl, by simp [r0], by simp [r2], by simp [r4, nmL], by simp, lt_succ_all (P := fun q : Nat => nmL.getD (2 * q) [] ≠ s) hne hs, rfl⟩
      · have e : cronK s = (ex0, 70) := by
          unfold cronK
          rw [if_neg hl, if_pos hp, namedL_none hne]
          rfl
        rw [e]
        simp -implicitDefEqProofs [r4, r5, r2, nmL, k2, ex0, f0]
        exact HWk.new h2 kW
end Go.Proofs.YtghlkjkdejebnaaGreatDoor
namespace Go.Proofs.YtghlkjkdejebnaaGreatDoor
open Rg Go
variable {H : Heap}
end Go.Proofs.YtghlkjkdejebnaaGreatDoor
namespace Go.Proofs.YtghlkjkdejebnaaGreatDoor
open Rg Go
variable {H : Heap}
end Go.Proofs.YtghlkjkdejebnaaGreatDoor
namespace Go.Proofs.YtghlkjkdejebnaaGreatDoor
open Rg Go
variable {H : Heap}
end Go.Proofs.YtghlkjkdejebnaaGreatDoor
namespace Go.Proofs.YtghlkjkdejebnaaGreatDoor
open Rg Go
variable {H : Heap}
end Go.Proofs.YtghlkjkdejebnaaGreatDoor
namespace Go.Proofs.YtghlkjkdejebnaaGreatDoor
open Rg Go
variable {H : Heap}
structure Jb where
  id : Nat
  name : List UInt8
  ex : List UInt8
  pol : Int
  gr : Int
  lim : Int
  ret : Int
  tim : Int
  deps : List Nat
  pau : Bool
  ver : Nat
  seen : Int
abbrev jbC (j : Jb) (t : Tok) : List AV := [.sc (.int .u64 (j.id : Nat)), str j.name, str j.ex, .sc (.int .i64 j.pol), .sc (.int .i64 j.gr), .sc (.int .i64 j.lim), .sc (.int .i64 j.ret), .sc (.int .i64 j.tim), .sl (j.deps.map fun n : Nat => .sc (.int .u64 n)) t, .sc (.bool j.pau), .sc (.int .u64 (j.ver : Nat)), .sc (.int .i64 j.seen)]
abbrev jbAV (j : Jb) (t : Tok) : AV := .agg (jbC j t)
def badJ (j : Jb) : Bool := decide (j.pol < 1) || decide (3 < j.pol) || decide (j.gr < 0) || decide (604800 < j.gr) || decide (j.lim < 1) || decide (8 < j.lim) || decide (j.ret < 0) || decide (5 < j.ret) || decide (j.tim < 1) || decide (86400 < j.tim) || decide (j.seen < -1) || decide (13569465600 ≤ j.seen)
def mayJ (j : Jb) : Int :=
  if j.name.length < 1 then 140 else if 32 < j.name.length then 140 else if (cronK j.ex).2 ≠ 0 then (cronK j.ex).2 else if 8 < j.deps.length then 3 else if badJ j = true then 2 else 0
set_option maxHeartbeats 4000000 in
theorem c_jobMay (hG : Glob H) (j : Jb) (t : Tok) (hs : j.ex.length ≤ 9223372036854775807) : AOk Tryz.prog 58 [jbAV j t] H (.sc (.int .i64 (mayJ j))) H := by
  unfold mayJ
  refine ACalls.into Tryz.func58 rfl Tryz.ntmps58 Tryz.results58 (by simp) ?_
  simp -implicitDefEqProofs
  refine AAlloc.intro fun b1 h1 => ?_
  simp -implicitDefEqProofs
  generalize hK : Heap.set _ b1 _ = K1
  have k1 : K1 b1 = some (.cells (jbC j t) 25) := by rw [← hK]; simp [Heap.set]
  have kG : Glob K1 := by rw [← hK]; exact hG.new h1
  have kW : HWk H K1 := by rw [← hK]; exact HWk.new h1 (HWk.refl _)
  clear hK
  by_cases c0 : j.name = []
  · simp -implicitDefEqProofs [c0]
    exact kW
  · have c1 : ¬ j.name.length < 1 := by
      have := List.length_pos_iff.2 c0
      omega
    have c1' : ¬ (j.name.length : Int) < 1 := by omega
    by_cases c2 : 32 < j.name.length
    · have c2' : (32 : Int) < (j.name.length : Int) := by omega
      simp -implicitDefEqProofs [k1, c0, c1', c2, c2']
      exact kW
    · have c2' : ¬ (32 : Int) < (j.name.length : Int) := by omega
      simp -implicitDefEqProofs [k1, c0, c1', c2, c2']
      have hp := c_cronParse kG j.ex hs
      generalize cronK j.ex = p at *
      obtain ⟨x, e⟩ := p
      simp only at hp ⊢
      refine ACall.eq hp ?_
      simp -implicitDefEqProofs
      refine AAlloc.intro fun b3 h3 => ?_
      have n13 : b1 ≠ b3 := by intro e; subst e; rw [k1] at h3; cases h3
      have kW3 : ∀ o, HWk H (K1.set b3 o) := fun o => HWk.new (kW.none h3) kW
      by_cases he : e = 0
      · subst he
        simp -implicitDefEqProofs [n13, k1]
        generalize hK : Heap.set K1 b3 _ = K3
        have k3 : K3 b1 = some (.cells (jbC j t) 25) := by rw [← hK]; simp [Heap.set, n13, k1]
        have kW3 : HWk H K3 := by rw [← hK]; exact kW3 _
        clear hK
        by_cases c3 : 8 < j.deps.length
        · have c3' : (8 : Int) < (j.deps.length : Int) := by omega
          simp -implicitDefEqProofs [c3, c3']
          exact kW3
        · have c3' : ¬ (8 : Int) < (j.deps.length : Int) := by omega
          by_cases q0 : j.pol < 1
          · simp -implicitDefEqProofs [k3, c3, c3', q0, badJ]
            exact kW3
          · by_cases q1 : 3 < j.pol
            · simp -implicitDefEqProofs [k3, c3, c3', q0, q1, badJ]
              exact kW3
            · by_cases q2 : j.gr < 0
              · simp -implicitDefEqProofs [k3, c3, c3', q0, q1, q2, badJ]
                exact kW3
              · by_cases q3 : 604800 < j.gr
                · simp -implicitDefEqProofs [k3, c3, c3', q0, q1, q2, q3, badJ]
                  exact kW3
                · by_cases q4 : j.lim < 1
                  · simp -implicitDefEqProofs [k3, c3, c3', q0, q1, q2, q3, q4, badJ]
                    exact kW3
                  · by_cases q5 : 8 < j.lim
                    · simp -implicitDefEqProofs [k3, c3, c3', q0, q1, q2, q3, q4, q5, badJ]
                      exact kW3
                    · by_cases q6 : j.ret < 0
                      · simp -implicitDefEqProofs [k3, c3, c3', q0, q1, q2, q3, q4, q5, q6, badJ]
                        exact kW3
                      · by_cases q7 : 5 < j.ret
                        · simp -implicitDefEqProofs [k3, c3, c3', q0, q1, q2, q3, q4, q5, q6, q7, badJ]
                          exact kW3
                        · by_cases q8 : j.tim < 1
                          · simp -implicitDefEqProofs [k3, c3, c3', q0, q1, q2, q3, q4, q5, q6, q7, q8, badJ]
                            exact kW3
                          · by_cases q9 : 86400 < j.tim
                            · simp -implicitDefEqProofs [k3, c3, c3', q0, q1, q2, q3, q4, q5, q6, q7, q8, q9, badJ]
                              exact kW3
                            · by_cases q10 : j.seen < -1
                              · simp -implicitDefEqProofs [k3, c3, c3', q0, q1, q2, q3, q4, q5, q6, q7, q8, q9, q10, badJ]
                                exact kW3
                              · by_cases q11 : 13569465600 ≤ j.seen
                                · simp -implicitDefEqProofs [k3, c3, c3', q0, q1, q2, q3, q4, q5, q6, q7, q8, q9, q10, q11, badJ]
                                  exact kW3
                                · simp -implicitDefEqProofs [k3, c3, c3', q0, q1, q2, q3, q4, q5, q6, q7, q8, q9, q10, q11, badJ]
                                  exact kW3
      · simp -implicitDefEqProofs [he]
        exact kW3 _
set_option maxHeartbeats 8000000 in
theorem c_ref14May (j : Jb) (t : Tok) (hs : j.ex.length ≤ 9223372036854775807) : AOk Tryz.prog 59 [jbAV j t] H (.sc (.int .i64 (mayJ j))) H := by
  unfold mayJ
  refine ACalls.into Tryz.func59 rfl Tryz.ntmps59 Tryz.results59 (by simp) ?_
  simp -implicitDefEqProofs
  refine AAlloc.intro fun b1 h1 => ?_
  simp -implicitDefEqProofs
  generalize hK : Heap.set _ b1 _ = K1
  have k1 : K1 b1 = some (.cells (jbC j t) 25) := by rw [← hK]; simp [Heap.set]
  have kW : HWk H K1 := by rw [← hK]; exact HWk.new h1 (HWk.refl _)
  clear hK
  by_cases c1 : j.name = []
  · simp -implicitDefEqProofs [c1]
    exact kW
  · have c1' : ¬ j.name.length < 1 := by
      have := List.length_pos_iff.2 c1
      omega
    have c1e : j.name.isEmpty = false := by simp [c1]
    by_cases c2 : 32 < j.name.length
    · have c2' : (32 : Int) < (j.name.length : Int) := by omega
      simp -implicitDefEqProofs [k1, c1, c1e, c2, c2']
      exact kW
    · have c2' : ¬ (32 : Int) < (j.name.length : Int) := by omega
      simp -implicitDefEqProofs [k1, c1, c1e, c2, c2']
      have hp := c_ref7ParseW (H := K1) j.ex hs
      generalize cronK j.ex = p at *
      obtain ⟨x, e⟩ := p
      simp only at hp ⊢
      refine ACall.eq hp ?_
      simp -implicitDefEqProofs
      refine AAlloc.intro fun b3 h3 => ?_
      have n13 : b1 ≠ b3 := by intro e; subst e; rw [k1] at h3; cases h3
      have kW3 : ∀ o, HWk H (K1.set b3 o) := fun o => HWk.new (kW.none h3) kW
      by_cases he : e = 0
      · subst he
        simp -implicitDefEqProofs [n13, k1]
        generalize hK : Heap.set K1 b3 _ = K3
        have k3 : K3 b1 = some (.cells (jbC j t) 25) := by rw [← hK]; simp [Heap.set, n13, k1]
        have kW3 : HWk H K3 := by rw [← hK]; exact kW3 _
        clear hK
        by_cases c3 : 8 < j.deps.length
        · have c3' : (8 : Int) < (j.deps.length : Int) := by omega
          simp -implicitDefEqProofs [c3, c3']
          exact kW3
        · have c3' : ¬ (8 : Int) < (j.deps.length : Int) := by omega
          by_cases p1 : j.pol = 1
          · by_cases q0 : j.gr < 0
            · simp -implicitDefEqProofs [k3, c3, c3', p1, q0, badJ]
              exact kW3
            · by_cases q1 : 604800 < j.gr
              · simp -implicitDefEqProofs [k3, c3, c3', p1, q0, q1, badJ]
                exact kW3
              · by_cases q2 : j.lim < 1
                · simp -implicitDefEqProofs [k3, c3, c3', p1, q0, q1, q2, badJ]
                  exact kW3
                · by_cases q3 : 8 < j.lim
                  · simp -implicitDefEqProofs [k3, c3, c3', p1, q0, q1, q2, q3, badJ]
                    exact kW3
                  · by_cases q4 : j.ret < 0
                    · simp -implicitDefEqProofs [k3, c3, c3', p1, q0, q1, q2, q3, q4, badJ]
                      exact kW3
                    · by_cases q5 : 5 < j.ret
                      · simp -implicitDefEqProofs [k3, c3, c3', p1, q0, q1, q2, q3, q4, q5, badJ]
                        exact kW3
                      · by_cases q6 : j.tim < 1
                        · simp -implicitDefEqProofs [k3, c3, c3', p1, q0, q1, q2, q3, q4, q5, q6, badJ]
                          exact kW3
                        · by_cases q7 : 86400 < j.tim
                          · simp -implicitDefEqProofs [k3, c3, c3', p1, q0, q1, q2, q3, q4, q5, q6, q7, badJ]
                            exact kW3
                          · by_cases q8 : j.seen < -1
                            · simp -implicitDefEqProofs [k3, c3, c3', p1, q0, q1, q2, q3, q4, q5, q6, q7, q8, badJ]
                              exact kW3
                            · by_cases q9 : 13569465600 ≤ j.seen
                              · have r : 13569465599 < j.seen := by omega
                                simp -implicitDefEqProofs [k3, c3, c3', p1, q0, q1, q2, q3, q4, q5, q6, q7, q8, q9, r, badJ]
                                exact kW3
                              · have r : ¬ 13569465599 < j.seen := by omega
                                simp -implicitDefEqProofs [k3, c3, c3', p1, q0, q1, q2, q3, q4, q5, q6, q7, q8, q9, r, badJ]
                                exact kW3
          · by_cases p2 : j.pol = 2
            · by_cases q0 : j.gr < 0
              · simp -implicitDefEqProofs [k3, c3, c3', p2, q0, badJ]
                exact kW3
              · by_cases q1 : 604800 < j.gr
                · simp -implicitDefEqProofs [k3, c3, c3', p2, q0, q1, badJ]
                  exact kW3
                · by_cases q2 : j.lim < 1
                  · simp -implicitDefEqProofs [k3, c3, c3', p2, q0, q1, q2, badJ]
                    exact kW3
                  · by_cases q3 : 8 < j.lim
                    · simp -implicitDefEqProofs [k3, c3, c3', p2, q0, q1, q2, q3, badJ]
                      exact kW3
                    · by_cases q4 : j.ret < 0
                      · simp -implicitDefEqProofs [k3, c3, c3', p2, q0, q1, q2, q3, q4, badJ]
                        exact kW3
                      · by_cases q5 : 5 < j.ret
                        · simp -implicitDefEqProofs [k3, c3, c3', p2, q0, q1, q2, q3, q4, q5, badJ]
                          exact kW3
                        · by_cases q6 : j.tim < 1
                          · simp -implicitDefEqProofs [k3, c3, c3', p2, q0, q1, q2, q3, q4, q5, q6, badJ]
                            exact kW3
                          · by_cases q7 : 86400 < j.tim
                            · simp -implicitDefEqProofs [k3, c3, c3', p2, q0, q1, q2, q3, q4, q5, q6, q7, badJ]
                              exact kW3
                            · by_cases q8 : j.seen < -1
                              · simp -implicitDefEqProofs [k3, c3, c3', p2, q0, q1, q2, q3, q4, q5, q6, q7, q8, badJ]
                                exact kW3
                              · by_cases q9 : 13569465600 ≤ j.seen
                                · have r : 13569465599 < j.seen := by omega
                                  simp -implicitDefEqProofs [k3, c3, c3', p2, q0, q1, q2, q3, q4, q5, q6, q7, q8, q9, r, badJ]
                                  exact kW3
                                · have r : ¬ 13569465599 < j.seen := by omega
                                  simp -implicitDefEqProofs [k3, c3, c3', p2, q0, q1, q2, q3, q4, q5, q6, q7, q8, q9, r, badJ]
                                  exact kW3
            · by_cases p3 : j.pol = 3
              · by_cases q0 : j.gr < 0
                · simp -implicitDefEqProofs [k3, c3, c3', p3, q0, badJ]
                  exact kW3
                · by_cases q1 : 604800 < j.gr
                  · simp -implicitDefEqProofs [k3, c3, c3', p3, q0, q1, badJ]
                    exact kW3
                  · by_cases q2 : j.lim < 1
                    · simp -implicitDefEqProofs [k3, c3, c3', p3, q0, q1, q2, badJ]
                      exact kW3
                    · by_cases q3 : 8 < j.lim
                      · simp -implicitDefEqProofs [k3, c3, c3', p3, q0, q1, q2, q3, badJ]
                        exact kW3
                      · by_cases q4 : j.ret < 0
                        · simp -implicitDefEqProofs [k3, c3, c3', p3, q0, q1, q2, q3, q4, badJ]
                          exact kW3
                        · by_cases q5 : 5 < j.ret
                          · simp -implicitDefEqProofs [k3, c3, c3', p3, q0, q1, q2, q3, q4, q5, badJ]
                            exact kW3
                          · by_cases q6 : j.tim < 1
                            · simp -implicitDefEqProofs [k3, c3, c3', p3, q0, q1, q2, q3, q4, q5, q6, badJ]
                              exact kW3
                            · by_cases q7 : 86400 < j.tim
                              · simp -implicitDefEqProofs [k3, c3, c3', p3, q0, q1, q2, q3, q4, q5, q6, q7, badJ]
                                exact kW3
                              · by_cases q8 : j.seen < -1
                                · simp -implicitDefEqProofs [k3, c3, c3', p3, q0, q1, q2, q3, q4, q5, q6, q7, q8, badJ]
                                  exact kW3
                                · by_cases q9 : 13569465600 ≤ j.seen
                                  · have r : 13569465599 < j.seen := by omega
                                    simp -implicitDefEqProofs [k3, c3, c3', p3, q0, q1, q2, q3, q4, q5, q6, q7, q8, q9, r, badJ]
                                    exact kW3
                                  · have r : ¬ 13569465599 < j.seen := by omega
                                    simp -implicitDefEqProofs [k3, c3, c3', p3, q0, q1, q2, q3, q4, q5, q6, q7, q8, q9, r, badJ]
                                    exact kW3
              · have hb : badJ j = true := by
                  by_cases g : j.pol < 1
                  · simp [badJ, g]
                  · have g2 : 3 < j.pol := by omega
                    simp [badJ, g2]
                simp -implicitDefEqProofs [k3, c3, c3', p1, p2, p3, hb]
                exact kW3
      · simp -implicitDefEqProofs [he]
        exact kW3 _
end Go.Proofs.YtghlkjkdejebnaaGreatDoor
namespace Go.Proofs.YtghlkjkdejebnaaGreatDoor
open Rg Go
variable {H : Heap}
structure BufAt (e T : TypeId) (H0 : Heap) (c : Nat) (xs : List AV) (K : Heap) : Prop where
  le : HLe H0 K
  no : H0 c = none
  row : ∃ t, K c = some (.cells [.sl xs t] T) ∧ ((t = .nil ∧ xs = []) ∨ ∃ g cap, g ≠ c ∧ H0 g = none ∧ t = .own g cap 1 e ∧ K g = some (.open xs.length cap 1 e))
theorem BufAt.start {e T : TypeId} {H0 : Heap} {c : Nat} (h : H0 c = none) : BufAt e T H0 c [] (H0.set c (.cells [.sl [] .nil] T)) :=
  ⟨HLe.set_fresh h, h, _, by simp [Heap.set], .inl ⟨rfl, rfl⟩⟩
theorem BufAt.grows {e T : TypeId} {H0 K : Heap} {c : Nat} {xs : List AV} (h : BufAt e T H0 c xs K) :
    ∃ t G0 G, K c = some (.cells [.sl xs t] T) ∧ Grows G0 xs 1 e t G ∧ HLe G K ∧ HLe H0 G0 ∧ G0 c = some (.cells [.sl xs t] T) := by
  obtain ⟨t, h1, ⟨rfl, rfl⟩ | ⟨g, cap, h2, h3, rfl, h4⟩⟩ := h.row
  · exact ⟨_, K, K, h1, .zero, HLe.refl _, h.le, h1⟩
  · refine ⟨_, K.del g, (K.del g).set g (.open xs.length cap 1 e), h1, .inr ⟨g, cap, by simp [Heap.del], rfl, rfl⟩, fun b ob hb => ?_, HLe.del_new h.le h3, by simp [Heap.del, Ne.symm h2, h1]⟩
    by_cases hbg : b = g
    · subst hbg
      simp only [Heap.set, if_true] at hb
      rw [← hb]; exact h4
    · simpa [Heap.set, Heap.del, hbg] using hb
theorem BufAt.stored {e T : TypeId} {H0 G0 K' Hn : Heap} {c : Nat} {xs : List AV} {t' : Rg.Tok} {o : AObj} (h1 : HLe H0 G0) (h2 : H0 c = none) (h3 : G0 c = some o) (h4 : Grows G0 xs 1 e t' K') (h5 : HLe K' Hn) :
    BufAt e T H0 c xs (Hn.set c (.cells [.sl xs t'] T)) := by
  have hle := (h1.trans h4.le).trans h5
  refine ⟨HLe.set_new hle h2, h2, t', by simp [Heap.set], ?_⟩
  rcases h4 with ⟨rfl, rfl, rfl⟩ | ⟨g, cap, g1, rfl, rfl⟩
  · exact .inl ⟨rfl, rfl⟩
  · have hgc : g ≠ c := by rintro rfl; rw [h3] at g1; cases g1
    exact .inr ⟨g, cap, hgc, h1.none g1, rfl, by simp [Heap.set, hgc]; exact h5 g _ (by simp [Heap.set])⟩
theorem BufAt.cell {e T : TypeId} {H0 K : Heap} {c b : Nat} {xs : List AV} {o : AObj} (h : BufAt e T H0 c xs K) (hb : H0 b = some o) : K b = some o := h.le b o hb
abbrev u64s (L : List Nat) : List AV := L.map fun n : Nat => .sc (.int .u64 (n : Int))
def numsB (L : List Nat) : List UInt8 := L.flatMap putB
theorem numsB_len : ∀ L : List Nat, (numsB L).length ≤ 10 * L.length
  | [] => by simp [numsB]
  | n :: L => by
    have h1 := putB_len n
    have h2 := numsB_len L
    simp only [numsB, List.flatMap_cons, List.length_append, List.length_cons] at *
    omega
theorem numsB_take {L : List Nat} {i n : Nat} (h : L[i]? = some n) : numsB (L.take (i + 1)) = numsB (L.take i) ++ putB n := by
  rw [List.take_add_one, h]
  simp [numsB]
set_option maxHeartbeats 1000000 in
theorem c_putNum {H0 K : Heap} {c : Nat} {bs : List UInt8} (hB : BufAt 5 28 H0 c (u8s bs) K) (L : List Nat) (t : Rg.Tok) (hL : L.length ≤ 1000) (hbs : bs.length ≤ 100000) (h64 : ∀ n ∈ L, n < 18446744073709551616) :
    ACalls Tryz.prog 96 [.sl (u64s L) t, .sc (.pointer (some ⟨c, 0, none⟩))] K (fun v K' => v = .tup [] ∧ BufAt 5 28 H0 c (u8s (bs ++ numsB L)) K') := by
  generalize hR : (fun (v : AV) (K' : Heap) => v = .tup [] ∧ BufAt 5 28 H0 c (u8s (bs ++ numsB L)) K') = R
  refine ACalls.into Tryz.func96 rfl Tryz.ntmps96 Tryz.results96 (by simp) ?_
  simp -implicitDefEqProofs
  refine AGo.rounds (fun m ρ K2 => ∃ i, m = L.length - i ∧ i ≤ L.length ∧ ρ 7 = .sc (.int .i64 (i : Int)) ∧ ρ 1 = .sc (.pointer (some ⟨c, 0, none⟩)) ∧ ρ 5 = .sl (u64s L) t ∧ ρ 6 = .sc (.int .i64 (L.length : Int)) ∧ BufAt 5 28 H0 c (u8s (bs ++ numsB (L.take i))) K2) ?_ (m := L.length) (HLe.refl _)
    ⟨0, rfl, by omega, by simp, by simp, by simp, by simp, by simpa [numsB] using hB⟩
  rintro m ρ K2 ih ⟨i, rfl, hi, r7, r1, r5, r6, hb⟩
  rcases Nat.lt_or_ge i L.length with hlt | hge
  · obtain ⟨n, hej, hn⟩ := getAt hlt
    have hlt' : (i : Int) < (L.length : Int) := by omega
    have hw1 : IntKind.i64.wrap ((i : Int) + 1) = (i : Int) + 1 := wrap_i64 (by omega) (by omega)
    have hn64 := h64 n (List.mem_of_getElem? hn)
    have hpl := putB_len n
    have hnl := numsB_len (L.take i)
    rw [List.length_take] at hnl
    have hq' : bs ++ numsB (L.take (i + 1)) = bs ++ numsB (L.take i) ++ putB n := by rw [numsB_take hn, List.append_assoc]
    have hql : (bs ++ numsB (L.take i)).length ≤ 200000 := by rw [List.length_append]; omega
    obtain ⟨q, hq⟩ : ∃ q, bs ++ numsB (L.take i) = q := ⟨_, rfl⟩
    rw [hq] at hb hq' hql
    obtain ⟨t1, G0, G, hc, hg, hl, hl0, hc0⟩ := hb.grows
    simp -implicitDefEqProofs [r7, r1, r5, r6, hlt, hlt', hej]
    refine go_draw3 [1, 2] (fun _ => none) f_mixed (by decide +kernel) HC.nothing ?_
    simp -implicitDefEqProofs
    refine aq3_op ?_
    simp -implicitDefEqProofs
    refine aq3_op ?_
    simp -implicitDefEqProofs
    refine ⟨_, fun H' _ => c_packPut n hn64, ?_⟩
    simp -implicitDefEqProofs
    refine AWK.one 0 (by decide +kernel) ?_
    refine AWE.op rfl ?_
    simp -implicitDefEqProofs [r1, hc]
    refine AWK.one 3 (by decide +kernel) ?_
    refine AWE.op rfl ?_
    simp -implicitDefEqProofs
    refine AWS.grows0 el_28 hg hl (szs_u8s _) (szs_u8s _) (by simp; omega) (by simp [maxLen]; omega) fun t' K' Hn hg' hl' _ => ?_
    refine AWK.one 4 (by decide +kernel) ?_
    refine AWE.op rfl ?_
    have hcn : Hn c = some (.cells [.sl (u8s q) t1] 28) := hl' c _ (hg'.le c _ hc0)
    rw [← u8s_app, ← hq'] at hg'
    rw [← u8s_app, ← hq']
    clear hq hq'
    obtain ⟨q2, hq2⟩ : ∃ q2, bs ++ numsB (L.take (i + 1)) = q2 := ⟨_, rfl⟩
    rw [hq2] at hg' ⊢
    simp -implicitDefEqProofs [r1, hcn]
    refine AWS.store hcn (fun _ _ h => by cases h) ?_
    refine AWK.fin (by decide +kernel) ?_
    simp -implicitDefEqProofs [r7, hw1]
    refine AGo.again ih (m' := L.length - (i + 1)) (by omega) (HLe.refl _) ⟨i + 1, rfl, by omega, by simp, by simp [r1], by simp [r5], by simp [r6], ?_⟩
    rw [hq2]
    exact BufAt.stored hl0 hb.no hc0 hg' hl'
  · have hn : ¬ (i : Int) < (L.length : Int) := by omega
    have hn' : ¬ i < L.length := by omega
    simp -implicitDefEqProofs [r7, r1, r5, r6, hn, hn']
    rw [List.take_of_length_le hge] at hb
    subst hR
    exact AFin.intro _ _ (wk_refl _) (HWk.refl _) ⟨rfl, hb⟩
def putJ (j : Jb) : List UInt8 :=
  numsB [j.id] ++ putTextB j.name ++ putTextB j.ex ++ numsB [j.pol.toNat, j.gr.toNat, j.lim.toNat, j.ret.toNat, j.tim.toNat, j.deps.length] ++ numsB j.deps ++ numsB [if j.pau then 1 else 0, j.ver] ++ putB (zig j.seen)
structure JbOk (j : Jb) : Prop where
  id : j.id < 18446744073709551616
  ver : j.ver < 18446744073709551616
  deps : ∀ n ∈ j.deps, n < 18446744073709551616
structure JbMay (j : Jb) : Prop where
  name : 1 ≤ j.name.length ∧ j.name.length ≤ 32
  ex : (cronK j.ex).2 = 0
  deps : j.deps.length ≤ 8
  pol : 1 ≤ j.pol ∧ j.pol ≤ 3
  gr : 0 ≤ j.gr ∧ j.gr ≤ 604800
  lim : 1 ≤ j.lim ∧ j.lim ≤ 8
  ret : 0 ≤ j.ret ∧ j.ret ≤ 5
  tim : 1 ≤ j.tim ∧ j.tim ≤ 86400
  seen : -1 ≤ j.seen ∧ j.seen < 13569465600
theorem JbMay.of {j : Jb} (h : mayJ j = 0) : JbMay j := by
  unfold mayJ at h
  split at h
  · cases h
  · split at h
    · cases h
    · split at h
      · rename_i h3
        exact absurd (by simpa using h) h3
      · split at h
        · cases h
        · split at h
          · cases h
          · rename_i h1 h2 h3 h4 h5
            simp only [badJ, Bool.or_eq_true, decide_eq_true_eq, not_or, Int.not_lt, Int.not_le] at h5
            obtain ⟨⟨⟨⟨⟨⟨⟨⟨⟨⟨⟨a1, a2⟩, a3⟩, a4⟩, a5⟩, a6⟩, a7⟩, a8⟩, a9⟩, a10⟩, a11⟩, a12⟩ := h5
            exact ⟨⟨by omega, by omega⟩, by simpa using h3, by omega, ⟨a1, a2⟩, ⟨a3, a4⟩, ⟨a5, a6⟩, ⟨a7, a8⟩, ⟨a9, a10⟩, ⟨a11, a12⟩⟩
set_option maxHeartbeats 2000000 in
theorem c_jobPut (hG : Glob H) (j : Jb) (t : Rg.Tok) (ho : JbOk j) (hm : mayJ j = 0) (hs : j.ex.length ≤ 4096) : AOk Tryz.prog 49 [jbAV j t] H (.tup [.sl (u8s (putJ j)) .no, .sc (.int .i64 0)]) H := by
  have M := JbMay.of hm
  refine ACalls.into Tryz.func49 rfl Tryz.ntmps49 Tryz.results49 (by simp) ?_
  simp -implicitDefEqProofs
  refine AAlloc.intro fun b1 h1 => ?_
  simp -implicitDefEqProofs
  generalize hK : Heap.set _ b1 _ = K1
  have k1 : K1 b1 = some (.cells (jbC j t) 25) := by rw [← hK]; simp [Heap.set]
  have kG : Glob K1 := by rw [← hK]; exact hG.new h1
  have kW : HLe H K1 := by rw [← hK]; exact HLe.set_fresh h1
  clear hK
  have hmay := c_jobMay kG j t (by omega)
  rw [hm] at hmay
  refine ACall.eq hmay ?_
  simp -implicitDefEqProofs [k1]
  refine AAlloc.intro fun c hc => ?_
  have hB0 : BufAt 5 28 K1 c (u8s []) (K1.set c (.cells [.sl [] .nil] 28)) := BufAt.start hc
  generalize K1.set c _ = K2 at *
  have hp1 := c_putNum hB0 [j.id] .full (by simp) (by simp) (by simpa using ho.id)
  simp only [u64s, List.map_cons, List.map_nil, List.nil_append] at hp1
  simp -implicitDefEqProofs [hB0.cell k1]
  refine ACall.intro hp1 ?_
  rintro v K3 ⟨rfl, hB1⟩
  simp -implicitDefEqProofs [hB1.cell k1]
  refine ACall.eq (c_putText j.name (by have := M.name; omega)) ?_
  simp -implicitDefEqProofs [hB1.cell k1]
  refine ACall.eq (c_putText j.ex hs) ?_
  obtain ⟨t1, G0, G, hc1, hg, hl, hl0, hc0⟩ := hB1.grows
  obtain ⟨q1, hq1⟩ : ∃ q, numsB [j.id] ++ putTextB j.name ++ putTextB j.ex = q := ⟨_, rfl⟩
  have hj : joinB [(numsB [j.id], t1), (putTextB j.name, Rg.Tok.no), (putTextB j.ex, Rg.Tok.no)] = q1 := by rw [← hq1]; simp [joinB]
  have hql : q1.length ≤ 5000 := by
    have a1 := numsB_len [j.id]
    have a2 := putB_len j.name.length
    have a3 := putB_len j.ex.length
    have := M.name
    rw [← hq1]
    simp only [putTextB, List.length_append, List.length_cons, List.length_nil] at *
    omega
  have hpj := c_packJoin (H := K3) [(numsB [j.id], t1), (putTextB j.name, Rg.Tok.no), (putTextB j.ex, Rg.Tok.no)] .full (by simp only [List.length_cons, List.length_nil]; omega) (by rw [hj]; omega)
  rw [hj] at hpj
  simp only [rowsAV, List.map_cons, List.map_nil] at hpj
  simp -implicitDefEqProofs [hB1.cell k1, hc1]
  refine ACall.intro hpj ?_
  rintro v K4 ⟨t2, rfl, hg2⟩
  have hc4 : K4 c = some (.cells [.sl (u8s (numsB [j.id])) t1] 28) := hg2.le c _ hc1
  have k41 : K4 b1 = some (.cells (jbC j t) 25) := hg2.le b1 _ (hB1.cell k1)
  have n1c : b1 ≠ c := by rintro rfl; rw [k1] at hc; cases hc
  have hB2 : BufAt 5 28 K1 c (u8s q1) (K4.set c (.cells [.sl (u8s q1) t2] 28)) := BufAt.stored hB1.le hc hc1 hg2 (HLe.refl _)
  obtain ⟨x1, hx1⟩ : ∃ x, j.pol.toNat = x := ⟨_, rfl⟩
  have w1 : IntKind.u64.wrap j.pol = (x1 : Int) := by have := M.pol; rw [wrap_u64 (by omega) (by omega)]; omega
  obtain ⟨x2, hx2⟩ : ∃ x, j.gr.toNat = x := ⟨_, rfl⟩
  have w2 : IntKind.u64.wrap j.gr = (x2 : Int) := by have := M.gr; rw [wrap_u64 (by omega) (by omega)]; omega
  obtain ⟨x3, hx3⟩ : ∃ x, j.lim.toNat = x := ⟨_, rfl⟩
  have w3 : IntKind.u64.wrap j.lim = (x3 : Int) := by have := M.lim; rw [wrap_u64 (by omega) (by omega)]; omega
  obtain ⟨x4, hx4⟩ : ∃ x, j.ret.toNat = x := ⟨_, rfl⟩
  have w4 : IntKind.u64.wrap j.ret = (x4 : Int) := by have := M.ret; rw [wrap_u64 (by omega) (by omega)]; omega
  obtain ⟨x5, hx5⟩ : ∃ x, j.tim.toNat = x := ⟨_, rfl⟩
  have w5 : IntKind.u64.wrap j.tim = (x5 : Int) := by have := M.tim; rw [wrap_u64 (by omega) (by omega)]; omega
  have w6 : IntKind.u64.wrap (j.deps.length : Int) = (j.deps.length : Int) := by have := M.deps; rw [wrap_u64 (by omega) (by omega)]
  simp -implicitDefEqProofs [hc4, n1c, k41, w1, w2, w3, w4, w5, w6]
  generalize K4.set c _ = K5 at *
  have hp2 := c_putNum hB2 [x1, x2, x3, x4, x5, j.deps.length] .full (by simp) (by omega) (by
    have := M.pol; have := M.gr; have := M.lim; have := M.ret; have := M.tim; have := M.deps
    simp only [List.mem_cons, List.not_mem_nil, or_false]
    omega)
  simp only [u64s, List.map_cons, List.map_nil] at hp2
  refine ACall.intro hp2 ?_
  rintro v K6 ⟨rfl, hB3⟩
  have a1 := numsB_len [x1, x2, x3, x4, x5, j.deps.length]
  simp only [List.length_cons, List.length_nil] at a1
  have hp3 := c_putNum hB3 j.deps t (by have := M.deps; omega) (by rw [List.length_append]; omega) ho.deps
  simp -implicitDefEqProofs [hB3.cell k1]
  refine ACall.intro hp3 ?_
  rintro v K7 ⟨rfl, hB4⟩
  have a2 := numsB_len j.deps
  obtain ⟨pn, hpn⟩ : ∃ pn : Nat, (if j.pau then 1 else 0) = pn := ⟨_, rfl⟩
  have hp4 := c_putNum hB4 [pn, j.ver] .full (by simp) (by rw [List.length_append, List.length_append]; have := M.deps; omega) (by
    have := ho.ver
    simp only [List.mem_cons, List.not_mem_nil, or_false]
    rintro n (rfl | rfl)
    · rw [← hpn]; split <;> omega
    · exact this)
  simp only [u64s, List.map_cons, List.map_nil] at hp4
  simp -implicitDefEqProofs [hB4.cell k1]
  by_cases hpau : j.pau = true
  · rw [hpau] at hpn
    simp only [if_true] at hpn
    subst hpn
    simp -implicitDefEqProofs [hpau, hB4.cell k1]
    refine ACall.intro hp4 ?_
    rintro v K8 ⟨rfl, hB5⟩
    obtain ⟨t5, G5, G6, hc5, hg5, hl5, hl50, hc50⟩ := hB5.grows
    obtain ⟨q5, hq5⟩ : ∃ q, q1 ++ numsB [x1, x2, x3, x4, x5, j.deps.length] ++ numsB j.deps ++ numsB [1, j.ver] = q := ⟨_, rfl⟩
    rw [hq5] at hg5 hc5 hB5
    have hq5l : q5.length ≤ 100000 := by
      have a3 := numsB_len [1, j.ver]
      have := M.deps
      rw [← hq5]
      simp only [List.length_append, List.length_cons, List.length_nil] at *
      omega
    have hpi := putB_len (zig j.seen)
    simp -implicitDefEqProofs [hB5.cell k1]
    refine go_draw3 [0, 1, 2, 3] K8 f_mixed (by decide +kernel) (HC.refl _) ?_
    simp -implicitDefEqProofs
    refine aq3_op ?_
    simp -implicitDefEqProofs [hc5]
    refine aq3_op ?_
    simp -implicitDefEqProofs [hB5.cell k1]
    refine aq3_op ?_
    simp -implicitDefEqProofs [hB5.cell k1]
    refine aq3_op ?_
    simp -implicitDefEqProofs
    refine ⟨_, fun H' _ => c_putInt j.seen (by have := M.seen; omega) (by have := M.seen; omega), ?_⟩
    simp -implicitDefEqProofs
    refine AWK.one 4 (by decide +kernel) ?_
    refine AWE.op rfl ?_
    simp -implicitDefEqProofs
    refine AWS.grows0 el_28 hg5 hl5 (szs_u8s _) (szs_u8s _) (by simp; omega) (by simp [maxLen]; omega) fun t' K' Hn hg' hl' _ => ?_
    refine AWK.one 5 (by decide +kernel) ?_
    refine AWE.op rfl ?_
    simp -implicitDefEqProofs
    refine AWK.one 6 (by decide +kernel) ?_
    refine AWE.op rfl ?_
    simp -implicitDefEqProofs
    refine AWK.fin (by decide +kernel) ?_
    simp -implicitDefEqProofs
    rw [← hx1, ← hx2, ← hx3, ← hx4, ← hx5, ← hq1] at hq5
    have hfin : q5 ++ putB (zig j.seen) = putJ j := by
      rw [← hq5]
      simp only [putJ, hpau, if_true, if_false, Bool.false_eq_true, List.append_assoc]
    refine ⟨?_, ((kW.trans hl50).trans (hg'.le.trans hl')).wk⟩
    rw [← hfin, u8s_app]
    exact wkL_refl _
  · have hpau : j.pau = false := by simpa using hpau
    rw [hpau] at hpn
    simp only [Bool.false_eq_true, if_false] at hpn
    subst hpn
    simp -implicitDefEqProofs [hpau, hB4.cell k1]
    refine ACall.intro hp4 ?_
    rintro v K8 ⟨rfl, hB5⟩
    obtain ⟨t5, G5, G6, hc5, hg5, hl5, hl50, hc50⟩ := hB5.grows
    obtain ⟨q5, hq5⟩ : ∃ q, q1 ++ numsB [x1, x2, x3, x4, x5, j.deps.length] ++ numsB j.deps ++ numsB [0, j.ver] = q := ⟨_, rfl⟩
    rw [hq5] at hg5 hc5 hB5
    have hq5l : q5.length ≤ 100000 := by
      have a3 := numsB_len [0, j.ver]
      have := M.deps
      rw [← hq5]
      simp only [List.length_append, List.length_cons, List.length_nil] at *
      omega
    have hpi := putB_len (zig j.seen)
    simp -implicitDefEqProofs [hB5.cell k1]
    refine go_draw3 [0, 1, 2, 3] K8 f_mixed (by decide +kernel) (HC.refl _) ?_
    simp -implicitDefEqProofs
    refine aq3_op ?_
    simp -implicitDefEqProofs [hc5]
    refine aq3_op ?_
    simp -implicitDefEqProofs [hB5.cell k1]
    refine aq3_op ?_
    simp -implicitDefEqProofs [hB5.cell k1]
    refine aq3_op ?_
    simp -implicitDefEqProofs
    refine ⟨_, fun H' _ => c_putInt j.seen (by have := M.seen; omega) (by have := M.seen; omega), ?_⟩
    simp -implicitDefEqProofs
    refine AWK.one 4 (by decide +kernel) ?_
    refine AWE.op rfl ?_
    simp -implicitDefEqProofs
    refine AWS.grows0 el_28 hg5 hl5 (szs_u8s _) (szs_u8s _) (by simp; omega) (by simp [maxLen]; omega) fun t' K' Hn hg' hl' _ => ?_
    refine AWK.one 5 (by decide +kernel) ?_
    refine AWE.op rfl ?_
    simp -implicitDefEqProofs
    refine AWK.one 6 (by decide +kernel) ?_
    refine AWE.op rfl ?_
    simp -implicitDefEqProofs
    refine AWK.fin (by decide +kernel) ?_
    simp -implicitDefEqProofs
    rw [← hx1, ← hx2, ← hx3, ← hx4, ← hx5, ← hq1] at hq5
    have hfin : q5 ++ putB (zig j.seen) = putJ j := by
      rw [← hq5]
      simp only [putJ, hpau, if_true, if_false, Bool.false_eq_true, List.append_assoc]
    refine ⟨?_, ((kW.trans hl50).trans (hg'.le.trans hl')).wk⟩
    rw [← hfin, u8s_app]
    exact wkL_refl _
end Go.Proofs.YtghlkjkdejebnaaGreatDoor
namespace Go.Proofs.YtghlkjkdejebnaaGreatDoor
open Rg Go
variable {H : Heap}
structure RowAt (e T : TypeId) (H0 : Heap) (c n : Nat) (F : Rg.Tok → List AV) (K : Heap) : Prop where
  le : HLe H0 K
  no : H0 c = none
  row : ∃ t, K c = some (.cells (F t) T) ∧ ((t = .nil ∧ n = 0) ∨ ∃ g cap, g ≠ c ∧ H0 g = none ∧ t = .own g cap 1 e ∧ K g = some (.open n cap 1 e))
theorem RowAt.set {e T T' : TypeId} {H0 K : Heap} {c n p : Nat} {F : Rg.Tok → List AV} {cs ds : List AV} (h : RowAt e T H0 c n F K) (h0 : H0 p = none) (hp : K p = some (.cells cs T')) (hc : p ≠ c) : RowAt e T H0 c n F (K.set p (.cells ds T')) := by
  refine ⟨HLe.set_new h.le h0, h.no, ?_⟩
  obtain ⟨t, h1, h2⟩ := h.row
  refine ⟨t, by simp [Heap.set, Ne.symm hc, h1], h2.imp id ?_⟩
  rintro ⟨g, cap, g1, g2, g3, g4⟩
  have : g ≠ p := by rintro rfl; rw [hp] at g4; cases g4
  exact ⟨g, cap, g1, g2, g3, by simp [Heap.set, this, g4]⟩
theorem RowAt.put {e T : TypeId} {H0 K : Heap} {c n : Nat} {F F' : Rg.Tok → List AV} (h : RowAt e T H0 c n F K) {t : Rg.Tok} (ht : K c = some (.cells (F t) T)) (hF : ∀ t', F t' = F t → t' = t) : RowAt e T H0 c n F' (K.set c (.cells (F' t) T)) := by
  refine ⟨HLe.set_new h.le h.no, h.no, ?_⟩
  obtain ⟨t', h1, h2⟩ := h.row
  rw [ht] at h1
  simp only [Option.some.injEq, AObj.cells.injEq] at h1
  obtain rfl := hF t' h1.1.symm
  refine ⟨t', by simp [Heap.set], h2.imp id ?_⟩
  rintro ⟨g, cap, g1, g2, g3, g4⟩
  exact ⟨g, cap, g1, g2, g3, by simp [Heap.set, g1, g4]⟩
theorem RowAt.grows {e T : TypeId} {H0 K : Heap} {c : Nat} {F : Rg.Tok → List AV} {xs : List AV} (h : RowAt e T H0 c xs.length F K) :
    ∃ t G0 G, K c = some (.cells (F t) T) ∧ Grows G0 xs 1 e t G ∧ HLe G K ∧ HLe H0 G0 ∧ G0 c = some (.cells (F t) T) ∧ ∀ p cs T', K p = some (.cells cs T') → G0 p = some (.cells cs T') := by
  obtain ⟨t, h1, ⟨rfl, hn⟩ | ⟨g, cap, h2, h3, rfl, h4⟩⟩ := h.row
  · obtain rfl := List.length_eq_zero_iff.1 hn
    exact ⟨_, K, K, h1, .zero, HLe.refl _, h.le, h1, fun _ _ _ h => h⟩
  · refine ⟨_, K.del g, (K.del g).set g (.open xs.length cap 1 e), h1, .inr ⟨g, cap, by simp [Heap.del], rfl, rfl⟩, fun b ob hb => ?_, HLe.del_new h.le h3, by simp [Heap.del, Ne.symm h2, h1], fun p cs T' hp => ?_⟩
    · by_cases hbg : b = g
      · subst hbg
        simp only [Heap.set, if_true] at hb
        rw [← hb]; exact h4
      · simpa [Heap.set, Heap.del, hbg] using hb
    · have : p ≠ g := by rintro rfl; rw [h4] at hp; cases hp
      simp [Heap.del, this, hp]
theorem RowAt.stored {e T : TypeId} {H0 G0 K' Hn : Heap} {c : Nat} {xs : List AV} {F : Rg.Tok → List AV} {t' : Rg.Tok} {o : AObj} (h1 : HLe H0 G0) (h2 : H0 c = none) (h3 : G0 c = some o) (h4 : Grows G0 xs 1 e t' K') (h5 : HLe K' Hn) :
    RowAt e T H0 c xs.length F (Hn.set c (.cells (F t') T)) := by
  have hle := (h1.trans h4.le).trans h5
  refine ⟨HLe.set_new hle h2, h2, t', by simp [Heap.set], ?_⟩
  rcases h4 with ⟨rfl, rfl, rfl⟩ | ⟨g, cap, g1, rfl, rfl⟩
  · exact .inl ⟨rfl, rfl⟩
  · have hgc : g ≠ c := by rintro rfl; rw [h3] at g1; cases g1
    exact .inr ⟨g, cap, hgc, h1.none g1, rfl, by simp [Heap.set, hgc]; exact h5 g _ (by simp [Heap.set])⟩
def numS (b : List UInt8) (most : Nat) (s : Nat × Bool) : Nat × Nat × Bool :=
  if s.2 = true ∨ (takeK b s.1).2.2 ≠ 0 ∨ most < (takeK b s.1).1 then (0, s.1, true) else ((takeK b s.1).1, (takeK b s.1).2.1, false)
def txtS (b : List UInt8) (s : Nat × Bool) : List UInt8 × Nat × Bool :=
  if s.2 = true ∨ (takeTextK b s.1).2.2 ≠ 0 then ([], s.1, true) else ((takeTextK b s.1).1, (takeTextK b s.1).2.1, false)
theorem numS_le (b : List UInt8) (most : Nat) (s : Nat × Bool) (h : s.1 ≤ b.length) : (numS b most s).2.1 ≤ b.length ∧ (numS b most s).1 ≤ most := by
  unfold numS
  split
  · exact ⟨h, Nat.zero_le _⟩
  · rename_i hc
    simp only [not_or] at hc
    exact ⟨takeK_le b s.1 h, by have := hc.2.2; simp only; omega⟩
theorem txtS_le (b : List UInt8) (s : Nat × Bool) (h : s.1 ≤ b.length) : (txtS b s).2.1 ≤ b.length := by
  unfold txtS
  split
  · exact h
  · exact takeTextK_le b s.1 h
structure Three (b : List UInt8) (t : Rg.Tok) (pb pa pd : Nat) (s : Nat × Bool) (K : Heap) : Prop where
  b : K pb = some (.cells [.sl (u8s b) t] 28)
  a : K pa = some (.cells [.sc (.int .i64 (s.1 : Int))] 3)
  d : K pd = some (.cells [.sc (.bool s.2)] 4)
abbrev upd3 (pa pd : Nat) (s : Nat × Bool) (K : Heap) : Heap := (K.set pd (.cells [.sc (.bool s.2)] 4)).set pa (.cells [.sc (.int .i64 (s.1 : Int))] 3)
theorem Three.ne {b : List UInt8} {t : Rg.Tok} {pb pa pd : Nat} {s : Nat × Bool} {K : Heap} (h : Three b t pb pa pd s K) : pb ≠ pa ∧ pb ≠ pd ∧ pa ≠ pd := by
  refine ⟨?_, ?_, ?_⟩
  · rintro rfl; have := h.b.symm.trans h.a; simp at this
  · rintro rfl; have := h.b.symm.trans h.d; simp at this
  · rintro rfl; have := h.a.symm.trans h.d; simp at this
theorem Three.upd {b : List UInt8} {t : Rg.Tok} {pb pa pd : Nat} {s s' : Nat × Bool} {K : Heap} (h : Three b t pb pa pd s K) : Three b t pb pa pd s' (upd3 pa pd s' K) := by
  obtain ⟨h1, h2, h3⟩ := h.ne
  exact ⟨by simp [Heap.set, h1, h2, h.b], by simp [Heap.set], by simp [Heap.set, Ne.symm h3]⟩
theorem Three.of {b : List UInt8} {t : Rg.Tok} {pb pa pd c : Nat} {s : Nat × Bool} {K : Heap} {o : AObj} (h : Three b t pb pa pd s K) (h1 : pb ≠ c) (h2 : pa ≠ c) (h3 : pd ≠ c) : Three b t pb pa pd s (K.set c o) :=
  ⟨by simp [Heap.set, h1, h.b], by simp [Heap.set, h2, h.a], by simp [Heap.set, h3, h.d]⟩
theorem HLe.same {K : Heap} {p : Nat} {o : AObj} (h : K p = some o) : HLe (K.set p o) K := fun q ob hq => by
  by_cases hqp : q = p
  · subst hqp
    simp [Heap.set] at hq
    rw [h, hq]
  · simpa [Heap.set, hqp] using hq
set_option maxHeartbeats 1000000 in
theorem c_parseNum {b : List UInt8} {t : Rg.Tok} {pb pa pd : Nat} {s : Nat × Bool} {K : Heap} (h : Three b t pb pa pd s K) (hs : s.1 ≤ b.length) (hb : b.length ≤ 1000000) (most : Nat) (hm : most < 18446744073709551616) :
    AOk Tryz.prog 103 [.sc (.int .u64 (most : Int)), .sc (.pointer (some ⟨pb, 0, none⟩)), .sc (.pointer (some ⟨pa, 0, none⟩)), .sc (.pointer (some ⟨pd, 0, none⟩))] K (.sc (.int .u64 ((numS b most s).1 : Int))) (upd3 pa pd (numS b most s).2 K) := by
  obtain ⟨n1, n2, n3⟩ := h.ne
  obtain ⟨a, bad⟩ := s
  have hh1 := h.b
  have hh2 := h.a
  have hh3 := h.d
  simp only at hs hh1 hh2 hh3
  obtain ⟨n, nx, e, hp⟩ : ∃ n nx e, takeK b a = (n, nx, e) := ⟨_, _, _, rfl⟩
  have hlt := takeK_lt b a
  have htk := c_packTake (H := K) b t a hs hb
  unfold numS
  simp only [hp] at hlt htk ⊢
  refine ACalls.into Tryz.func103 rfl Tryz.ntmps103 Tryz.results103 (by simp) ?_
  simp -implicitDefEqProofs [hh1, hh2, hh3]
  refine ACall.eq htk ?_
  cases bad with
  | true =>
    simp -implicitDefEqProofs [hh1, hh2, hh3]
    exact (HLe.same (by simp [Heap.set, n3, hh2])).wk
  | false =>
    by_cases he : e = 0
    · have he' : (e : Int) = 0 := by omega
      by_cases hmo : most < n
      · have hmo' : (most : Int) < (n : Int) := by omega
        simp -implicitDefEqProofs [hh1, hh2, hh3, he, he', hmo, hmo']
        exact (HLe.same (by simp [Heap.set, n3, hh2])).wk
      · have hmo' : ¬ (most : Int) < (n : Int) := by omega
        simp -implicitDefEqProofs [hh1, hh2, hh3, he, he', hmo, hmo', n3]
    · have he' : ¬ (e : Int) = 0 := by omega
      simp -implicitDefEqProofs [hh1, hh2, hh3, he, he']
      exact (HLe.same (by simp [Heap.set, n3, hh2])).wk
set_option maxHeartbeats 1000000 in
theorem c_parseText {b : List UInt8} {t : Rg.Tok} {pb pa pd : Nat} {s : Nat × Bool} {K : Heap} (h : Three b t pb pa pd s K) (hs : s.1 ≤ b.length) (hb : b.length ≤ 1000000) :
    AOk Tryz.prog 104 [.sc (.pointer (some ⟨pb, 0, none⟩)), .sc (.pointer (some ⟨pa, 0, none⟩)), .sc (.pointer (some ⟨pd, 0, none⟩))] K (str (txtS b s).1) (upd3 pa pd (txtS b s).2 K) := by
  obtain ⟨n1, n2, n3⟩ := h.ne
  obtain ⟨a, bad⟩ := s
  have hh1 := h.b
  have hh2 := h.a
  have hh3 := h.d
  simp only at hs hh1 hh2 hh3
  obtain ⟨x, nx, e, hp⟩ : ∃ x nx e, takeTextK b a = (x, nx, e) := ⟨_, _, _, rfl⟩
  have htk := c_takeText (H := K) b t a hs hb
  unfold txtS
  simp only [hp] at htk ⊢
  refine ACalls.into Tryz.func104 rfl Tryz.ntmps104 Tryz.results104 (by simp) ?_
  simp -implicitDefEqProofs [hh1, hh2, hh3]
  refine ACall.eq htk ?_
  cases bad with
  | true =>
    simp -implicitDefEqProofs [hh1, hh2, hh3]
    exact (HLe.same (by simp [Heap.set, n3, hh2])).wk
  | false =>
    by_cases he : e = 0
    · have he' : (e : Int) = 0 := by omega
      simp -implicitDefEqProofs [hh1, hh2, hh3, he, he', n3]
    · have he' : ¬ (e : Int) = 0 := by omega
      simp -implicitDefEqProofs [hh1, hh2, hh3, he, he']
      exact (HLe.same (by simp [Heap.set, n3, hh2])).wk
end Go.Proofs.YtghlkjkdejebnaaGreatDoor
