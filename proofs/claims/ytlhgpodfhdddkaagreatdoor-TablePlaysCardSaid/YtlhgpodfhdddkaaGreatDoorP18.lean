/- The document's parse of any expression. The document's dates and clocks. The document's clock of a moment. The document's expressions: which may be, which clocks fit. The last firing up to a moment, as the document looks for it. Jobs: which may be. Jobs that are the same. Rows of jobs that are the same, by definition. Graphs, plainly: where each of some has a next one among them, one comes back to itself. -/
import Derived.Test.YtlhgpodfhdddkaaGreatDoorP17
import Derived.Test.YtlhgpodfhdddkaaGreatDoorP14
set_option linter.unusedSimpArgs false
set_option linter.unusedVariables false
set_option linter.unnecessarySimpa false
namespace Go.Proofs.YtlhgpodfhdddkaaGreatDoor
open Rg Go
variable {H : Heap}
theorem cronK_name {n x : List UInt8} (hl : ¬ 400 < n.length) (hp : Lib.hasPrefix n [64] = true) (h : namedL n = x) : cronK n = cronB x := by
  unfold cronK
  rw [if_neg hl, if_pos hp, h]
theorem prefix64 (s : List UInt8) : (Lib.hasPrefix s [64] = false ∧ (¬ 0 < s.length ∨ ∃ h : 0 < s.length, ¬ s[0].toNat = 64)) ∨ (Lib.hasPrefix s [64] = true ∧ ∃ h : 0 < s.length, s[0].toNat = 64) := by
  cases s with
  | nil => exact .inl ⟨rfl, .inl (by simp)⟩
  | cons c r =>
    have e : Lib.hasPrefix (c :: r) [64] = (64 == c) := by unfold Lib.hasPrefix; simp [List.isPrefixOf]
    by_cases hc : c = 64
    · exact .inr ⟨by rw [e, hc]; rfl, by simp, by simp [hc]⟩
    · exact .inl ⟨by rw [e]; simpa using Ne.symm hc, .inr ⟨by simp, fun h => hc (UInt8.toNat_inj.1 (by simpa using h))⟩⟩
theorem namedL_none {s : List UInt8} (h : ∀ q, q < 7 → nmL.getD (2 * q) [] ≠ s) : namedL s = [] := by
  have h0 := h 0 (by omega)
  have h1 := h 1 (by omega)
  have h2 := h 2 (by omega)
  have h3 := h 3 (by omega)
  have h4 := h 4 (by omega)
  have h5 := h 5 (by omega)
  have h6 := h 6 (by omega)
  unfold namedL
  rw [if_neg (fun e => h0 e.symm), if_neg (fun e => h1 e.symm), if_neg (fun e => h2 e.symm), if_neg (fun e => h3 e.symm), if_neg (fun e => h4 e.symm), if_neg (fun e => h5 e.symm), if_neg (fun e => h6 e.symm)]
set_option maxHeartbeats 1000000 in
theorem c_ref7ParseW (s : List UInt8) (hs : s.length ≤ 9223372036854775807) : AOk Tryz.prog 54 [str s] H (.tup [exAV (cronK s).1, .sc (.int .i64 (cronK s).2)]) H := by
  rcases prefix64 s with ⟨hp, hnp⟩ | ⟨hp, h0, h64⟩
  · have h := c_ref7Plain (H := H) s hs hnp
    have e : cronK s = if 400 < s.length then (ex0, 3) else cronB s := by unfold cronK; rw [hp]; rfl
    rw [e]; exact h
  · by_cases hl : 400 < s.length
    · have hl' : (400 : Int) < s.length := by omega
      have e : cronK s = (ex0, 3) := by unfold cronK; rw [if_pos hl]
      rw [e]
      refine ACalls.into Tryz.func54 rfl Tryz.ntmps54 Tryz.results54 (by simp) ?_
      simp -implicitDefEqProofs [ex0, f0]
      refine AAlloc.intro fun b2 h2 => ?_
      simp -implicitDefEqProofs [hl, hl']
      exact HWk.new h2 (HWk.refl _)
    · have hl' : ¬ (400 : Int) < s.length := by omega
      have h0' : (0 : Int) < s.length := by omega
      have h64' : (s[0].toNat : Int) = 64 := by omega
      refine ACalls.into Tryz.func54 rfl Tryz.ntmps54 Tryz.results54 (by simp) ?_
      simp -implicitDefEqProofs
      refine AAlloc.intro fun b2 h2 => ?_
      simp -implicitDefEqProofs [hl, hl', h0, h0', h64, h64']
      generalize hK : Heap.set _ b2 _ = K0
      have k2 : K0 b2 = some (.cells (exC ex0) 83) := by rw [← hK]; simp [Heap.set, ex0, f0]
      have kW : HWk H K0 := by rw [← hK]; exact HWk.new h2 (HWk.refl _)
      clear hK h64 h64'
      refine ACall.eq c_refNames ?_
      simp -implicitDefEqProofs
      refine AGo.rounds (fun m ρ K => ∃ q : Nat, q ≤ 7 ∧ m = 7 - q ∧ ρ 0 = str s ∧ ρ 2 = .sc (.pointer (some ⟨b2, 0, none⟩)) ∧ ρ 4 = .sl (strL nmL) .no ∧ ρ 5 = .sc (.int .i64 (2 * q : Nat)) ∧ (∀ q', q' < q → nmL.getD (2 * q') [] ≠ s) ∧ K = K0) ?_ (m := 7) (HLe.refl _)
        ⟨0, by omega, rfl, by simp, by simp, by simp, by simp, fun q' hq => by omega, rfl⟩
      rintro m ρ K ih ⟨q, hq, rfl, r0, r2, r4, r5, hne, rfl⟩
      have hc : q = 0 ∨ q = 1 ∨ q = 2 ∨ q = 3 ∨ q = 4 ∨ q = 5 ∨ q = 6 ∨ q = 7 := by omega
      rcases hc with rfl | rfl | rfl | rfl | rfl | rfl | rfl | rfl
      · skip
        by_cases hs : nHourly = s
        · subst hs
          have e : cronK nHourly = cronB xHourly := cronK_name (by decide) (by decide) (by decide)
          have hpl := c_ref7Plain (H := K) xHourly (by decide) (.inr ⟨by decide, by decide⟩)
          rw [if_neg (by decide)] at hpl
          rw [e]
          simp -implicitDefEqProofs [r0, r2, r4, r5, nmL, wrap_i64]
          refine ACall.eq hpl ?_
          simp -implicitDefEqProofs [r2, k2]
          exact HWk.new h2 kW
        · have hb : (nHourly == s) = false := by simpa using hs
          simp -implicitDefEqProofs [r0, r2, r4, r5, nmL, hb, wrap_i64]
          exact AGo.again ih (m' := 6) (by omega) (HLe.refl _) ⟨1, by omega, rfl, by simp [r0], by simp [r2], by simp [r4, nmL], by simp, lt_succ_all (P := fun q : Nat => nmL.getD (2 * q) [] ≠ s) hne hs, rfl⟩
      · skip
        by_cases hs : nDaily = s
        · subst hs
          have e : cronK nDaily = cronB xDaily := cronK_name (by decide) (by decide) (by decide)
          have hpl := c_ref7Plain (H := K) xDaily (by decide) (.inr ⟨by decide, by decide⟩)
          rw [if_neg (by decide)] at hpl
          rw [e]
          simp -implicitDefEqProofs [r0, r2, r4, r5, nmL, wrap_i64]
          refine ACall.eq hpl ?_
          simp -implicitDefEqProofs [r2, k2]
          exact HWk.new h2 kW
        · have hb : (nDaily == s) = false := by simpa using hs
          simp -implicitDefEqProofs [r0, r2, r4, r5, nmL, hb, wrap_i64]
          exact AGo.again ih (m' := 5) (by omega) (HLe.refl _) ⟨2, by omega, rfl, by simp [r0], by simp [r2], by simp [r4, nmL], by simp, lt_succ_all (P := fun q : Nat => nmL.getD (2 * q) [] ≠ s) hne hs, rfl⟩
      · skip
        by_cases hs : nMidnight = s
        · subst hs
          have e : cronK nMidnight = cronB xDaily := cronK_name (by decide) (by decide) (by decide)
          have hpl := c_ref7Plain (H := K) xDaily (by decide) (.inr ⟨by decide, by decide⟩)
          rw [if_neg (by decide)] at hpl
          rw [e]
          simp -implicitDefEqProofs [r0, r2, r4, r5, nmL, wrap_i64]
          refine ACall.eq hpl ?_
          simp -implicitDefEqProofs [r2, k2]
          exact HWk.new h2 kW
        · have hb : (nMidnight == s) = false := by simpa using hs
          simp -implicitDefEqProofs [r0, r2, r4, r5, nmL, hb, wrap_i64]
          exact AGo.again ih (m' := 4) (by omega) (HLe.refl _) ⟨3, by omega, rfl, by simp [r0], by simp [r2], by simp [r4, nmL], by simp, lt_succ_all (P := fun q : Nat => nmL.getD (2 * q) [] ≠ s) hne hs, rfl⟩
      · skip
        by_cases hs : nWeekly = s
        · subst hs
          have e : cronK nWeekly = cronB xWeekly := cronK_name (by decide) (by decide) (by decide)
          have hpl := c_ref7Plain (H := K) xWeekly (by decide) (.inr ⟨by decide, by decide⟩)
          rw [if_neg (by decide)] at hpl
          rw [e]
          simp -implicitDefEqProofs [r0, r2, r4, r5, nmL, wrap_i64]
          refine ACall.eq hpl ?_
          simp -implicitDefEqProofs [r2, k2]
          exact HWk.new h2 kW
        · have hb : (nWeekly == s) = false := by simpa using hs
          simp -implicitDefEqProofs [r0, r2, r4, r5, nmL, hb, wrap_i64]
          exact AGo.again ih (m' := 3) (by omega) (HLe.refl _) ⟨4, by omega, rfl, by simp [r0], by simp [r2], by simp [r4, nmL], by simp, lt_succ_all (P := fun q : Nat => nmL.getD (2 * q) [] ≠ s) hne hs, rfl⟩
      · skip
        by_cases hs : nMonthly = s
        · subst hs
          have e : cronK nMonthly = cronB xMonthly := cronK_name (by decide) (by decide) (by decide)
          have hpl := c_ref7Plain (H := K) xMonthly (by decide) (.inr ⟨by decide, by decide⟩)
          rw [if_neg (by decide)] at hpl
          rw [e]
          simp -implicitDefEqProofs [r0, r2, r4, r5, nmL, wrap_i64]
          refine ACall.eq hpl ?_
          simp -implicitDefEqProofs [r2, k2]
          exact HWk.new h2 kW
        · have hb : (nMonthly == s) = false := by simpa using hs
          simp -implicitDefEqProofs [r0, r2, r4, r5, nmL, hb, wrap_i64]
          exact AGo.again ih (m' := 2) (by omega) (HLe.refl _) ⟨5, by omega, rfl, by simp [r0], by simp [r2], by simp [r4, nmL], by simp, lt_succ_all (P := fun q : Nat => nmL.getD (2 * q) [] ≠ s) hne hs, rfl⟩
      · skip
        by_cases hs : nYearly = s
        · subst hs
          have e : cronK nYearly = cronB xYearly := cronK_name (by decide) (by decide) (by decide)
          have hpl := c_ref7Plain (H := K) xYearly (by decide) (.inr ⟨by decide, by decide⟩)
          rw [if_neg (by decide)] at hpl
          rw [e]
          simp -implicitDefEqProofs [r0, r2, r4, r5, nmL, wrap_i64]
          refine ACall.eq hpl ?_
          simp -implicitDefEqProofs [r2, k2]
          exact HWk.new h2 kW
        · have hb : (nYearly == s) = false := by simpa using hs
          simp -implicitDefEqProofs [r0, r2, r4, r5, nmL, hb, wrap_i64]
          exact AGo.again ih (m' := 1) (by omega) (HLe.refl _) ⟨6, by omega, rfl, by simp [r0], by simp [r2], by simp [r4, nmL], by simp, lt_succ_all (P := fun q : Nat => nmL.getD (2 * q) [] ≠ s) hne hs, rfl⟩
      · skip
        by_cases hs : nAnnually = s
        · subst hs
          have e : cronK nAnnually = cronB xYearly := cronK_name (by decide) (by decide) (by decide)
          have hpl := c_ref7Plain (H := K) xYearly (by decide) (.inr ⟨by decide, by decide⟩)
          rw [if_neg (by decide)] at hpl
          rw [e]
          simp -implicitDefEqProofs [r0, r2, r4, r5, nmL, wrap_i64]
          refine ACall.eq hpl ?_
          simp -implicitDefEqProofs [r2, k2]
          exact HWk.new h2 kW
        · have hb : (nAnnually == s) = false := by simpa using hs
          simp -implicitDefEqProofs [r0, r2, r4, r5, nmL, hb, wrap_i64]
          exact AGo.again ih (m' := 0) (by omega) (HLe.refl _) ⟨7, by omega, rfl, by simp [r0], by simp [r2], by simp [r4, nmL], by simp, lt_succ_all (P := fun q : Nat => nmL.getD (2 * q) [] ≠ s) hne hs, rfl⟩
      · have e : cronK s = (ex0, 70) := by
          unfold cronK
          rw [if_neg hl, if_pos hp, namedL_none hne]
          rfl
        rw [e]
        simp -implicitDefEqProofs [r4, r5, r2, nmL, k2, ex0, f0]
        exact HWk.new h2 kW
end Go.Proofs.YtlhgpodfhdddkaaGreatDoor
namespace Go.Proofs.YtlhgpodfhdddkaaGreatDoor
open Rg Go
variable {H : Heap}
end Go.Proofs.YtlhgpodfhdddkaaGreatDoor
namespace Go.Proofs.YtlhgpodfhdddkaaGreatDoor
open Rg Go
variable {H : Heap}
end Go.Proofs.YtlhgpodfhdddkaaGreatDoor
namespace Go.Proofs.YtlhgpodfhdddkaaGreatDoor
open Rg Go
variable {H : Heap}
end Go.Proofs.YtlhgpodfhdddkaaGreatDoor
namespace Go.Proofs.YtlhgpodfhdddkaaGreatDoor
open Rg Go
variable {H : Heap}
end Go.Proofs.YtlhgpodfhdddkaaGreatDoor
namespace Go.Proofs.YtlhgpodfhdddkaaGreatDoor
open Rg Go
variable {H : Heap}
structure Jb where
  id : Nat
  name : List UInt8
  ex : List UInt8
  pol : Int
  gr : Int
  lim : Int
  ret : Int
  tim : Int
  deps : List Nat
  pau : Bool
  ver : Nat
  seen : Int
abbrev jbC (j : Jb) (t : Tok) : List AV := [.sc (.int .u64 (j.id : Nat)), str j.name, str j.ex, .sc (.int .i64 j.pol), .sc (.int .i64 j.gr), .sc (.int .i64 j.lim), .sc (.int .i64 j.ret), .sc (.int .i64 j.tim), .sl (j.deps.map fun n : Nat => .sc (.int .u64 n)) t, .sc (.bool j.pau), .sc (.int .u64 (j.ver : Nat)), .sc (.int .i64 j.seen)]
abbrev jbAV (j : Jb) (t : Tok) : AV := .agg (jbC j t)
def badJ (j : Jb) : Bool := decide (j.pol < 1) || decide (3 < j.pol) || decide (j.gr < 0) || decide (604800 < j.gr) || decide (j.lim < 1) || decide (8 < j.lim) || decide (j.ret < 0) || decide (5 < j.ret) || decide (j.tim < 1) || decide (86400 < j.tim) || decide (j.seen < -1) || decide (13569465600 ≤ j.seen)
def mayJ (j : Jb) : Int :=
  if j.name.length < 1 then 140 else if 32 < j.name.length then 140 else if (cronK j.ex).2 ≠ 0 then (cronK j.ex).2 else if 8 < j.deps.length then 3 else if badJ j = true then 2 else 0
set_option maxHeartbeats 4000000 in
theorem c_jobMay (hG : Glob H) (j : Jb) (t : Tok) (hs : j.ex.length ≤ 9223372036854775807) : AOk Tryz.prog 29 [jbAV j t] H (.sc (.int .i64 (mayJ j))) H := by
  unfold mayJ
  refine ACalls.into Tryz.func29 rfl Tryz.ntmps29 Tryz.results29 (by simp) ?_
  simp -implicitDefEqProofs
  refine AAlloc.intro fun b1 h1 => ?_
  simp -implicitDefEqProofs
  generalize hK : Heap.set _ b1 _ = K1
  have k1 : K1 b1 = some (.cells (jbC j t) 33) := by rw [← hK]; simp [Heap.set]
  have kG : Glob K1 := by rw [← hK]; exact hG.new h1
  have kW : HWk H K1 := by rw [← hK]; exact HWk.new h1 (HWk.refl _)
  clear hK
  by_cases c0 : j.name = []
  · simp -implicitDefEqProofs [c0]
    exact kW
  · have c1 : ¬ j.name.length < 1 := by
      have := List.length_pos_iff.2 c0
      omega
    have c1' : ¬ (j.name.length : Int) < 1 := by omega
    by_cases c2 : 32 < j.name.length
    · have c2' : (32 : Int) < (j.name.length : Int) := by omega
      simp -implicitDefEqProofs [k1, c0, c1', c2, c2']
      exact kW
    · have c2' : ¬ (32 : Int) < (j.name.length : Int) := by omega
      simp -implicitDefEqProofs [k1, c0, c1', c2, c2']
      have hp := c_cronParse kG j.ex hs
      generalize cronK j.ex = p at *
      obtain ⟨x, e⟩ := p
      simp only at hp ⊢
      refine ACall.eq hp ?_
      simp -implicitDefEqProofs
      refine AAlloc.intro fun b3 h3 => ?_
      have n13 : b1 ≠ b3 := by intro e; subst e; rw [k1] at h3; cases h3
      have kW3 : ∀ o, HWk H (K1.set b3 o) := fun o => HWk.new (kW.none h3) kW
      by_cases he : e = 0
      · subst he
        simp -implicitDefEqProofs [n13, k1]
        generalize hK : Heap.set K1 b3 _ = K3
        have k3 : K3 b1 = some (.cells (jbC j t) 33) := by rw [← hK]; simp [Heap.set, n13, k1]
        have kW3 : HWk H K3 := by rw [← hK]; exact kW3 _
        clear hK
        by_cases c3 : 8 < j.deps.length
        · have c3' : (8 : Int) < (j.deps.length : Int) := by omega
          simp -implicitDefEqProofs [c3, c3']
          exact kW3
        · have c3' : ¬ (8 : Int) < (j.deps.length : Int) := by omega
          by_cases q0 : j.pol < 1
          · simp -implicitDefEqProofs [k3, c3, c3', q0, badJ]
            exact kW3
          · by_cases q1 : 3 < j.pol
            · simp -implicitDefEqProofs [k3, c3, c3', q0, q1, badJ]
              exact kW3
            · by_cases q2 : j.gr < 0
              · simp -implicitDefEqProofs [k3, c3, c3', q0, q1, q2, badJ]
                exact kW3
              · by_cases q3 : 604800 < j.gr
                · simp -implicitDefEqProofs [k3, c3, c3', q0, q1, q2, q3, badJ]
                  exact kW3
                · by_cases q4 : j.lim < 1
                  · simp -implicitDefEqProofs [k3, c3, c3', q0, q1, q2, q3, q4, badJ]
                    exact kW3
                  · by_cases q5 : 8 < j.lim
                    · simp -implicitDefEqProofs [k3, c3, c3', q0, q1, q2, q3, q4, q5, badJ]
                      exact kW3
                    · by_cases q6 : j.ret < 0
                      · simp -implicitDefEqProofs [k3, c3, c3', q0, q1, q2, q3, q4, q5, q6, badJ]
                        exact kW3
                      · by_cases q7 : 5 < j.ret
                        · simp -implicitDefEqProofs [k3, c3, c3', q0, q1, q2, q3, q4, q5, q6, q7, badJ]
                          exact kW3
                        · by_cases q8 : j.tim < 1
                          · simp -implicitDefEqProofs [k3, c3, c3', q0, q1, q2, q3, q4, q5, q6, q7, q8, badJ]
                            exact kW3
                          · by_cases q9 : 86400 < j.tim
                            · simp -implicitDefEqProofs [k3, c3, c3', q0, q1, q2, q3, q4, q5, q6, q7, q8, q9, badJ]
                              exact kW3
                            · by_cases q10 : j.seen < -1
                              · simp -implicitDefEqProofs [k3, c3, c3', q0, q1, q2, q3, q4, q5, q6, q7, q8, q9, q10, badJ]
                                exact kW3
                              · by_cases q11 : 13569465600 ≤ j.seen
                                · simp -implicitDefEqProofs [k3, c3, c3', q0, q1, q2, q3, q4, q5, q6, q7, q8, q9, q10, q11, badJ]
                                  exact kW3
                                · simp -implicitDefEqProofs [k3, c3, c3', q0, q1, q2, q3, q4, q5, q6, q7, q8, q9, q10, q11, badJ]
                                  exact kW3
      · simp -implicitDefEqProofs [he]
        exact kW3 _
set_option maxHeartbeats 8000000 in
theorem c_ref14May (j : Jb) (t : Tok) (hs : j.ex.length ≤ 9223372036854775807) : AOk Tryz.prog 33 [jbAV j t] H (.sc (.int .i64 (mayJ j))) H := by
  unfold mayJ
  refine ACalls.into Tryz.func33 rfl Tryz.ntmps33 Tryz.results33 (by simp) ?_
  simp -implicitDefEqProofs
  refine AAlloc.intro fun b1 h1 => ?_
  simp -implicitDefEqProofs
  generalize hK : Heap.set _ b1 _ = K1
  have k1 : K1 b1 = some (.cells (jbC j t) 33) := by rw [← hK]; simp [Heap.set]
  have kW : HWk H K1 := by rw [← hK]; exact HWk.new h1 (HWk.refl _)
  clear hK
  by_cases c1 : j.name = []
  · simp -implicitDefEqProofs [c1]
    exact kW
  · have c1' : ¬ j.name.length < 1 := by
      have := List.length_pos_iff.2 c1
      omega
    have c1e : j.name.isEmpty = false := by simp [c1]
    by_cases c2 : 32 < j.name.length
    · have c2' : (32 : Int) < (j.name.length : Int) := by omega
      simp -implicitDefEqProofs [k1, c1, c1e, c2, c2']
      exact kW
    · have c2' : ¬ (32 : Int) < (j.name.length : Int) := by omega
      simp -implicitDefEqProofs [k1, c1, c1e, c2, c2']
      have hp := c_ref7ParseW (H := K1) j.ex hs
      generalize cronK j.ex = p at *
      obtain ⟨x, e⟩ := p
      simp only at hp ⊢
      refine ACall.eq hp ?_
      simp -implicitDefEqProofs
      refine AAlloc.intro fun b3 h3 => ?_
      have n13 : b1 ≠ b3 := by intro e; subst e; rw [k1] at h3; cases h3
      have kW3 : ∀ o, HWk H (K1.set b3 o) := fun o => HWk.new (kW.none h3) kW
      by_cases he : e = 0
      · subst he
        simp -implicitDefEqProofs [n13, k1]
        generalize hK : Heap.set K1 b3 _ = K3
        have k3 : K3 b1 = some (.cells (jbC j t) 33) := by rw [← hK]; simp [Heap.set, n13, k1]
        have kW3 : HWk H K3 := by rw [← hK]; exact kW3 _
        clear hK
        by_cases c3 : 8 < j.deps.length
        · have c3' : (8 : Int) < (j.deps.length : Int) := by omega
          simp -implicitDefEqProofs [c3, c3']
          exact kW3
        · have c3' : ¬ (8 : Int) < (j.deps.length : Int) := by omega
          by_cases p1 : j.pol = 1
          · by_cases q0 : j.gr < 0
            · simp -implicitDefEqProofs [k3, c3, c3', p1, q0, badJ]
              exact kW3
            · by_cases q1 : 604800 < j.gr
              · simp -implicitDefEqProofs [k3, c3, c3', p1, q0, q1, badJ]
                exact kW3
              · by_cases q2 : j.lim < 1
                · simp -implicitDefEqProofs [k3, c3, c3', p1, q0, q1, q2, badJ]
                  exact kW3
                · by_cases q3 : 8 < j.lim
                  · simp -implicitDefEqProofs [k3, c3, c3', p1, q0, q1, q2, q3, badJ]
                    exact kW3
                  · by_cases q4 : j.ret < 0
                    · simp -implicitDefEqProofs [k3, c3, c3', p1, q0, q1, q2, q3, q4, badJ]
                      exact kW3
                    · by_cases q5 : 5 < j.ret
                      · simp -implicitDefEqProofs [k3, c3, c3', p1, q0, q1, q2, q3, q4, q5, badJ]
                        exact kW3
                      · by_cases q6 : j.tim < 1
                        · simp -implicitDefEqProofs [k3, c3, c3', p1, q0, q1, q2, q3, q4, q5, q6, badJ]
                          exact kW3
                        · by_cases q7 : 86400 < j.tim
                          · simp -implicitDefEqProofs [k3, c3, c3', p1, q0, q1, q2, q3, q4, q5, q6, q7, badJ]
                            exact kW3
                          · by_cases q8 : j.seen < -1
                            · simp -implicitDefEqProofs [k3, c3, c3', p1, q0, q1, q2, q3, q4, q5, q6, q7, q8, badJ]
                              exact kW3
                            · by_cases q9 : 13569465600 ≤ j.seen
                              · have r : 13569465599 < j.seen := by omega
                                simp -implicitDefEqProofs [k3, c3, c3', p1, q0, q1, q2, q3, q4, q5, q6, q7, q8, q9, r, badJ]
                                exact kW3
                              · have r : ¬ 13569465599 < j.seen := by omega
                                simp -implicitDefEqProofs [k3, c3, c3', p1, q0, q1, q2, q3, q4, q5, q6, q7, q8, q9, r, badJ]
                                exact kW3
          · by_cases p2 : j.pol = 2
            · by_cases q0 : j.gr < 0
              · simp -implicitDefEqProofs [k3, c3, c3', p2, q0, badJ]
                exact kW3
              · by_cases q1 : 604800 < j.gr
                · simp -implicitDefEqProofs [k3, c3, c3', p2, q0, q1, badJ]
                  exact kW3
                · by_cases q2 : j.lim < 1
                  · simp -implicitDefEqProofs [k3, c3, c3', p2, q0, q1, q2, badJ]
                    exact kW3
                  · by_cases q3 : 8 < j.lim
                    · simp -implicitDefEqProofs [k3, c3, c3', p2, q0, q1, q2, q3, badJ]
                      exact kW3
                    · by_cases q4 : j.ret < 0
                      · simp -implicitDefEqProofs [k3, c3, c3', p2, q0, q1, q2, q3, q4, badJ]
                        exact kW3
                      · by_cases q5 : 5 < j.ret
                        · simp -implicitDefEqProofs [k3, c3, c3', p2, q0, q1, q2, q3, q4, q5, badJ]
                          exact kW3
                        · by_cases q6 : j.tim < 1
                          · simp -implicitDefEqProofs [k3, c3, c3', p2, q0, q1, q2, q3, q4, q5, q6, badJ]
                            exact kW3
                          · by_cases q7 : 86400 < j.tim
                            · simp -implicitDefEqProofs [k3, c3, c3', p2, q0, q1, q2, q3, q4, q5, q6, q7, badJ]
                              exact kW3
                            · by_cases q8 : j.seen < -1
                              · simp -implicitDefEqProofs [k3, c3, c3', p2, q0, q1, q2, q3, q4, q5, q6, q7, q8, badJ]
                                exact kW3
                              · by_cases q9 : 13569465600 ≤ j.seen
                                · have r : 13569465599 < j.seen := by omega
                                  simp -implicitDefEqProofs [k3, c3, c3', p2, q0, q1, q2, q3, q4, q5, q6, q7, q8, q9, r, badJ]
                                  exact kW3
                                · have r : ¬ 13569465599 < j.seen := by omega
                                  simp -implicitDefEqProofs [k3, c3, c3', p2, q0, q1, q2, q3, q4, q5, q6, q7, q8, q9, r, badJ]
                                  exact kW3
            · by_cases p3 : j.pol = 3
              · by_cases q0 : j.gr < 0
                · simp -implicitDefEqProofs [k3, c3, c3', p3, q0, badJ]
                  exact kW3
                · by_cases q1 : 604800 < j.gr
                  · simp -implicitDefEqProofs [k3, c3, c3', p3, q0, q1, badJ]
                    exact kW3
                  · by_cases q2 : j.lim < 1
                    · simp -implicitDefEqProofs [k3, c3, c3', p3, q0, q1, q2, badJ]
                      exact kW3
                    · by_cases q3 : 8 < j.lim
                      · simp -implicitDefEqProofs [k3, c3, c3', p3, q0, q1, q2, q3, badJ]
                        exact kW3
                      · by_cases q4 : j.ret < 0
                        · simp -implicitDefEqProofs [k3, c3, c3', p3, q0, q1, q2, q3, q4, badJ]
                          exact kW3
                        · by_cases q5 : 5 < j.ret
                          · simp -implicitDefEqProofs [k3, c3, c3', p3, q0, q1, q2, q3, q4, q5, badJ]
                            exact kW3
                          · by_cases q6 : j.tim < 1
                            · simp -implicitDefEqProofs [k3, c3, c3', p3, q0, q1, q2, q3, q4, q5, q6, badJ]
                              exact kW3
                            · by_cases q7 : 86400 < j.tim
                              · simp -implicitDefEqProofs [k3, c3, c3', p3, q0, q1, q2, q3, q4, q5, q6, q7, badJ]
                                exact kW3
                              · by_cases q8 : j.seen < -1
                                · simp -implicitDefEqProofs [k3, c3, c3', p3, q0, q1, q2, q3, q4, q5, q6, q7, q8, badJ]
                                  exact kW3
                                · by_cases q9 : 13569465600 ≤ j.seen
                                  · have r : 13569465599 < j.seen := by omega
                                    simp -implicitDefEqProofs [k3, c3, c3', p3, q0, q1, q2, q3, q4, q5, q6, q7, q8, q9, r, badJ]
                                    exact kW3
                                  · have r : ¬ 13569465599 < j.seen := by omega
                                    simp -implicitDefEqProofs [k3, c3, c3', p3, q0, q1, q2, q3, q4, q5, q6, q7, q8, q9, r, badJ]
                                    exact kW3
              · have hb : badJ j = true := by
                  by_cases g : j.pol < 1
                  · simp [badJ, g]
                  · have g2 : 3 < j.pol := by omega
                    simp [badJ, g2]
                simp -implicitDefEqProofs [k3, c3, c3', p1, p2, p3, hb]
                exact kW3
      · simp -implicitDefEqProofs [he]
        exact kW3 _
end Go.Proofs.YtlhgpodfhdddkaaGreatDoor
namespace Go.Proofs.YtlhgpodfhdddkaaGreatDoor
open Rg Go
variable {H : Heap}
def sameJ (a b : Jb) : Bool := decide (a.id = b.id) && (a.name == b.name) && (a.ex == b.ex) && decide (a.pol = b.pol) && decide (a.gr = b.gr) && decide (a.lim = b.lim) && decide (a.ret = b.ret) && decide (a.tim = b.tim) && decide (a.deps = b.deps) && (a.pau == b.pau) && decide (a.ver = b.ver) && decide (a.seen = b.seen)
theorem sameJ_iff {a b : Jb} : sameJ a b = true ↔ a = b := by
  simp only [sameJ, Bool.and_eq_true, decide_eq_true_eq, beq_iff_eq]
  constructor
  · rintro ⟨⟨⟨⟨⟨⟨⟨⟨⟨⟨⟨h1, h2⟩, h3⟩, h4⟩, h5⟩, h6⟩, h7⟩, h8⟩, h9⟩, h10⟩, h11⟩, h12⟩
    cases a; cases b; simp_all
  · rintro rfl
    simp
theorem ne_beq {a b : Bool} : (a == b) = decide (a = b) := by cases a <;> cases b <;> rfl
end Go.Proofs.YtlhgpodfhdddkaaGreatDoor
namespace Go.Proofs.YtlhgpodfhdddkaaGreatDoor
open Rg Go
variable {H : Heap}
abbrev jbsAV (l : List Jb) : List AV := l.map fun j => jbAV j .no
theorem szs_jbs (l : List Jb) : szs 12 (jbsAV l) = true := by simp [szs, AV.cells]
set_option maxHeartbeats 4000000 in
theorem c_ref14Same (a b : Jb) (t u : Rg.Tok) (hl : a.deps.length ≤ 1000000) : AOk Tryz.prog 42 [jbAV a t, jbAV b u] H (.sc (.bool (sameJ a b))) H := by
  refine ACalls.into Tryz.func42 rfl Tryz.ntmps42 Tryz.results42 (by simp) ?_
  simp -implicitDefEqProofs
  refine AAlloc.intro fun p hp => ?_
  simp -implicitDefEqProofs
  refine AAlloc.intro fun q hq => ?_
  have npq : p ≠ q := by rintro rfl; simp [Heap.set] at hq
  simp -implicitDefEqProofs [npq]
  generalize hK : Heap.set _ q _ = K
  have kp : K p = some (.cells (jbC a t) 33) := by rw [← hK]; simp [Heap.set, npq]
  have kq : K q = some (.cells (jbC b u) 33) := by rw [← hK]; simp [Heap.set]
  have kW : HWk H K := by rw [← hK]; exact (HLe.set_new (HLe.set_fresh hp) ((HLe.set_fresh hp).none hq)).wk
  clear hK
  have hno : a.deps ≠ b.deps → sameJ a b = false := fun h => by
    rcases hs : sameJ a b with _ | _
    · rfl
    · exact absurd (congrArg Jb.deps (sameJ_iff.1 hs)) h
  obtain ⟨res, hres⟩ : ∃ res, sameJ a b = res := ⟨_, rfl⟩
  rw [hres] at hno ⊢
  by_cases hlen : a.deps.length = b.deps.length
  · have hlen' : (a.deps.length : Int) = (b.deps.length : Int) := by omega
    simp -implicitDefEqProofs [kp, kq, hlen, hlen']
    refine AGo.joinLoop (fun ρ K2 => a.deps = b.deps ∧ ρ 2 = .sc (.pointer (some ⟨p, 0, none⟩)) ∧ ρ 3 = .sc (.pointer (some ⟨q, 0, none⟩)) ∧ K2 = K) (fun k' hk => ?_) ?_
    · refine AGo.rounds (fun m ρ K2 => ∃ i, m = a.deps.length - i ∧ i ≤ a.deps.length ∧ a.deps.take i = b.deps.take i ∧ ρ 5 = .sc (.int .i64 (i : Int)) ∧ ρ 2 = .sc (.pointer (some ⟨p, 0, none⟩)) ∧ ρ 3 = .sc (.pointer (some ⟨q, 0, none⟩)) ∧ K2 = K) ?_ (m := a.deps.length) (HLe.refl _)
        ⟨0, rfl, by omega, by simp, by simp, by simp, by simp, rfl⟩
      rintro m ρ K2 ih ⟨i, rfl, hi, htk, r5, r2, r3, rfl⟩
      by_cases hlt : i < a.deps.length
      · have hlt' : (i : Int) < (a.deps.length : Int) := by omega
        have hltb : i < b.deps.length := by omega
        have hltb' : (i : Int) < (b.deps.length : Int) := by omega
        obtain ⟨x, hxj, hx⟩ := getAt hlt
        obtain ⟨y, hyj, hy⟩ := getAt hltb
        have hw1 : IntKind.i64.wrap ((i : Int) + 1) = (i : Int) + 1 := wrap_i64 (by omega) (by omega)
        simp -implicitDefEqProofs [r5, r2, r3, kp, kq, hlt, hlt', hltb, hltb']
        refine go_draw 11 f_mixed (by decide +kernel) ?_
        simp -implicitDefEqProofs [r5, r2, r3, kp, kq, hlt, hlt', hltb, hltb', hxj, hyj]
        by_cases hxy : x = y
        · subst hxy
          simp -implicitDefEqProofs [r5, hw1]
          refine AGo.again ih (m' := a.deps.length - (i + 1)) (by omega) (HLe.refl _) ⟨i + 1, rfl, by omega, ?_, by simp, by simp [r2], by simp [r3], rfl⟩
          rw [List.take_add_one, List.take_add_one, htk, hx, hy]
        · have hxy' : ¬ (x : Int) = (y : Int) := by omega
          have hne : a.deps ≠ b.deps := fun e => by rw [e, hy] at hx; cases hx; exact hxy rfl
          have := hno hne
          subst this
          simp -implicitDefEqProofs [hxy, hxy']
          exact kW
      · have hn' : ¬ (i : Int) < (a.deps.length : Int) := by omega
        have hn2 : ¬ (i : Int) < (b.deps.length : Int) := by omega
        simp -implicitDefEqProofs [r5, r2, r3, kp, kq, hlt, hn', hn2]
        rw [List.take_of_length_le (by omega), List.take_of_length_le (by omega)] at htk
        exact hk _ _ ⟨htk, by simp [r2], by simp [r3], rfl⟩
    · rintro ρ K2 ⟨hd, r2, r3, rfl⟩
      have hd8 : decide (a.deps = b.deps) = true := decide_eq_true hd
      unfold sameJ at hres
      rw [hd8] at hres
      obtain ⟨c0, hc0⟩ : ∃ c, decide (a.id = b.id) = c := ⟨_, rfl⟩
      have hi0 : decide ((a.id : Int) = (b.id : Int)) = c0 := by rw [← hc0]; congr 1; exact propext ⟨fun h => by omega, fun h => by omega⟩
      obtain ⟨c1, hc1⟩ : ∃ c, (a.name == b.name) = c := ⟨_, rfl⟩
      obtain ⟨c2, hc2⟩ : ∃ c, (a.ex == b.ex) = c := ⟨_, rfl⟩
      obtain ⟨c3, hc3⟩ : ∃ c, decide (a.pol = b.pol) = c := ⟨_, rfl⟩
      obtain ⟨c4, hc4⟩ : ∃ c, decide (a.gr = b.gr) = c := ⟨_, rfl⟩
      obtain ⟨c5, hc5⟩ : ∃ c, decide (a.lim = b.lim) = c := ⟨_, rfl⟩
      obtain ⟨c6, hc6⟩ : ∃ c, decide (a.ret = b.ret) = c := ⟨_, rfl⟩
      obtain ⟨c7, hc7⟩ : ∃ c, decide (a.tim = b.tim) = c := ⟨_, rfl⟩
      obtain ⟨c9, hc9⟩ : ∃ c, (a.pau == b.pau) = c := ⟨_, rfl⟩
      obtain ⟨c10, hc10⟩ : ∃ c, decide (a.ver = b.ver) = c := ⟨_, rfl⟩
      have hi10 : decide ((a.ver : Int) = (b.ver : Int)) = c10 := by rw [← hc10]; congr 1; exact propext ⟨fun h => by omega, fun h => by omega⟩
      obtain ⟨c11, hc11⟩ : ∃ c, decide (a.seen = b.seen) = c := ⟨_, rfl⟩
      rw [hc0, hc1, hc2, hc3, hc4, hc5, hc6, hc7, hc9, hc10, hc11] at hres
      subst hres
      simp -implicitDefEqProofs [r2, r3, kp, kq, hc0, hi0]
      cases c0 with
      | false =>
        simp -implicitDefEqProofs [kW]
      | true =>
        simp -implicitDefEqProofs [r2, r3, kp, kq, hc1]
        cases c1 with
        | false =>
          simp -implicitDefEqProofs [kW]
        | true =>
          simp -implicitDefEqProofs [r2, r3, kp, kq, hc2]
          cases c2 with
          | false =>
            simp -implicitDefEqProofs [kW]
          | true =>
            simp -implicitDefEqProofs [r2, r3, kp, kq, hc3]
            cases c3 with
            | false =>
              simp -implicitDefEqProofs [kW]
            | true =>
              simp -implicitDefEqProofs [r2, r3, kp, kq, hc4]
              cases c4 with
              | false =>
                simp -implicitDefEqProofs [kW]
              | true =>
                simp -implicitDefEqProofs [r2, r3, kp, kq, hc5]
                cases c5 with
                | false =>
                  simp -implicitDefEqProofs [kW]
                | true =>
                  simp -implicitDefEqProofs [r2, r3, kp, kq, hc6]
                  cases c6 with
                  | false =>
                    simp -implicitDefEqProofs [kW]
                  | true =>
                    simp -implicitDefEqProofs [r2, r3, kp, kq, hc7]
                    cases c7 with
                    | false =>
                      simp -implicitDefEqProofs [kW]
                    | true =>
                      simp -implicitDefEqProofs [r2, r3, kp, kq, hc9, ← ne_beq]
                      cases c9 with
                      | false =>
                        simp -implicitDefEqProofs [kW]
                      | true =>
                        simp -implicitDefEqProofs [r2, r3, kp, kq, hc10, hi10]
                        cases c10 with
                        | false =>
                          simp -implicitDefEqProofs [kW]
                        | true =>
                          simp -implicitDefEqProofs [r2, r3, kp, kq, hc11]
                          cases c11 with
                          | false =>
                            simp -implicitDefEqProofs [kW]
                          | true =>
                            simp -implicitDefEqProofs [kW]
  · have hlen' : ¬ (a.deps.length : Int) = (b.deps.length : Int) := by omega
    have := hno fun e => hlen (by rw [e])
    subst this
    simp -implicitDefEqProofs [kp, kq, hlen, hlen', kW]
def sameJs : List Jb → List Jb → Bool
  | [], [] => true
  | a :: l, b :: m => sameJ a b && sameJs l m
  | _, _ => false
theorem sameJs_iff : ∀ {l m : List Jb}, sameJs l m = true ↔ l = m
  | [], [] => by simp [sameJs]
  | a :: l, b :: m => by simp [sameJs, sameJ_iff, sameJs_iff (l := l)]
  | [], b :: m => by simp [sameJs]
  | a :: l, [] => by simp [sameJs]
theorem c_ref15Jobs (L M : List Jb) (t u : Rg.Tok) (hl : L.length ≤ 1000000) (hd : ∀ j ∈ L, j.deps.length ≤ 1000000) : AOk Tryz.prog 23 [.sl (jbsAV L) t, .sl (jbsAV M) u] H (.sc (.bool (sameJs L M))) H := by
  have hz1 := szs_jbs L
  have hz2 := szs_jbs M
  obtain ⟨res, hres⟩ : ∃ r, sameJs L M = r := ⟨_, rfl⟩
  have hno : L ≠ M → res = false := fun h => by
    rw [← hres]
    cases h2 : sameJs L M with
    | false => rfl
    | true => exact absurd (sameJs_iff.1 h2) h
  have hyes : L = M → res = true := fun h => by rw [← hres]; exact sameJs_iff.2 h
  rw [hres]
  refine ACalls.into Tryz.func23 rfl Tryz.ntmps23 Tryz.results23 (by simp) ?_
  by_cases hlen : L.length = M.length
  · have hlen' : (L.length : Int) = (M.length : Int) := by omega
    simp -implicitDefEqProofs [hlen, hlen']
    refine AGo.rounds (fun m ρ K => ∃ i, m = L.length - i ∧ i ≤ L.length ∧ L.take i = M.take i ∧ ρ 5 = .sc (.int .i64 (i : Int)) ∧ ρ 0 = .sl (jbsAV L) t ∧ ρ 1 = .sl (jbsAV M) u ∧ K = H) ?_ (m := L.length) (HLe.refl _)
      ⟨0, rfl, by omega, by simp, by simp, by simp, by simp, rfl⟩
    rintro m ρ K ih ⟨i, rfl, hi, htk, r5, r0, r1, rfl⟩
    by_cases hlt : i < L.length
    · have hlt' : (i : Int) < (L.length : Int) := by omega
      have hltm : i < M.length := by omega
      have hltm' : (i : Int) < (M.length : Int) := by omega
      obtain ⟨x, hxj, hx⟩ := getAt hlt
      obtain ⟨y, hyj, hy⟩ := getAt hltm
      have hw1 : IntKind.i64.wrap ((i : Int) + 1) = (i : Int) + 1 := wrap_i64 (by omega) (by omega)
      have hc := c_ref14Same (H := K) x y .no .no (hd x (List.mem_of_getElem? hx))
      simp -implicitDefEqProofs [r5, r0, r1, hlt, hlt', hltm, hltm']
      refine go_draw 10 f_mixed (by decide +kernel) ?_
      simp -implicitDefEqProofs [r5, r0, r1, hlt, hlt', hltm, hltm', hxj, hyj, hz1, hz2]
      refine AQS.eq hc ?_
      cases hs : sameJ x y with
      | true =>
        obtain rfl := sameJ_iff.1 hs
        simp -implicitDefEqProofs [r5, hw1]
        refine AGo.again ih (m' := L.length - (i + 1)) (by omega) (HLe.refl _) ⟨i + 1, rfl, by omega, ?_, by simp, by simp [r0], by simp [r1], rfl⟩
        rw [List.take_add_one, List.take_add_one, htk, hx, hy]
      | false =>
        have hne : L ≠ M := fun e => by
          subst e
          rw [hx] at hy
          cases hy
          rw [sameJ_iff.2 rfl] at hs
          cases hs
        have := hno hne
        subst this
        simp -implicitDefEqProofs
    · have hn' : ¬ (i : Int) < (L.length : Int) := by omega
      have hn2 : ¬ (i : Int) < (M.length : Int) := by omega
      rw [List.take_of_length_le (by omega), List.take_of_length_le (by omega)] at htk
      have := hyes htk
      subst this
      simp -implicitDefEqProofs [r5, r0, r1, hlt, hn', hn2]
  · have hlen' : ¬ (L.length : Int) = (M.length : Int) := by omega
    have := hno fun e => hlen (by rw [e])
    subst this
    simp -implicitDefEqProofs [hlen, hlen']
end Go.Proofs.YtlhgpodfhdddkaaGreatDoor
namespace Go.Proofs.YtlhgpodfhdddkaaGreatDoor
inductive Comes {α : Type} (R : α → α → Prop) : α → α → Prop
  | one {a b : α} : R a b → Comes R a b
  | more {a b c : α} : Comes R a b → R b c → Comes R a c
theorem Comes.trans {α : Type} {R : α → α → Prop} {a b c : α} (h : Comes R a b) (h2 : Comes R b c) : Comes R a c := by
  induction h2 with
  | one g => exact .more h g
  | more _ g ih => exact .more ih g
theorem Comes.mono {α : Type} {R T : α → α → Prop} (hRT : ∀ a b, T a b → Comes R a b) {a b : α} (h : Comes T a b) : Comes R a b := by
  induction h with
  | one h => exact hRT _ _ h
  | more _ h ih => exact ih.trans (hRT _ _ h)
theorem circle_of (n : Nat) : ∀ (S : List Nat) (R : Nat → Nat → Prop), S.length ≤ n → S ≠ [] → (∀ a ∈ S, ∃ d ∈ S, R a d) → ∃ a ∈ S, Comes R a a := by
  induction n with
  | zero =>
    intro S R h1 h2 _
    exact absurd (List.length_eq_zero_iff.1 (by omega)) h2
  | succ n ih =>
    intro S R h1 h2 h3
    obtain ⟨a, S', rfl⟩ := List.exists_cons_of_ne_nil h2
    by_cases hs : Comes R a a
    · exact ⟨a, by simp, hs⟩
    · have hm : ∀ x, x ∈ (a :: S').filter (fun x => decide (x ≠ a)) ↔ x ∈ a :: S' ∧ x ≠ a := fun x => by simp only [List.mem_filter, decide_eq_true_eq]
      have hlt : ((a :: S').filter (fun x => decide (x ≠ a))).length ≤ n := by
        rw [List.filter_cons_of_neg (by simp)]
        have := List.length_filter_le (fun x => decide (x ≠ a)) S'
        simp only [List.length_cons] at h1
        omega
      obtain ⟨d, hd, hr⟩ := h3 a (by simp)
      have hda : d ≠ a := by rintro rfl; exact hs (.one hr)
      obtain ⟨c, hc, hcc⟩ := ih _ (fun x y => R x y ∨ (R x a ∧ R a y)) hlt (List.ne_nil_of_mem ((hm d).2 ⟨hd, hda⟩)) fun x hx => by
        obtain ⟨hx1, hx2⟩ := (hm x).1 hx
        obtain ⟨e, he, hre⟩ := h3 x hx1
        by_cases hea : e = a
        · subst hea
          exact ⟨d, (hm d).2 ⟨hd, hda⟩, .inr ⟨hre, hr⟩⟩
        · exact ⟨e, (hm e).2 ⟨he, hea⟩, .inl hre⟩
      refine ⟨c, ((hm c).1 hc).1, hcc.mono fun x y h => ?_⟩
      rcases h with h | ⟨h, h'⟩
      · exact .one h
      · exact .more (.one h) h'
theorem no_circle {R : Nat → Nat → Prop} {out : List Nat} (h : ∀ (i a : Nat), out[i]? = some a → ∀ d, R a d → d ∈ out.take i) {a b : Nat} (hc : Comes R a b) : ∀ i : Nat, out[i]? = some a → ∃ j : Nat, j < i ∧ out[j]? = some b := by
  have step : ∀ {x y : Nat} {i : Nat}, out[i]? = some x → R x y → ∃ j : Nat, j < i ∧ out[j]? = some y := fun {x y i} hx hr => by
    obtain ⟨j, hj, he⟩ := List.getElem_of_mem (h i x hx y hr)
    rw [List.length_take] at hj
    rw [List.getElem_take] at he
    exact ⟨j, by omega, by rw [List.getElem?_eq_getElem (by omega), he]⟩
  induction hc with
  | one hr => exact fun i hi => step hi hr
  | more _ hr ih =>
    intro i hi
    obtain ⟨j, hj, he⟩ := ih i hi
    obtain ⟨k, hk, hf⟩ := step he hr
    exact ⟨k, by omega, hf⟩
end Go.Proofs.YtlhgpodfhdddkaaGreatDoor
