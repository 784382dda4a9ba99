/- Jobs: which may be. -/
import Derived.Test.YtdpgnbinekcgdaaGreatDoorRefL
import Derived.Test.YtdpgnbinekcgdaaGreatDoorRefY
namespace Go.Proofs.YtdpgnbinekcgdaaGreatDoor
open Rg Go

variable {H : Heap}

structure Jb where
  id : Nat
  name : List UInt8
  ex : List UInt8
  pol : Int
  gr : Int
  lim : Int
  ret : Int
  tim : Int
  deps : List Nat
  pau : Bool
  ver : Nat
  seen : Int
abbrev jbC (j : Jb) (t : Tok) : List AV := [.sc (.int .u64 (j.id : Nat)), str j.name, str j.ex, .sc (.int .i64 j.pol), .sc (.int .i64 j.gr), .sc (.int .i64 j.lim), .sc (.int .i64 j.ret), .sc (.int .i64 j.tim), .sl (j.deps.map fun n : Nat => .sc (.int .u64 n)) t, .sc (.bool j.pau), .sc (.int .u64 (j.ver : Nat)), .sc (.int .i64 j.seen)]
abbrev jbAV (j : Jb) (t : Tok) : AV := .agg (jbC j t)
def badJ (j : Jb) : Bool := decide (j.pol < 1) || decide (3 < j.pol) || decide (j.gr < 0) || decide (604800 < j.gr) || decide (j.lim < 1) || decide (8 < j.lim) || decide (j.ret < 0) || decide (5 < j.ret) || decide (j.tim < 1) || decide (86400 < j.tim) || decide (j.seen < -1) || decide (13569465600 ≤ j.seen)
/-- What is wrong with a job. -/
def mayJ (j : Jb) : Int :=
  if j.name.length < 1 then 140 else if 32 < j.name.length then 140 else if (cronK j.ex).2 ≠ 0 then (cronK j.ex).2 else if 8 < j.deps.length then 3 else if badJ j = true then 2 else 0

set_option maxHeartbeats 4000000 in
theorem c_jobMay (hG : Glob H) (j : Jb) (t : Tok) (hs : j.ex.length ≤ 9223372036854775807) : AOk Tryz.prog 38 [jbAV j t] H (.sc (.int .i64 (mayJ j))) H := by
  unfold mayJ
  refine ACalls.into Tryz.func38 rfl Tryz.ntmps38 Tryz.results38 (by simp) ?_
  simp -implicitDefEqProofs
  refine AAlloc.intro fun b1 h1 => ?_
  simp -implicitDefEqProofs
  generalize hK : Heap.set _ b1 _ = K1
  have k1 : K1 b1 = some (.cells (jbC j t) 53) := by rw [← hK]; simp [Heap.set]
  have kG : Glob K1 := by rw [← hK]; exact hG.new h1
  have kW : HWk H K1 := by rw [← hK]; exact HWk.new h1 (HWk.refl _)
  clear hK
  by_cases c0 : j.name = []
  · simp -implicitDefEqProofs [c0]
    exact kW
  · have c1 : ¬ j.name.length < 1 := by
      have := List.length_pos_iff.2 c0
      omega
    have c1' : ¬ (j.name.length : Int) < 1 := by omega
    by_cases c2 : 32 < j.name.length
    · have c2' : (32 : Int) < (j.name.length : Int) := by omega
      simp -implicitDefEqProofs [k1, c0, c1', c2, c2']
      exact kW
    · have c2' : ¬ (32 : Int) < (j.name.length : Int) := by omega
      simp -implicitDefEqProofs [k1, c0, c1', c2, c2']
      have hp := c_cronParse kG j.ex hs
      generalize cronK j.ex = p at *
      obtain ⟨x, e⟩ := p
      simp only at hp ⊢
      refine ACall.eq hp ?_
      simp -implicitDefEqProofs
      refine AAlloc.intro fun b3 h3 => ?_
      have n13 : b1 ≠ b3 := by intro e; subst e; rw [k1] at h3; cases h3
      have kW3 : ∀ o, HWk H (K1.set b3 o) := fun o => HWk.new (kW.none h3) kW
      by_cases he : e = 0
      · subst he
        simp -implicitDefEqProofs [n13, k1]
        generalize hK : Heap.set K1 b3 _ = K3
        have k3 : K3 b1 = some (.cells (jbC j t) 53) := by rw [← hK]; simp [Heap.set, n13, k1]
        have kW3 : HWk H K3 := by rw [← hK]; exact kW3 _
        clear hK
        by_cases c3 : 8 < j.deps.length
        · have c3' : (8 : Int) < (j.deps.length : Int) := by omega
          simp -implicitDefEqProofs [c3, c3']
          exact kW3
        · have c3' : ¬ (8 : Int) < (j.deps.length : Int) := by omega
          by_cases q0 : j.pol < 1
          · simp -implicitDefEqProofs [k3, c3, c3', q0, badJ]
            exact kW3
          · by_cases q1 : 3 < j.pol
            · simp -implicitDefEqProofs [k3, c3, c3', q0, q1, badJ]
              exact kW3
            · by_cases q2 : j.gr < 0
              · simp -implicitDefEqProofs [k3, c3, c3', q0, q1, q2, badJ]
                exact kW3
              · by_cases q3 : 604800 < j.gr
                · simp -implicitDefEqProofs [k3, c3, c3', q0, q1, q2, q3, badJ]
                  exact kW3
                · by_cases q4 : j.lim < 1
                  · simp -implicitDefEqProofs [k3, c3, c3', q0, q1, q2, q3, q4, badJ]
                    exact kW3
                  · by_cases q5 : 8 < j.lim
                    · simp -implicitDefEqProofs [k3, c3, c3', q0, q1, q2, q3, q4, q5, badJ]
                      exact kW3
                    · by_cases q6 : j.ret < 0
                      · simp -implicitDefEqProofs [k3, c3, c3', q0, q1, q2, q3, q4, q5, q6, badJ]
                        exact kW3
                      · by_cases q7 : 5 < j.ret
                        · simp -implicitDefEqProofs [k3, c3, c3', q0, q1, q2, q3, q4, q5, q6, q7, badJ]
                          exact kW3
                        · by_cases q8 : j.tim < 1
                          · simp -implicitDefEqProofs [k3, c3, c3', q0, q1, q2, q3, q4, q5, q6, q7, q8, badJ]
                            exact kW3
                          · by_cases q9 : 86400 < j.tim
                            · simp -implicitDefEqProofs [k3, c3, c3', q0, q1, q2, q3, q4, q5, q6, q7, q8, q9, badJ]
                              exact kW3
                            · by_cases q10 : j.seen < -1
                              · simp -implicitDefEqProofs [k3, c3, c3', q0, q1, q2, q3, q4, q5, q6, q7, q8, q9, q10, badJ]
                                exact kW3
                              · by_cases q11 : 13569465600 ≤ j.seen
                                · simp -implicitDefEqProofs [k3, c3, c3', q0, q1, q2, q3, q4, q5, q6, q7, q8, q9, q10, q11, badJ]
                                  exact kW3
                                · simp -implicitDefEqProofs [k3, c3, c3', q0, q1, q2, q3, q4, q5, q6, q7, q8, q9, q10, q11, badJ]
                                  exact kW3
      · simp -implicitDefEqProofs [he]
        exact kW3 _

set_option maxHeartbeats 8000000 in
theorem c_ref14May (j : Jb) (t : Tok) (hs : j.ex.length ≤ 1000000) : AOk Tryz.prog 67 [jbAV j t] H (.sc (.int .i64 (mayJ j))) H := by
  unfold mayJ
  refine ACalls.into Tryz.func67 rfl Tryz.ntmps67 Tryz.results67 (by simp) ?_
  simp -implicitDefEqProofs
  refine AAlloc.intro fun b1 h1 => ?_
  simp -implicitDefEqProofs
  generalize hK : Heap.set _ b1 _ = K1
  have k1 : K1 b1 = some (.cells (jbC j t) 53) := by rw [← hK]; simp [Heap.set]
  have kW : HWk H K1 := by rw [← hK]; exact HWk.new h1 (HWk.refl _)
  clear hK
  by_cases c1 : j.name = []
  · simp -implicitDefEqProofs [c1]
    exact kW
  · have c1' : ¬ j.name.length < 1 := by
      have := List.length_pos_iff.2 c1
      omega
    have c1e : j.name.isEmpty = false := by simp [c1]
    by_cases c2 : 32 < j.name.length
    · have c2' : (32 : Int) < (j.name.length : Int) := by omega
      simp -implicitDefEqProofs [k1, c1, c1e, c2, c2']
      exact kW
    · have c2' : ¬ (32 : Int) < (j.name.length : Int) := by omega
      simp -implicitDefEqProofs [k1, c1, c1e, c2, c2']
      have hp := c_ref7Parse (H := K1) j.ex hs
      generalize cronK j.ex = p at *
      obtain ⟨x, e⟩ := p
      simp only at hp ⊢
      refine ACall.eq hp ?_
      simp -implicitDefEqProofs
      refine AAlloc.intro fun b3 h3 => ?_
      have n13 : b1 ≠ b3 := by intro e; subst e; rw [k1] at h3; cases h3
      have kW3 : ∀ o, HWk H (K1.set b3 o) := fun o => HWk.new (kW.none h3) kW
      by_cases he : e = 0
      · subst he
        simp -implicitDefEqProofs [n13, k1]
        generalize hK : Heap.set K1 b3 _ = K3
        have k3 : K3 b1 = some (.cells (jbC j t) 53) := by rw [← hK]; simp [Heap.set, n13, k1]
        have kW3 : HWk H K3 := by rw [← hK]; exact kW3 _
        clear hK
        by_cases c3 : 8 < j.deps.length
        · have c3' : (8 : Int) < (j.deps.length : Int) := by omega
          simp -implicitDefEqProofs [c3, c3']
          exact kW3
        · have c3' : ¬ (8 : Int) < (j.deps.length : Int) := by omega
          by_cases p1 : j.pol = 1
          · by_cases q0 : j.gr < 0
            · simp -implicitDefEqProofs [k3, c3, c3', p1, q0, badJ]
              exact kW3
            · by_cases q1 : 604800 < j.gr
              · simp -implicitDefEqProofs [k3, c3, c3', p1, q0, q1, badJ]
                exact kW3
              · by_cases q2 : j.lim < 1
                · simp -implicitDefEqProofs [k3, c3, c3', p1, q0, q1, q2, badJ]
                  exact kW3
                · by_cases q3 : 8 < j.lim
                  · simp -implicitDefEqProofs [k3, c3, c3', p1, q0, q1, q2, q3, badJ]
                    exact kW3
                  · by_cases q4 : j.ret < 0
                    · simp -implicitDefEqProofs [k3, c3, c3', p1, q0, q1, q2, q3, q4, badJ]
                      exact kW3
                    · by_cases q5 : 5 < j.ret
                      · simp -implicitDefEqProofs [k3, c3, c3', p1, q0, q1, q2, q3, q4, q5, badJ]
                        exact kW3
                      · by_cases q6 : j.tim < 1
                        · simp -implicitDefEqProofs [k3, c3, c3', p1, q0, q1, q2, q3, q4, q5, q6, badJ]
                          exact kW3
                        · by_cases q7 : 86400 < j.tim
                          · simp -implicitDefEqProofs [k3, c3, c3', p1, q0, q1, q2, q3, q4, q5, q6, q7, badJ]
                            exact kW3
                          · by_cases q8 : j.seen < -1
                            · simp -implicitDefEqProofs [k3, c3, c3', p1, q0, q1, q2, q3, q4, q5, q6, q7, q8, badJ]
                              exact kW3
                            · by_cases q9 : 13569465600 ≤ j.seen
                              · have r : 13569465599 < j.seen := by omega
                                simp -implicitDefEqProofs [k3, c3, c3', p1, q0, q1, q2, q3, q4, q5, q6, q7, q8, q9, r, badJ]
                                exact kW3
                              · have r : ¬ 13569465599 < j.seen := by omega
                                simp -implicitDefEqProofs [k3, c3, c3', p1, q0, q1, q2, q3, q4, q5, q6, q7, q8, q9, r, badJ]
                                exact kW3
          · by_cases p2 : j.pol = 2
            · by_cases q0 : j.gr < 0
              · simp -implicitDefEqProofs [k3, c3, c3', p2, q0, badJ]
                exact kW3
              · by_cases q1 : 604800 < j.gr
                · simp -implicitDefEqProofs [k3, c3, c3', p2, q0, q1, badJ]
                  exact kW3
                · by_cases q2 : j.lim < 1
                  · simp -implicitDefEqProofs [k3, c3, c3', p2, q0, q1, q2, badJ]
                    exact kW3
                  · by_cases q3 : 8 < j.lim
                    · simp -implicitDefEqProofs [k3, c3, c3', p2, q0, q1, q2, q3, badJ]
                      exact kW3
                    · by_cases q4 : j.ret < 0
                      · simp -implicitDefEqProofs [k3, c3, c3', p2, q0, q1, q2, q3, q4, badJ]
                        exact kW3
                      · by_cases q5 : 5 < j.ret
                        · simp -implicitDefEqProofs [k3, c3, c3', p2, q0, q1, q2, q3, q4, q5, badJ]
                          exact kW3
                        · by_cases q6 : j.tim < 1
                          · simp -implicitDefEqProofs [k3, c3, c3', p2, q0, q1, q2, q3, q4, q5, q6, badJ]
                            exact kW3
                          · by_cases q7 : 86400 < j.tim
                            · simp -implicitDefEqProofs [k3, c3, c3', p2, q0, q1, q2, q3, q4, q5, q6, q7, badJ]
                              exact kW3
                            · by_cases q8 : j.seen < -1
                              · simp -implicitDefEqProofs [k3, c3, c3', p2, q0, q1, q2, q3, q4, q5, q6, q7, q8, badJ]
                                exact kW3
                              · by_cases q9 : 13569465600 ≤ j.seen
                                · have r : 13569465599 < j.seen := by omega
                                  simp -implicitDefEqProofs [k3, c3, c3', p2, q0, q1, q2, q3, q4, q5, q6, q7, q8, q9, r, badJ]
                                  exact kW3
                                · have r : ¬ 13569465599 < j.seen := by omega
                                  simp -implicitDefEqProofs [k3, c3, c3', p2, q0, q1, q2, q3, q4, q5, q6, q7, q8, q9, r, badJ]
                                  exact kW3
            · by_cases p3 : j.pol = 3
              · by_cases q0 : j.gr < 0
                · simp -implicitDefEqProofs [k3, c3, c3', p3, q0, badJ]
                  exact kW3
                · by_cases q1 : 604800 < j.gr
                  · simp -implicitDefEqProofs [k3, c3, c3', p3, q0, q1, badJ]
                    exact kW3
                  · by_cases q2 : j.lim < 1
                    · simp -implicitDefEqProofs [k3, c3, c3', p3, q0, q1, q2, badJ]
                      exact kW3
                    · by_cases q3 : 8 < j.lim
                      · simp -implicitDefEqProofs [k3, c3, c3', p3, q0, q1, q2, q3, badJ]
                        exact kW3
                      · by_cases q4 : j.ret < 0
                        · simp -implicitDefEqProofs [k3, c3, c3', p3, q0, q1, q2, q3, q4, badJ]
                          exact kW3
                        · by_cases q5 : 5 < j.ret
                          · simp -implicitDefEqProofs [k3, c3, c3', p3, q0, q1, q2, q3, q4, q5, badJ]
                            exact kW3
                          · by_cases q6 : j.tim < 1
                            · simp -implicitDefEqProofs [k3, c3, c3', p3, q0, q1, q2, q3, q4, q5, q6, badJ]
                              exact kW3
                            · by_cases q7 : 86400 < j.tim
                              · simp -implicitDefEqProofs [k3, c3, c3', p3, q0, q1, q2, q3, q4, q5, q6, q7, badJ]
                                exact kW3
                              · by_cases q8 : j.seen < -1
                                · simp -implicitDefEqProofs [k3, c3, c3', p3, q0, q1, q2, q3, q4, q5, q6, q7, q8, badJ]
                                  exact kW3
                                · by_cases q9 : 13569465600 ≤ j.seen
                                  · have r : 13569465599 < j.seen := by omega
                                    simp -implicitDefEqProofs [k3, c3, c3', p3, q0, q1, q2, q3, q4, q5, q6, q7, q8, q9, r, badJ]
                                    exact kW3
                                  · have r : ¬ 13569465599 < j.seen := by omega
                                    simp -implicitDefEqProofs [k3, c3, c3', p3, q0, q1, q2, q3, q4, q5, q6, q7, q8, q9, r, badJ]
                                    exact kW3
              · have hb : badJ j = true := by
                  by_cases g : j.pol < 1
                  · simp [badJ, g]
                  · have g2 : 3 < j.pol := by omega
                    simp [badJ, g2]
                simp -implicitDefEqProofs [k3, c3, c3', p1, p2, p3, hb]
                exact kW3
      · simp -implicitDefEqProofs [he]
        exact kW3 _
end Go.Proofs.YtdpgnbinekcgdaaGreatDoor
