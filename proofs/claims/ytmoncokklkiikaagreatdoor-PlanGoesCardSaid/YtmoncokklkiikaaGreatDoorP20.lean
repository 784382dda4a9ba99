/- The firings of a time, gone over by a loop: next.All, next.Count. A job's firings, as the document lists them. Jobs: which may be. Plans' rows: the program's walk. What a text's expression is: fields that may be. Plans' rows, made. Which row of a plan is next. The best row is the earliest, the first of those. A plan's rows, as they go on: what is left of each, and which is next. -/
import Derived.Test.YtmoncokklkiikaaGreatDoorP19
import Derived.Test.YtmoncokklkiikaaGreatDoorP15
import Derived.Test.YtmoncokklkiikaaGreatDoorP14
import Derived.Test.YtmoncokklkiikaaGreatDoorP18
import Derived.Test.YtmoncokklkiikaaGreatDoorP09
set_option linter.unusedSimpArgs false
set_option linter.unusedVariables false
set_option linter.unnecessarySimpa false
namespace Go.Proofs.YtmoncokklkiikaaGreatDoor
open Rg Go
variable {H : Heap}
abbrev ptr (b : Nat) : AV := .sc (.pointer (some ⟨b, 0, none⟩))
theorem HWk.delNew {K H : Heap} {b : Nat} (hb : K b = none) (h : HWk K H) : HWk K (H.del b) := fun c ob e => by
  have hc : c ≠ b := by rintro rfl; rw [hb] at e; cases e
  obtain ⟨o, h1, h2⟩ := h c ob e
  exact ⟨o, by unfold Heap.del; rw [if_neg hc]; exact h1, h2⟩
theorem GlobT.set {H : Heap} {b : Nat} {o : AObj} (h : GlobT H) (hb : ∀ us, H b ≠ some (.ro us)) : GlobT (H.set b o) := by
  obtain ⟨us, h1, h2⟩ := h
  refine ⟨us, ?_, h2⟩
  unfold Heap.set
  split
  · rename_i hc; subst hc; exact absurd h1 (hb us)
  · exact h1
theorem del_apply {H : Heap} {b c : Nat} : Heap.del H b c = if c = b then none else H c := rfl
theorem mark_nrm {Q : Post} {D : Nat} : (Q.mark D).nrm = fun ρ H => H D = some .dfr ∧ Q.nrm ρ (H.del D) := rfl
theorem mark_ret {Q : Post} {D : Nat} : (Q.mark D).ret = fun ρ H => H D = some .dfr ∧ Q.ret ρ (H.del D) := rfl
end Go.Proofs.YtmoncokklkiikaaGreatDoor
namespace Go.Proofs.YtmoncokklkiikaaGreatDoor
open Rg Go
variable {H : Heap}
abbrev tAV (t : Nat) : AV := .sc (.int .i64 (t : Int))
theorem fires_bound {x : Ex} {a b : Int} {t : Nat} (h : t ∈ firesL x a b) : (t : Int) ≤ b := (fires_mem.1 h).1
set_option maxHeartbeats 4000000 in
theorem c_ref8List {x : Ex} (hx : x.ok) (hm : mayX x = true) {a b : Nat} (ha : a < 13569465600) (hb : b < 13569465600) (most : Int) (hmost : most ≤ 1000000) :
    AOk Tryz.prog 126 [exAV x, .sc (.int .i64 (a : Int)), .sc (.int .i64 (b : Int)), .sc (.int .i64 most)] H (.sl (((firesL x a b).take most.toNat).map tAV) .no) H := by
  obtain ⟨L, hL⟩ : ∃ L, (firesL x a b).take most.toNat = L := ⟨_, rfl⟩
  rw [hL]
  refine ACalls.into Tryz.func126 rfl Tryz.ntmps126 Tryz.results126 (by simp) ?_
  simp -implicitDefEqProofs
  refine AAlloc.intro fun b4 h4 => ?_
  simp -implicitDefEqProofs
  generalize hK : Heap.set _ b4 _ = K1
  have k4 : K1 b4 = some (.cells (exC x) 42) := by rw [← hK]; simp [Heap.set]
  have kW : HLe H K1 := by rw [← hK]; exact HLe.set_fresh h4
  clear hK
  refine ACall.eq (c_ref8Bad x hx a) ?_
  rw [badE_ok hm ha]
  have hbb := fun K : Heap => c_ref8Bad (H := K) x hx b
  rw [badE_ok hm hb] at hbb
  simp -implicitDefEqProofs [k4]
  first | refine ACall.eq (hbb _) ?_ | refine AQS.eq (hbb _) ?_
  simp -implicitDefEqProofs
  refine AGo.rounds (fun μ ρ K => ∃ (p : Nat) (D : List Nat) (tk : Rg.Tok) (K3 : Heap), μ = (firesL x p b).length ∧ p < 13569465600 ∧ firesL x a b = D ++ firesL x p b ∧ (D.length : Int) ≤ max most 0 ∧ ρ 1 = .sc (.int .i64 (p : Int)) ∧ ρ 2 = .sc (.int .i64 (b : Int)) ∧ ρ 3 = .sc (.int .i64 most) ∧ ρ 4 = .sc (.pointer (some ⟨b4, 0, none⟩)) ∧ ρ 9 = .sl (D.map tAV) tk ∧ Grows K1 (D.map tAV) 1 2 tk K3 ∧ HLe K3 K) ?_ (m := (firesL x a b).length) (HLe.refl _)
    ⟨a, [], .nil, K1, rfl, ha, rfl, by simp; omega, by simp, by simp, by simp, by simp, by simp, .zero, HLe.refl _⟩
  rintro μ ρ K ih ⟨p, D, tk, K3, rfl, hp, hD, hDl, r1, r2, r3, r4, r9, hg, hle⟩
  have q4 := hle _ _ (hg.le _ _ k4)
  by_cases hlt : (D.length : Int) < most
  · obtain ⟨r, hr⟩ := next_ex x p
    simp -implicitDefEqProofs [r1, r3, r4, r9, hlt, q4]
    refine ACall.eq (c_ref8After hx hm hp hr) ?_
    cases r with
    | none =>
      have hno := fires_over (b := (b : Int)) (by omega) hr (fun t h => by cases h)
      rw [hno, List.append_nil] at hD
      obtain rfl : D = L := by rw [← hL, hD, List.take_of_length_le (by omega)]
      simp -implicitDefEqProofs [outAV, errN, r9]
      exact (kW.trans (hg.le.trans hle)).wk
    | some t =>
      have htm : t < 13569465600 := hr.2.1
      by_cases htb : t ≤ b
      · have hn := fires_next (b := (b : Int)) hr (by omega)
        have htb' : ¬ (b : Int) < (t : Int) := by omega
        have htb2 : ¬ b < t := by omega
        have hdm : (D ++ [t]).map tAV = D.map tAV ++ [tAV t] := by simp
        have hlm : (D.map tAV).length = D.length := by simp
        have hsz : szs 1 (D.map tAV) = true := by
          simp only [szs, List.all_eq_true]
          intro a ha
          obtain ⟨c, _, rfl⟩ := List.mem_map.1 ha
          rfl
        simp -implicitDefEqProofs [outAV, errN, optN, r2, r9, htb', htb2]
        refine AApp.grows el_36 hg hle (by simp) hsz (by simp [szs]) (by simp; omega) (by simp [maxLen]; omega) fun t' K4 Hn hg' hl' => ?_
        simp -implicitDefEqProofs
        refine AGo.again ih (m' := (firesL x t b).length) (by rw [hn]; simp) (HLe.refl _) ⟨t, D ++ [t], t', K4, rfl, htm, by rw [hD, hn]; simp, by simp; omega, by simp, by simp [r2], by simp [r3], by simp [r4], by simp, ?_, hl'⟩
        rw [hdm]
        exact hg'
      · have hno := fires_over (b := (b : Int)) (by omega) hr (fun u h => by cases h; omega)
        have htb' : (b : Int) < (t : Int) := by omega
        have htb2 : b < t := by omega
        rw [hno, List.append_nil] at hD
        obtain rfl : D = L := by rw [← hL, hD, List.take_of_length_le (by omega)]
        simp -implicitDefEqProofs [outAV, errN, optN, r2, r9, htb', htb2]
        exact (kW.trans (hg.le.trans hle)).wk
  · have e : (firesL x a b).take most.toNat = D := by
      rw [hD]
      have : D.length = most.toNat := by omega
      rw [← this, List.take_left]
    obtain rfl : D = L := e.symm.trans hL
    simp -implicitDefEqProofs [r3, r9, hlt]
    exact (kW.trans (hg.le.trans hle)).wk
end Go.Proofs.YtmoncokklkiikaaGreatDoor
namespace Go.Proofs.YtmoncokklkiikaaGreatDoor
open Rg Go
variable {H : Heap}
structure Jb where
  id : Nat
  name : List UInt8
  ex : List UInt8
  pol : Int
  gr : Int
  lim : Int
  ret : Int
  tim : Int
  deps : List Nat
  pau : Bool
  ver : Nat
  seen : Int
abbrev jbC (j : Jb) (t : Tok) : List AV := [.sc (.int .u64 (j.id : Nat)), str j.name, str j.ex, .sc (.int .i64 j.pol), .sc (.int .i64 j.gr), .sc (.int .i64 j.lim), .sc (.int .i64 j.ret), .sc (.int .i64 j.tim), .sl (j.deps.map fun n : Nat => .sc (.int .u64 n)) t, .sc (.bool j.pau), .sc (.int .u64 (j.ver : Nat)), .sc (.int .i64 j.seen)]
abbrev jbAV (j : Jb) (t : Tok) : AV := .agg (jbC j t)
def badJ (j : Jb) : Bool := decide (j.pol < 1) || decide (3 < j.pol) || decide (j.gr < 0) || decide (604800 < j.gr) || decide (j.lim < 1) || decide (8 < j.lim) || decide (j.ret < 0) || decide (5 < j.ret) || decide (j.tim < 1) || decide (86400 < j.tim) || decide (j.seen < -1) || decide (13569465600 ≤ j.seen)
def mayJ (j : Jb) : Int :=
  if j.name.length < 1 then 140 else if 32 < j.name.length then 140 else if (cronK j.ex).2 ≠ 0 then (cronK j.ex).2 else if 8 < j.deps.length then 3 else if badJ j = true then 2 else 0
set_option maxHeartbeats 4000000 in
theorem c_jobMay (hG : Glob H) (j : Jb) (t : Tok) (hs : j.ex.length ≤ 9223372036854775807) : AOk Tryz.prog 16 [jbAV j t] H (.sc (.int .i64 (mayJ j))) H := by
  unfold mayJ
  refine ACalls.into Tryz.func16 rfl Tryz.ntmps16 Tryz.results16 (by simp) ?_
  simp -implicitDefEqProofs
  refine AAlloc.intro fun b1 h1 => ?_
  simp -implicitDefEqProofs
  generalize hK : Heap.set _ b1 _ = K1
  have k1 : K1 b1 = some (.cells (jbC j t) 25) := by rw [← hK]; simp [Heap.set]
  have kG : Glob K1 := by rw [← hK]; exact hG.new h1
  have kW : HWk H K1 := by rw [← hK]; exact HWk.new h1 (HWk.refl _)
  clear hK
  by_cases c0 : j.name = []
  · simp -implicitDefEqProofs [c0]
    exact kW
  · have c1 : ¬ j.name.length < 1 := by
      have := List.length_pos_iff.2 c0
      omega
    have c1' : ¬ (j.name.length : Int) < 1 := by omega
    by_cases c2 : 32 < j.name.length
    · have c2' : (32 : Int) < (j.name.length : Int) := by omega
      simp -implicitDefEqProofs [k1, c0, c1', c2, c2']
      exact kW
    · have c2' : ¬ (32 : Int) < (j.name.length : Int) := by omega
      simp -implicitDefEqProofs [k1, c0, c1', c2, c2']
      have hp := c_cronParse kG j.ex hs
      generalize cronK j.ex = p at *
      obtain ⟨x, e⟩ := p
      simp only at hp ⊢
      refine ACall.eq hp ?_
      simp -implicitDefEqProofs
      refine AAlloc.intro fun b3 h3 => ?_
      have n13 : b1 ≠ b3 := by intro e; subst e; rw [k1] at h3; cases h3
      have kW3 : ∀ o, HWk H (K1.set b3 o) := fun o => HWk.new (kW.none h3) kW
      by_cases he : e = 0
      · subst he
        simp -implicitDefEqProofs [n13, k1]
        generalize hK : Heap.set K1 b3 _ = K3
        have k3 : K3 b1 = some (.cells (jbC j t) 25) := by rw [← hK]; simp [Heap.set, n13, k1]
        have kW3 : HWk H K3 := by rw [← hK]; exact kW3 _
        clear hK
        by_cases c3 : 8 < j.deps.length
        · have c3' : (8 : Int) < (j.deps.length : Int) := by omega
          simp -implicitDefEqProofs [c3, c3']
          exact kW3
        · have c3' : ¬ (8 : Int) < (j.deps.length : Int) := by omega
          by_cases q0 : j.pol < 1
          · simp -implicitDefEqProofs [k3, c3, c3', q0, badJ]
            exact kW3
          · by_cases q1 : 3 < j.pol
            · simp -implicitDefEqProofs [k3, c3, c3', q0, q1, badJ]
              exact kW3
            · by_cases q2 : j.gr < 0
              · simp -implicitDefEqProofs [k3, c3, c3', q0, q1, q2, badJ]
                exact kW3
              · by_cases q3 : 604800 < j.gr
                · simp -implicitDefEqProofs [k3, c3, c3', q0, q1, q2, q3, badJ]
                  exact kW3
                · by_cases q4 : j.lim < 1
                  · simp -implicitDefEqProofs [k3, c3, c3', q0, q1, q2, q3, q4, badJ]
                    exact kW3
                  · by_cases q5 : 8 < j.lim
                    · simp -implicitDefEqProofs [k3, c3, c3', q0, q1, q2, q3, q4, q5, badJ]
                      exact kW3
                    · by_cases q6 : j.ret < 0
                      · simp -implicitDefEqProofs [k3, c3, c3', q0, q1, q2, q3, q4, q5, q6, badJ]
                        exact kW3
                      · by_cases q7 : 5 < j.ret
                        · simp -implicitDefEqProofs [k3, c3, c3', q0, q1, q2, q3, q4, q5, q6, q7, badJ]
                          exact kW3
                        · by_cases q8 : j.tim < 1
                          · simp -implicitDefEqProofs [k3, c3, c3', q0, q1, q2, q3, q4, q5, q6, q7, q8, badJ]
                            exact kW3
                          · by_cases q9 : 86400 < j.tim
                            · simp -implicitDefEqProofs [k3, c3, c3', q0, q1, q2, q3, q4, q5, q6, q7, q8, q9, badJ]
                              exact kW3
                            · by_cases q10 : j.seen < -1
                              · simp -implicitDefEqProofs [k3, c3, c3', q0, q1, q2, q3, q4, q5, q6, q7, q8, q9, q10, badJ]
                                exact kW3
                              · by_cases q11 : 13569465600 ≤ j.seen
                                · simp -implicitDefEqProofs [k3, c3, c3', q0, q1, q2, q3, q4, q5, q6, q7, q8, q9, q10, q11, badJ]
                                  exact kW3
                                · simp -implicitDefEqProofs [k3, c3, c3', q0, q1, q2, q3, q4, q5, q6, q7, q8, q9, q10, q11, badJ]
                                  exact kW3
      · simp -implicitDefEqProofs [he]
        exact kW3 _
set_option maxHeartbeats 8000000 in
theorem c_ref14May (j : Jb) (t : Tok) (hs : j.ex.length ≤ 9223372036854775807) : AOk Tryz.prog 65 [jbAV j t] H (.sc (.int .i64 (mayJ j))) H := by
  unfold mayJ
  refine ACalls.into Tryz.func65 rfl Tryz.ntmps65 Tryz.results65 (by simp) ?_
  simp -implicitDefEqProofs
  refine AAlloc.intro fun b1 h1 => ?_
  simp -implicitDefEqProofs
  generalize hK : Heap.set _ b1 _ = K1
  have k1 : K1 b1 = some (.cells (jbC j t) 25) := by rw [← hK]; simp [Heap.set]
  have kW : HWk H K1 := by rw [← hK]; exact HWk.new h1 (HWk.refl _)
  clear hK
  by_cases c1 : j.name = []
  · simp -implicitDefEqProofs [c1]
    exact kW
  · have c1' : ¬ j.name.length < 1 := by
      have := List.length_pos_iff.2 c1
      omega
    have c1e : j.name.isEmpty = false := by simp [c1]
    by_cases c2 : 32 < j.name.length
    · have c2' : (32 : Int) < (j.name.length : Int) := by omega
      simp -implicitDefEqProofs [k1, c1, c1e, c2, c2']
      exact kW
    · have c2' : ¬ (32 : Int) < (j.name.length : Int) := by omega
      simp -implicitDefEqProofs [k1, c1, c1e, c2, c2']
      have hp := c_ref7ParseW (H := K1) j.ex hs
      generalize cronK j.ex = p at *
      obtain ⟨x, e⟩ := p
      simp only at hp ⊢
      refine ACall.eq hp ?_
      simp -implicitDefEqProofs
      refine AAlloc.intro fun b3 h3 => ?_
      have n13 : b1 ≠ b3 := by intro e; subst e; rw [k1] at h3; cases h3
      have kW3 : ∀ o, HWk H (K1.set b3 o) := fun o => HWk.new (kW.none h3) kW
      by_cases he : e = 0
      · subst he
        simp -implicitDefEqProofs [n13, k1]
        generalize hK : Heap.set K1 b3 _ = K3
        have k3 : K3 b1 = some (.cells (jbC j t) 25) := by rw [← hK]; simp [Heap.set, n13, k1]
        have kW3 : HWk H K3 := by rw [← hK]; exact kW3 _
        clear hK
        by_cases c3 : 8 < j.deps.length
        · have c3' : (8 : Int) < (j.deps.length : Int) := by omega
          simp -implicitDefEqProofs [c3, c3']
          exact kW3
        · have c3' : ¬ (8 : Int) < (j.deps.length : Int) := by omega
          by_cases p1 : j.pol = 1
          · by_cases q0 : j.gr < 0
            · simp -implicitDefEqProofs [k3, c3, c3', p1, q0, badJ]
              exact kW3
            · by_cases q1 : 604800 < j.gr
              · simp -implicitDefEqProofs [k3, c3, c3', p1, q0, q1, badJ]
                exact kW3
              · by_cases q2 : j.lim < 1
                · simp -implicitDefEqProofs [k3, c3, c3', p1, q0, q1, q2, badJ]
                  exact kW3
                · by_cases q3 : 8 < j.lim
                  · simp -implicitDefEqProofs [k3, c3, c3', p1, q0, q1, q2, q3, badJ]
                    exact kW3
                  · by_cases q4 : j.ret < 0
                    · simp -implicitDefEqProofs [k3, c3, c3', p1, q0, q1, q2, q3, q4, badJ]
                      exact kW3
                    · by_cases q5 : 5 < j.ret
                      · simp -implicitDefEqProofs [k3, c3, c3', p1, q0, q1, q2, q3, q4, q5, badJ]
                        exact kW3
                      · by_cases q6 : j.tim < 1
                        · simp -implicitDefEqProofs [k3, c3, c3', p1, q0, q1, q2, q3, q4, q5, q6, badJ]
                          exact kW3
                        · by_cases q7 : 86400 < j.tim
                          · simp -implicitDefEqProofs [k3, c3, c3', p1, q0, q1, q2, q3, q4, q5, q6, q7, badJ]
                            exact kW3
                          · by_cases q8 : j.seen < -1
                            · simp -implicitDefEqProofs [k3, c3, c3', p1, q0, q1, q2, q3, q4, q5, q6, q7, q8, badJ]
                              exact kW3
                            · by_cases q9 : 13569465600 ≤ j.seen
                              · have r : 13569465599 < j.seen := by omega
                                simp -implicitDefEqProofs [k3, c3, c3', p1, q0, q1, q2, q3, q4, q5, q6, q7, q8, q9, r, badJ]
                                exact kW3
                              · have r : ¬ 13569465599 < j.seen := by omega
                                simp -implicitDefEqProofs [k3, c3, c3', p1, q0, q1, q2, q3, q4, q5, q6, q7, q8, q9, r, badJ]
                                exact kW3
          · by_cases p2 : j.pol = 2
            · by_cases q0 : j.gr < 0
              · simp -implicitDefEqProofs [k3, c3, c3', p2, q0, badJ]
                exact kW3
              · by_cases q1 : 604800 < j.gr
                · simp -implicitDefEqProofs [k3, c3, c3', p2, q0, q1, badJ]
                  exact kW3
                · by_cases q2 : j.lim < 1
                  · simp -implicitDefEqProofs [k3, c3, c3', p2, q0, q1, q2, badJ]
                    exact kW3
                  · by_cases q3 : 8 < j.lim
                    · simp -implicitDefEqProofs [k3, c3, c3', p2, q0, q1, q2, q3, badJ]
                      exact kW3
                    · by_cases q4 : j.ret < 0
                      · simp -implicitDefEqProofs [k3, c3, c3', p2, q0, q1, q2, q3, q4, badJ]
                        exact kW3
                      · by_cases q5 : 5 < j.ret
                        · simp -implicitDefEqProofs [k3, c3, c3', p2, q0, q1, q2, q3, q4, q5, badJ]
                          exact kW3
                        · by_cases q6 : j.tim < 1
                          · simp -implicitDefEqProofs [k3, c3, c3', p2, q0, q1, q2, q3, q4, q5, q6, badJ]
                            exact kW3
                          · by_cases q7 : 86400 < j.tim
                            · simp -implicitDefEqProofs [k3, c3, c3', p2, q0, q1, q2, q3, q4, q5, q6, q7, badJ]
                              exact kW3
                            · by_cases q8 : j.seen < -1
                              · simp -implicitDefEqProofs [k3, c3, c3', p2, q0, q1, q2, q3, q4, q5, q6, q7, q8, badJ]
                                exact kW3
                              · by_cases q9 : 13569465600 ≤ j.seen
                                · have r : 13569465599 < j.seen := by omega
                                  simp -implicitDefEqProofs [k3, c3, c3', p2, q0, q1, q2, q3, q4, q5, q6, q7, q8, q9, r, badJ]
                                  exact kW3
                                · have r : ¬ 13569465599 < j.seen := by omega
                                  simp -implicitDefEqProofs [k3, c3, c3', p2, q0, q1, q2, q3, q4, q5, q6, q7, q8, q9, r, badJ]
                                  exact kW3
            · by_cases p3 : j.pol = 3
              · by_cases q0 : j.gr < 0
                · simp -implicitDefEqProofs [k3, c3, c3', p3, q0, badJ]
                  exact kW3
                · by_cases q1 : 604800 < j.gr
                  · simp -implicitDefEqProofs [k3, c3, c3', p3, q0, q1, badJ]
                    exact kW3
                  · by_cases q2 : j.lim < 1
                    · simp -implicitDefEqProofs [k3, c3, c3', p3, q0, q1, q2, badJ]
                      exact kW3
                    · by_cases q3 : 8 < j.lim
                      · simp -implicitDefEqProofs [k3, c3, c3', p3, q0, q1, q2, q3, badJ]
                        exact kW3
                      · by_cases q4 : j.ret < 0
                        · simp -implicitDefEqProofs [k3, c3, c3', p3, q0, q1, q2, q3, q4, badJ]
                          exact kW3
                        · by_cases q5 : 5 < j.ret
                          · simp -implicitDefEqProofs [k3, c3, c3', p3, q0, q1, q2, q3, q4, q5, badJ]
                            exact kW3
                          · by_cases q6 : j.tim < 1
                            · simp -implicitDefEqProofs [k3, c3, c3', p3, q0, q1, q2, q3, q4, q5, q6, badJ]
                              exact kW3
                            · by_cases q7 : 86400 < j.tim
                              · simp -implicitDefEqProofs [k3, c3, c3', p3, q0, q1, q2, q3, q4, q5, q6, q7, badJ]
                                exact kW3
                              · by_cases q8 : j.seen < -1
                                · simp -implicitDefEqProofs [k3, c3, c3', p3, q0, q1, q2, q3, q4, q5, q6, q7, q8, badJ]
                                  exact kW3
                                · by_cases q9 : 13569465600 ≤ j.seen
                                  · have r : 13569465599 < j.seen := by omega
                                    simp -implicitDefEqProofs [k3, c3, c3', p3, q0, q1, q2, q3, q4, q5, q6, q7, q8, q9, r, badJ]
                                    exact kW3
                                  · have r : ¬ 13569465599 < j.seen := by omega
                                    simp -implicitDefEqProofs [k3, c3, c3', p3, q0, q1, q2, q3, q4, q5, q6, q7, q8, q9, r, badJ]
                                    exact kW3
              · have hb : badJ j = true := by
                  by_cases g : j.pol < 1
                  · simp [badJ, g]
                  · have g2 : 3 < j.pol := by omega
                    simp [badJ, g2]
                simp -implicitDefEqProofs [k3, c3, c3', p1, p2, p3, hb]
                exact kW3
      · simp -implicitDefEqProofs [he]
        exact kW3 _
end Go.Proofs.YtmoncokklkiikaaGreatDoor
namespace Go.Proofs.YtmoncokklkiikaaGreatDoor
open Rg Go
variable {H : Heap}
theorem c_planMoment (t : Int) : AOk Tryz.prog 128 [.sc (.int .i64 t)] H (.sc (.bool (momP t))) H := by
  unfold momP
  refine ACalls.into Tryz.func128 rfl Tryz.ntmps128 Tryz.results128 (by simp) ?_
  by_cases h : 0 ≤ t
  · simp -implicitDefEqProofs [h]
  · simp -implicitDefEqProofs [h]
structure PRow where
  j : Jb
  x : Ex
  at_ : Int
  over : Bool
abbrev rowC (r : PRow) (t : Rg.Tok) : List AV := jbC r.j t ++ exC r.x ++ [.sc (.int .i64 r.at_), .sc (.bool r.over)]
def PRow.next (r : PRow) (n : Option Nat) : PRow := { r with at_ := optN n, over := n.isNone }
set_option maxHeartbeats 4000000 in
theorem c_steps {b : Nat} {r : PRow} {t : Rg.Tok} (hG : GlobT H) (hb : H b = some (.cells (rowC r t) 229)) (hx : r.x.ok) (hm : mayX r.x = true) {a : Nat} (ha : a < 13569465600) (he : r.at_ = (a : Int)) {n : Option Nat} (hn : IsNext r.x a n) :
    AOk Tryz.prog 176 [.sc (.pointer (some ⟨b, 0, none⟩))] H (.tup []) (H.set b (.cells (rowC (r.next n) t) 229)) := by
  refine ACalls.into Tryz.func176 rfl Tryz.ntmps176 Tryz.results176 (by simp) ?_
  have hA := fun K (h : GlobT K) => c_after h hx hm ha hn
  obtain ⟨j, x, at_, over⟩ := r
  simp only at he
  subst he
  simp only [rowC, List.cons_append, List.nil_append] at hb
  simp -implicitDefEqProofs [hb]
  refine go_draw 14 f_mixed (by decide +kernel) ?_
  simp -implicitDefEqProofs [hb]
  refine AQS.eq (hA _ hG) ?_
  cases n with
  | none =>
    simp -implicitDefEqProofs [outAV, optN, errN, hb, PRow.next]
  | some u =>
    simp -implicitDefEqProofs [outAV, optN, errN, hb, PRow.next]
end Go.Proofs.YtmoncokklkiikaaGreatDoor
namespace Go.Proofs.YtmoncokklkiikaaGreatDoor
open Rg Go
theorem parse_may {k : Int} {s : List UInt8} (h : (parseK k s).2 = 0) : mayB k (parseK k s).1.bits = true := by
  cases hk : isK k with
  | false => unfold parseK at h; rw [if_pos hk] at h; exact absurd h (by decide)
  | true =>
    by_cases hs : 150 < s.length
    · unfold parseK at h; rw [if_neg (by simp [hk]), if_pos hs] at h; exact absurd h (by decide)
    · rw [parse_eq hk (by omega)] at h ⊢
      by_cases h1 : firstErr k (sp 44 s) = 0
      · rw [if_neg (by simp [h1])]
        obtain ⟨a1, a2⟩ := orAll_ok hk h1
        exact may_of hk (a1 (sp_ne _ _)) a2
      · rw [if_pos h1] at h
        exact absurd h h1
theorem set_ok {x : Ex} (hx : x.ok) (j : Nat) {f : Fld} (hf : f.bits < 18446744073709551616) : (x.set j f).ok := by
  unfold Ex.set
  split <;> exact ⟨by first | exact hf | exact hx.a, by first | exact hf | exact hx.b, by first | exact hf | exact hx.c, by first | exact hf | exact hx.d, by first | exact hf | exact hx.e⟩
theorem ex0_ok : ex0.ok := ⟨by decide, by decide, by decide, by decide, by decide⟩
theorem goX_lt : ∀ (L : List (List UInt8)) (j : Nat) (x : Ex), x.ok → (goX L j x).1.ok
  | [], _, _, h => h
  | p :: r, j, x, h => by
    unfold goX
    split
    · exact ex0_ok
    · exact goX_lt r _ _ (set_ok h _ (parse_lt _ _))
theorem cronB_lt (s : List UInt8) : (cronB s).1.ok := by
  unfold cronB
  by_cases h1 : (sp 32 s).length ≠ 5
  · rw [if_pos h1]; exact ex0_ok
  · rw [if_neg h1]
    by_cases h2 : [] ∈ sp 32 s
    · rw [if_pos h2]; exact ex0_ok
    · rw [if_neg h2]; exact goX_lt _ _ _ ex0_ok
theorem cronK_lt (s : List UInt8) : (cronK s).1.ok := by
  unfold cronK
  by_cases h : 400 < s.length
  · rw [if_pos h]; exact ex0_ok
  · rw [if_neg h]; exact cronB_lt _
theorem go5 {p0 p1 p2 p3 p4 : List UInt8} : goX [p0, p1, p2, p3, p4] 0 ex0 =
    if (parseK 0 p0).2 ≠ 0 then (ex0, (parseK 0 p0).2) else if (parseK 1 p1).2 ≠ 0 then (ex0, (parseK 1 p1).2) else if (parseK 2 p2).2 ≠ 0 then (ex0, (parseK 2 p2).2)
    else if (parseK 3 p3).2 ≠ 0 then (ex0, (parseK 3 p3).2) else if (parseK 4 p4).2 ≠ 0 then (ex0, (parseK 4 p4).2) else (⟨(parseK 0 p0).1, (parseK 1 p1).1, (parseK 2 p2).1, (parseK 3 p3).1, (parseK 4 p4).1⟩, 0) := rfl
theorem cronB_may {s : List UInt8} (h : (cronB s).2 = 0) : mayX (cronB s).1 = true := by
  unfold cronB at h ⊢
  by_cases h1 : (sp 32 s).length ≠ 5
  · rw [if_pos h1] at h; exact absurd h (by decide)
  · rw [if_neg h1] at h ⊢
    by_cases h2 : [] ∈ sp 32 s
    · rw [if_pos h2] at h; exact absurd h (by decide)
    · rw [if_neg h2] at h ⊢
      have h3 : (sp 32 s).length = 5 := by omega
      generalize sp 32 s = L at *
      match L, h3 with
      | [p0, p1, p2, p3, p4], _ =>
        rw [go5] at h ⊢
        by_cases e0 : (parseK 0 p0).2 = 0
        · by_cases e1 : (parseK 1 p1).2 = 0
          · by_cases e2 : (parseK 2 p2).2 = 0
            · by_cases e3 : (parseK 3 p3).2 = 0
              · by_cases e4 : (parseK 4 p4).2 = 0
                · rw [if_neg (by simp [e0]), if_neg (by simp [e1]), if_neg (by simp [e2]), if_neg (by simp [e3]), if_neg (by simp [e4])]
                  simp [mayX, parse_may e0, parse_may e1, parse_may e2, parse_may e3, parse_may e4]
                · simp [e0, e1, e2, e3, e4] at h
              · simp [e0, e1, e2, e3] at h
            · simp [e0, e1, e2] at h
          · simp [e0, e1] at h
        · simp [e0] at h
theorem cronK_may {s : List UInt8} (h : (cronK s).2 = 0) : mayX (cronK s).1 = true := by
  unfold cronK at h ⊢
  split at h
  · exact absurd h (by decide)
  · rw [if_neg (by assumption)]
    exact cronB_may h
end Go.Proofs.YtmoncokklkiikaaGreatDoor
namespace Go.Proofs.YtmoncokklkiikaaGreatDoor
open Rg Go
variable {H : Heap}
theorem up_raw {sz : Nat} {H0 K K' : Heap} {e : TypeId} {xs : List AV} {v : AV} (h : RawRowZ sz H0 e xs v K) (hl : HLe K K') : RawRowZ sz H0 e xs v K' :=
  ⟨h.1.trans hl, h.2.imp id fun ⟨g, zs, cap, h1, h2, h3, h4⟩ => ⟨g, zs, cap, h1, h2, hl _ _ h3, h4⟩⟩
theorem form_raw {sz : Nat} {H0 K : Heap} {e : TypeId} {xs : List AV} {v : AV} (h : RawRowZ sz H0 e xs v K) : ∃ A cap, v = .sc (.slice A xs.length cap) := by
  rcases h.2 with ⟨rfl, rfl⟩ | ⟨g, zs, cap, _, rfl, _⟩
  · exact ⟨_, _, rfl⟩
  · exact ⟨_, _, rfl⟩
def liveJ (j : Jb) : Bool := !j.pau && decide (mayJ j = 0)
noncomputable def nextOf (x : Ex) (a : Nat) : Option Nat := Classical.choose (next_ex x a)
theorem nextOf_is (x : Ex) (a : Nat) : IsNext x a (nextOf x a) := Classical.choose_spec (next_ex x a)
noncomputable def firstRow (a : Nat) (j : Jb) : PRow := (⟨j, (cronK j.ex).1, a, false⟩ : PRow).next (nextOf (cronK j.ex).1 a)
noncomputable def rowsP (js : List Jb) (a : Nat) : List PRow := (js.filter liveJ).map (firstRow a)
abbrev prAV (r : PRow) : AV := .agg (rowC r .no)
theorem live_ex {j : Jb} (h : mayJ j = 0) : (cronK j.ex).2 = 0 := by
  unfold mayJ at h
  split at h
  · cases h
  · split at h
    · cases h
    · split at h
      · rename_i hc; exact absurd h hc
      · rename_i hc; exact Classical.not_not.1 hc
theorem rowsP_take {js : List Jb} {a i : Nat} (h : i < js.length) : rowsP (js.take (i + 1)) a = rowsP (js.take i) a ++ (if liveJ js[i] = true then [firstRow a js[i]] else []) := by
  unfold rowsP
  rw [List.take_succ_eq_append_getElem h, List.filter_append, List.map_append]
  congr 1
  cases hl : liveJ js[i] <;> simp [hl]
noncomputable def rowZB : Bool := match tzero Tryz.prog 229 with
  | some z => z.cells.toList.all fun q => q.oneCell'
  | none => true
theorem rowZB_ok : rowZB = true := by kernel_rfl
theorem rowZero : ∀ z, tzero Tryz.prog 229 = some z → ∀ q ∈ z.cells.toList, q.oneCell' = true := by
  intro z hz q hq
  have h := rowZB_ok
  unfold rowZB at h
  rw [hz] at h
  exact List.all_eq_true.1 h q hq
set_option maxHeartbeats 8000000 in
theorem c_planRows (hG : Glob H) (hT : GlobT H) (js : List Jb) {a : Nat} (ha : a < 13569465600) (hjs : js.length ≤ 1000000) (hex : ∀ j ∈ js, j.ex.length ≤ 9223372036854775807) :
    ACalls Tryz.prog 174 [.sl (js.map fun j => jbAV j .no) .no, .sc (.int .i64 (a : Int))] H (fun v K => RawRowZ 24 H 229 ((rowsP js a).map prAV) v K) := by
  refine ACalls.into Tryz.func174 rfl Tryz.ntmps174 Tryz.results174 (by simp) ?_
  simp -implicitDefEqProofs
  refine AGo.roundsB 5 (fun μ ρ K => ∃ (i : Nat) (xs : List PRow) (A : Option Addr) (cap : Nat), μ = js.length - i ∧ i ≤ js.length ∧ xs = rowsP (js.take i) a ∧ xs.length ≤ i ∧ ρ 1 = .sc (.int .i64 (a : Int)) ∧ ρ 11 = .sl (js.map fun j => jbAV j .no) .no ∧ ρ 12 = .sc (.int .i64 (js.length : Int)) ∧ ρ 13 = .sc (.int .i64 (i : Int)) ∧ ρ 5 = .sc (.slice A xs.length cap) ∧ RawRowZ 24 H 229 (xs.map prAV) (.sc (.slice A xs.length cap)) K) ?_ (m := js.length) (by simp)
    ⟨0, [], none, 0, by omega, by omega, by simp [rowsP], by simp, by simp, by simp, by simp, by simp, by simp, RawRowZ.none⟩
  rintro μ ρ K ih ⟨i, xs, A, cap, rfl, hi, hxs, hxl, r1, r11, r12, r13, r5, hR⟩
  rcases Nat.lt_or_ge i js.length with hlt | hge
  · obtain ⟨j, hj, _⟩ := getAt hlt
    have hjx := hex j (by rw [← hj]; exact List.getElem_mem _)
    have hst := rowsP_take (a := a) hlt
    rw [hj, ← hxs] at hst
    have hw1 : IntKind.i64.wrap ((i : Int) + 1) = ((i + 1 : Nat) : Int) := wadd (b := 1) rfl (by omega)
    have kG := hG.le hR.1
    have kT := hT.wk hR.1
    simp -implicitDefEqProofs [r11, r12, r13, hlt, hj]
    refine AAlloc.intro fun b7 h7 => ?_
    simp -implicitDefEqProofs
    generalize hK : Heap.set K b7 _ = K1
    have q7 : K1 b7 = some (.cells (jbC j .no) 25) := by rw [← hK]; simp [Heap.set]
    have l1 : HLe K K1 := by rw [← hK]; exact HLe.set_fresh h7
    clear hK
    cases hp : j.pau with
    | true =>
      have hl : liveJ j = false := by unfold liveJ; rw [hp]; rfl
      rw [hl, if_neg (by simp), List.append_nil] at hst
      simp -implicitDefEqProofs [q7, hp, r13, hw1]
      exact AGo.again ih (m' := js.length - (i + 1)) (by omega) (HLe.refl _) ⟨i + 1, xs, A, cap, rfl, by omega, hst.symm, by omega, by simp [r1], by simp [r11], by simp [r12], by simp, by simp [r5], up_raw hR l1⟩
    | false =>
      have hmay := c_jobMay (kG.le l1) j .no (by omega)
      unfold jbAV jbC at hmay
      rw [hp] at hmay
      simp -implicitDefEqProofs [q7, hp]
      first | refine ACall.eq hmay ?_ | refine AQS.eq hmay ?_
      by_cases hm : mayJ j = 0
      · have hl : liveJ j = true := by unfold liveJ; rw [hp, hm]; rfl
        rw [hl, if_pos rfl] at hst
        have hcp := c_cronParse (kG.le l1) j.ex (by omega)
        have hxo := cronK_lt j.ex
        have hxm := cronK_may (live_ex hm)
        obtain ⟨fr, hfr⟩ : ∃ r, firstRow a j = r := ⟨_, rfl⟩
        rw [hfr] at hst
        unfold firstRow at hfr
        generalize (cronK j.ex).1 = x at *
        simp -implicitDefEqProofs [hm, q7]
        refine ACall.eq hcp ?_
        simp -implicitDefEqProofs
        refine AAlloc.intro fun b8 h8 => ?_
        have n78 : b7 ≠ b8 := by intro e; subst e; rw [q7] at h8; cases h8
        simp -implicitDefEqProofs [n78, q7, r1]
        have l2 : ∀ o, HLe K (K1.set b8 o) := fun o => l1.trans (HLe.set_fresh h8)
        generalize hK2 : Heap.set K1 b8 _ = K2
        have l2 : HLe K K2 := by rw [← hK2]; exact l2 _
        clear hK2
        refine AAlloc.intro fun b10 h10 => ?_
        simp -implicitDefEqProofs
        generalize hK : Heap.set K2 b10 _ = K3
        have q10 : K3 b10 = some (.cells (rowC ⟨j, x, a, false⟩ .no) 229) := by rw [← hK]; simp [Heap.set]
        have l3 : HLe K2 K3 := by rw [← hK]; exact HLe.set_fresh h10
        clear hK
        refine ACall.eq (c_steps (kT.wk (l2.trans l3)) q10 hxo hxm ha rfl (nextOf_is x a)) ?_
        have l4 : HLe K (K3.set b10 (.cells (rowC fr .no) 229)) := l2.trans (HLe.set_new l3 h10)
        rw [hfr]
        simp -implicitDefEqProofs [r5]
        have hsz : szs 24 (xs.map prAV) = true := szs_map (f := prAV) (fun _ => rfl) _
        refine ACall.intro (app_rawZ (by decide) (e := 229) el_226 rowZero (up_raw hR l4) hsz (y := prAV fr) rfl (by simp; omega) (by simp [maxLen]; omega)) fun v' K' hR' => ?_
        have ex : (xs.map prAV) ++ [prAV fr] = (xs ++ [fr]).map prAV := by simp
        rw [ex] at hR'
        obtain ⟨A', cap', rfl⟩ := form_raw hR'
        rw [List.length_map] at hR'
        simp -implicitDefEqProofs [r13, hw1]
        exact AGo.again ih (m' := js.length - (i + 1)) (by omega) (HLe.refl _) ⟨i + 1, xs ++ [fr], A', cap', rfl, by omega, hst.symm, by simp; omega, by simp [r1], by simp [r11], by simp [r12], by simp, by simp, hR'⟩
      · have hl : liveJ j = false := by unfold liveJ; rw [hp]; simp [hm]
        rw [hl, if_neg (by simp), List.append_nil] at hst
        simp -implicitDefEqProofs [q7, hp, r13, hw1, hm]
        exact AGo.again ih (m' := js.length - (i + 1)) (by omega) (HLe.refl _) ⟨i + 1, xs, A, cap, rfl, by omega, hst.symm, by omega, by simp [r1], by simp [r11], by simp [r12], by simp, by simp [r5], up_raw hR l1⟩
  · have hn : ¬ i < js.length := by omega
    rw [List.take_of_length_le hge] at hxs
    subst hxs
    simp -implicitDefEqProofs [r5, r12, r13, hn]
    exact ⟨_, _, wk_refl _, HWk.refl _, hR⟩
end Go.Proofs.YtmoncokklkiikaaGreatDoor
namespace Go.Proofs.YtmoncokklkiikaaGreatDoor
open Rg Go
variable {H : Heap}
def ahead (rs : List PRow) (tt : Int) (r : PRow) (b : Option Nat) : Bool :=
  !r.over && decide (r.at_ ≤ tt) && (match b with | none => true | some k => match rs[k]? with | none => false | some q => decide (r.at_ < q.at_))
def bestGo (rs : List PRow) (tt : Int) : Nat → Option Nat → Option Nat
  | 0, b => b
  | m + 1, b => bestGo rs tt m (match rs[rs.length - (m + 1)]? with
    | none => b
    | some r => if ahead rs tt r b = true then some (rs.length - (m + 1)) else b)
def bestI (b : Option Nat) : Int := match b with | none => -1 | some k => (k : Int)
theorem row_cells (rs : List PRow) (zs : List AV) {i : Nat} (h : i < rs.length) : (((rs.map prAV).flatMap AV.cells ++ zs).drop (i * 24)).take 24 = rowC rs[i] .no := by
  have hlen : ∀ l : List PRow, ((l.map prAV).flatMap AV.cells).length = l.length * 24 := fun l => by
    rw [flat_length (szs_spec (szs_map (f := prAV) (sz := 24) (fun _ => rfl) l)), List.length_map]
  have es : rs.map prAV = (rs.take i).map prAV ++ prAV rs[i] :: (rs.drop (i + 1)).map prAV := by
    rw [← List.map_cons, ← List.drop_eq_getElem_cons h, ← List.map_append, List.take_append_drop]
  rw [es, List.flatMap_append, List.flatMap_cons, List.append_assoc, List.append_assoc, List.drop_left' (by rw [hlen, List.length_take]; congr 1; omega)]
  exact List.take_left' (l₁ := rowC rs[i] .no) rfl
theorem rows_len (rs : List PRow) (zs : List AV) : rs.length * 24 ≤ ((rs.map prAV).flatMap AV.cells ++ zs).length := by
  rw [List.length_append, flat_length (szs_spec (szs_map (f := prAV) (sz := 24) (fun _ => rfl) rs)), List.length_map]
  omega
set_option maxHeartbeats 4000000 in
theorem c_planFirst {b0 b1 g cap : Nat} {rs : List PRow} {zs : List AV} {tt : Int} (hrs : rs.length ≤ 1000000) (h0 : H b0 = some (.cells [.sc (.slice (some ⟨g, 0, none⟩) rs.length cap)] 226)) (h1 : H b1 = some (.cells [.sc (.int .i64 tt)] 2))
    (hg : H g = some (.cells ((rs.map prAV).flatMap AV.cells ++ zs) 229)) (hc : rs.length ≤ cap) :
    AOk Tryz.prog 175 [ptr b0, ptr b1] H (.sc (.int .i64 (bestI (bestGo rs tt rs.length none)))) H := by
  have hrowF := fun i h => row_cells rs zs (i := i) h
  have hFl := rows_len rs zs
  generalize (rs.map prAV).flatMap AV.cells ++ zs = F at *
  refine ACalls.into Tryz.func175 rfl Tryz.ntmps175 Tryz.results175 (by simp) ?_
  simp -implicitDefEqProofs [h0]
  refine AGo.rounds (fun μ ρ K => ∃ (i : Nat) (b : Option Nat), μ = rs.length - i ∧ i ≤ rs.length ∧ bestGo rs tt (rs.length - i) b = bestGo rs tt rs.length none ∧ (∀ k, b = some k → k < rs.length) ∧ ρ 0 = ptr b0 ∧ ρ 1 = ptr b1 ∧ ρ 3 = .sc (.int .i64 (bestI b)) ∧
    ρ 6 = .sc (.slice (some ⟨g, 0, none⟩) rs.length cap) ∧ ρ 7 = .sc (.int .i64 (rs.length : Int)) ∧ ρ 8 = .sc (.int .i64 (i : Int)) ∧ HLe H K) ?_ (m := rs.length) (HLe.refl _)
    ⟨0, none, by omega, by omega, by simp, by simp, by simp, by simp, by simp [bestI], by simp, by simp, by simp, HLe.refl _⟩
  rintro μ ρ K ih ⟨i, b, rfl, hi, hgo, hb, r0, r1, r3, r6, r7, r8, hle⟩
  have q0 := hle _ _ h0
  have q1 := hle _ _ h1
  have qg := hle _ _ hg
  rcases Nat.lt_or_ge i rs.length with hlt | hge
  · obtain ⟨r, hr, _⟩ := getAt hlt
    have hrow := hrowF i hlt
    rw [hr] at hrow
    have hfit : i * 24 + 24 ≤ F.length := by omega
    have hwi : IntKind.i64.wrap ((i : Int) + 1) = ((i + 1 : Nat) : Int) := wadd (b := 1) rfl (by omega)
    have hst : bestGo rs tt (rs.length - (i + 1)) (if ahead rs tt r b = true then some i else b) = bestGo rs tt rs.length none := by
      obtain ⟨m, hm⟩ : ∃ m, rs.length - i = m + 1 := ⟨rs.length - i - 1, by omega⟩
      rw [hm, bestGo, show rs.length - (m + 1) = i by omega, List.getElem?_eq_getElem hlt, hr] at hgo
      rw [show rs.length - (i + 1) = m by omega]
      exact hgo
    simp -implicitDefEqProofs [r6, r7, r8, hlt, qg, hrow, hfit]
    refine AAlloc.intro fun b5 h5 => ?_
    simp -implicitDefEqProofs
    have hl2 : ∀ o, HLe H (K.set b5 o) := fun o => hle.trans (HLe.set_fresh h5)
    have n5 : ∀ {c : Nat} {o : AObj}, K c = some o → (c = b5) = False := fun hc => eq_false (by rintro rfl; rw [h5] at hc; cases hc)
    have n05 := n5 q0
    have n15 := n5 q1
    have ng5 := n5 qg
    refine go_draw 23 f_mixed (by decide +kernel) ?_
    cases b with
    | none =>
      cases ho : r.over with
      | true =>
        have hah : ahead rs tt r none = false := by unfold ahead; rw [ho]; rfl
        rw [hah, if_neg (by simp)] at hst
        simp -implicitDefEqProofs [ho, r3, bestI, r8, hwi]
        exact AGo.again ih (m' := rs.length - (i + 1)) (by omega) (HLe.refl _) ⟨i + 1, none, rfl, by omega, hst, by simp, by simp [r0], by simp [r1], by simp [r3, bestI], by simp [r6], by simp [r7], by simp, hl2 _⟩
      | false =>
        by_cases hle' : r.at_ ≤ tt
        · have hah : ahead rs tt r none = true := by unfold ahead; rw [ho]; simp [hle']
          rw [hah, if_pos rfl] at hst
          simp -implicitDefEqProofs [ho, r1, q1, n15, hle', r3, bestI, r8, hwi]
          exact AGo.again ih (m' := rs.length - (i + 1)) (by omega) (HLe.refl _) ⟨i + 1, some i, rfl, by omega, hst, fun k hk => by cases hk; exact hlt, by simp [r0], by simp [r1], by simp [bestI], by simp [r6], by simp [r7], by simp, hl2 _⟩
        · have hah : ahead rs tt r none = false := by unfold ahead; rw [ho]; simp [hle']
          rw [hah, if_neg (by simp)] at hst
          simp -implicitDefEqProofs [ho, r1, q1, n15, hle', r3, bestI, r8, hwi]
          exact AGo.again ih (m' := rs.length - (i + 1)) (by omega) (HLe.refl _) ⟨i + 1, none, rfl, by omega, hst, by simp, by simp [r0], by simp [r1], by simp [r3, bestI], by simp [r6], by simp [r7], by simp, hl2 _⟩
    | some k =>
      have hk := hb k rfl
      obtain ⟨q, hq, hq'⟩ := getAt hk
      have hrk := hrowF k hk
      rw [hq] at hrk
      have hat : F[k * 24 + 22]? = some (.sc (.int .i64 q.at_)) := by
        have := congrArg (fun l => l[22]?) hrk
        simpa [List.getElem?_take, List.getElem?_drop] using this
      have hk0 : ¬ (k : Int) < 0 := by omega
      cases ho : r.over with
      | true =>
        have hah : ahead rs tt r (some k) = false := by unfold ahead; rw [ho]; rfl
        rw [hah, if_neg (by simp)] at hst
        simp -implicitDefEqProofs [ho, r3, bestI, r8, hwi]
        exact AGo.again ih (m' := rs.length - (i + 1)) (by omega) (HLe.refl _) ⟨i + 1, some k, rfl, by omega, hst, hb, by simp [r0], by simp [r1], by simp [r3, bestI], by simp [r6], by simp [r7], by simp, hl2 _⟩
      | false =>
        by_cases hle' : r.at_ ≤ tt
        · by_cases hlt' : r.at_ < q.at_
          · have hah : ahead rs tt r (some k) = true := by unfold ahead; rw [ho]; simp [hle', hq', hlt', hk, hq]
            rw [hah, if_pos rfl] at hst
            simp -implicitDefEqProofs [ho, r0, r1, q0, q1, n05, n15, ng5, qg, hle', r3, bestI, r8, hwi, hk, hk0, hat, hlt']
            exact AGo.again ih (m' := rs.length - (i + 1)) (by omega) (HLe.refl _) ⟨i + 1, some i, rfl, by omega, hst, fun k hk => by cases hk; exact hlt, by simp [r0], by simp [r1], by simp [bestI], by simp [r6], by simp [r7], by simp, hl2 _⟩
          · have hah : ahead rs tt r (some k) = false := by unfold ahead; rw [ho]; simp [hle', hq', hlt', hk, hq]
            rw [hah, if_neg (by simp)] at hst
            simp -implicitDefEqProofs [ho, r0, r1, q0, q1, n05, n15, ng5, qg, hle', r3, bestI, r8, hwi, hk, hk0, hat, hlt']
            exact AGo.again ih (m' := rs.length - (i + 1)) (by omega) (HLe.refl _) ⟨i + 1, some k, rfl, by omega, hst, hb, by simp [r0], by simp [r1], by simp [r3, bestI], by simp [r6], by simp [r7], by simp, hl2 _⟩
        · have hah : ahead rs tt r (some k) = false := by unfold ahead; rw [ho]; simp [hle']
          rw [hah, if_neg (by simp)] at hst
          simp -implicitDefEqProofs [ho, r1, q1, n15, hle', r3, bestI, r8, hwi]
          exact AGo.again ih (m' := rs.length - (i + 1)) (by omega) (HLe.refl _) ⟨i + 1, some k, rfl, by omega, hst, hb, by simp [r0], by simp [r1], by simp [r3, bestI], by simp [r6], by simp [r7], by simp, hl2 _⟩
  · have hn : ¬ i < rs.length := by omega
    have e : rs.length - i = 0 := by omega
    rw [e] at hgo
    have hgo' : b = bestGo rs tt rs.length none := hgo
    rw [← hgo']
    simp -implicitDefEqProofs [r3, r7, r8, hn]
    exact hle.wk
end Go.Proofs.YtmoncokklkiikaaGreatDoor
namespace Go.Proofs.YtmoncokklkiikaaGreatDoor
open Rg Go
def liveR (tt : Int) (r : PRow) : Prop := r.over = false ∧ r.at_ ≤ tt
def BestR (rs : List PRow) (tt : Int) (i : Nat) : Option Nat → Prop
  | none => ∀ (j : Nat) (q : PRow), j < i → rs[j]? = some q → ¬ liveR tt q
  | some k => k < i ∧ ∃ r, rs[k]? = some r ∧ liveR tt r ∧ ∀ (j : Nat) (q : PRow), j < i → rs[j]? = some q → liveR tt q → r.at_ ≤ q.at_ ∧ (j < k → r.at_ < q.at_)
theorem best_step {rs : List PRow} {tt : Int} {i : Nat} {r : PRow} {b : Option Nat} (hr : rs[i]? = some r) (h : BestR rs tt i b) : BestR rs tt (i + 1) (if ahead rs tt r b = true then some i else b) := by
  cases b with
  | none =>
    by_cases hl : liveR tt r
    · have ha : ahead rs tt r none = true := by unfold ahead; simp [hl.1, hl.2]
      rw [ha, if_pos rfl]
      refine ⟨by omega, r, hr, hl, fun j q hj hq hlq => ?_⟩
      by_cases hji : j = i
      · subst hji; rw [hr] at hq; cases hq; exact ⟨by omega, fun h => by omega⟩
      · exact absurd hlq (h j q (by omega) hq)
    · have ha : ahead rs tt r none = false := by
        unfold ahead liveR at *
        cases ho : r.over
        · have : ¬ r.at_ ≤ tt := fun h => hl ⟨ho, h⟩
          simp [this]
        · rfl
      rw [ha, if_neg (by simp)]
      intro j q hj hq
      by_cases hji : j = i
      · subst hji; rw [hr] at hq; cases hq; exact hl
      · exact h j q (by omega) hq
  | some k =>
    obtain ⟨hk, p, hp, hlp, hall⟩ := h
    by_cases hl : liveR tt r ∧ r.at_ < p.at_
    · have ha : ahead rs tt r (some k) = true := by unfold ahead; simp [hl.1.1, hl.1.2, hp, hl.2]
      rw [ha, if_pos rfl]
      refine ⟨by omega, r, hr, hl.1, fun j q hj hq hlq => ?_⟩
      by_cases hji : j = i
      · subst hji; rw [hr] at hq; cases hq; exact ⟨by omega, fun h => by omega⟩
      · have := (hall j q (by omega) hq hlq).1
        have := hl.2
        exact ⟨by omega, fun _ => by omega⟩
    · have ha : ahead rs tt r (some k) = false := by
        unfold ahead liveR at *
        cases ho : r.over
        · by_cases h1 : r.at_ ≤ tt
          · have : ¬ r.at_ < p.at_ := fun h => hl ⟨⟨ho, h1⟩, h⟩
            simp only [hp, this, decide_false, Bool.and_false]
          · simp [h1]
        · rfl
      rw [ha, if_neg (by simp)]
      refine ⟨by omega, p, hp, hlp, fun j q hj hq hlq => ?_⟩
      by_cases hji : j = i
      · subst hji
        rw [hr] at hq
        cases hq
        have : ¬ r.at_ < p.at_ := fun h => hl ⟨hlq, h⟩
        exact ⟨by omega, fun h => by omega⟩
      · exact hall j q (by omega) hq hlq
theorem bestGo_is {rs : List PRow} {tt : Int} : ∀ (m : Nat) (b : Option Nat), m ≤ rs.length → BestR rs tt (rs.length - m) b → BestR rs tt rs.length (bestGo rs tt m b)
  | 0, b, _, h => h
  | m + 1, b, hm, h => by
    have hlt : rs.length - (m + 1) < rs.length := by omega
    rw [bestGo, List.getElem?_eq_getElem hlt]
    refine bestGo_is m _ (by omega) ?_
    have := best_step (List.getElem?_eq_getElem hlt) h
    rw [show rs.length - m = rs.length - (m + 1) + 1 by omega]
    exact this
theorem best_all (rs : List PRow) (tt : Int) : BestR rs tt rs.length (bestGo rs tt rs.length none) :=
  bestGo_is rs.length none (Nat.le_refl _) (fun j q hj _ => by omega)
end Go.Proofs.YtmoncokklkiikaaGreatDoor
namespace Go.Proofs.YtmoncokklkiikaaGreatDoor
open Rg Go
variable {H : Heap}
def jb0 : Jb := ⟨0, [], [], 0, 0, 0, 0, 0, [], false, 0, 0⟩
def restR (tt : Nat) (r : PRow) : List Nat := if r.over = false ∧ r.at_ ≤ (tt : Int) then r.at_.toNat :: firesL r.x r.at_.toNat tt else []
structure RowOk (r : PRow) : Prop where
  ok : r.x.ok
  may : mayX r.x = true
  nat : ∃ a : Nat, r.at_ = (a : Int) ∧ a < 13569465600
theorem RowOk.next {r : PRow} (h : RowOk r) {a : Nat} {n : Option Nat} (hn : IsNext r.x a n) : RowOk (r.next n) := by
  refine ⟨h.ok, h.may, optN n, rfl, ?_⟩
  cases n with
  | none => simp [optN]
  | some t => exact hn.2.1
theorem rest_next {r : PRow} {tt a : Nat} (ht : tt < 13569465600) {n : Option Nat} (hn : IsNext r.x a n) : restR tt (r.next n) = firesL r.x a tt := by
  cases n with
  | none =>
    rw [fires_over (by omega) hn (fun t h => by cases h)]
    rfl
  | some t =>
    by_cases h : t ≤ tt
    · rw [fires_next hn (by omega)]
      unfold restR PRow.next
      simp only [optN, Option.isNone_some, Int.toNat_natCast, true_and]
      rw [if_pos (by omega)]
    · rw [fires_over (by omega) hn (fun u hu => by cases hu; omega)]
      unfold restR PRow.next
      simp only [optN, Option.isNone_some, Int.toNat_natCast, true_and]
      rw [if_neg (by omega)]
theorem rest_sorted {r : PRow} {tt : Nat} : (restR tt r).Pairwise (· < ·) := by
  unfold restR
  split
  · refine List.pairwise_cons.2 ⟨fun u hu => ?_, fires_sorted _ _ _⟩
    have := (fires_mem.1 hu).2.1
    omega
  · exact List.Pairwise.nil
theorem rest_live {r : PRow} {tt u : Nat} {Q : List Nat} (h : restR tt r = u :: Q) (hr : RowOk r) : liveR tt r ∧ r.at_ = (u : Int) := by
  unfold restR at h
  split at h
  · rename_i h1
    obtain ⟨a, ha, _⟩ := hr.nat
    rw [List.cons.injEq] at h
    exact ⟨h1, by omega⟩
  · cases h
theorem best_none {rs : List PRow} {tt : Nat} (h : BestR rs tt rs.length none) : ∀ R ∈ rs.map (restR tt), R = [] := by
  intro R hR
  obtain ⟨r, hr, rfl⟩ := List.mem_map.1 hR
  obtain ⟨i, hi, e⟩ := List.mem_iff_getElem.1 hr
  have := h i r hi (by rw [List.getElem?_eq_getElem hi, e])
  exact if_neg this
theorem best_some {rs : List PRow} {tt k : Nat} (hok : ∀ r ∈ rs, RowOk r) (h : BestR rs tt rs.length (some k)) :
    ∃ r, rs[k]? = some r ∧ r.at_.toNat ≤ tt ∧ IsPick (rs.map (restR tt)) k r.at_.toNat (firesL r.x r.at_.toNat tt) := by
  obtain ⟨hk, r, hr, hl, hall⟩ := h
  obtain ⟨a, ha, _⟩ := (hok r (List.mem_of_getElem? hr)).nat
  have hla := hl.2
  refine ⟨r, hr, by omega, ⟨by rw [List.getElem?_map, hr]; exact congrArg some (if_pos hl), fun k' u Q hq => ?_⟩⟩
  rw [List.getElem?_map] at hq
  obtain ⟨q, hq1, hq2⟩ := Option.map_eq_some_iff.1 hq
  obtain ⟨hlq, hu⟩ := rest_live hq2 (hok q (List.mem_of_getElem? hq1))
  have := hall k' q (List.getElem?_eq_some_iff.1 hq1).1 hq1 hlq
  omega
def restJ (a tt : Nat) (j : Jb) : List Nat := if liveJ j = true then firesL (cronK j.ex).1 a tt else []
def planL (js : List Jb) (a tt : Nat) : List PIt := putAll 0 [] (js.map (restJ a tt))
theorem restJ_sorted (a tt : Nat) (j : Jb) : (restJ a tt j).Pairwise (· < ·) := by
  unfold restJ
  split
  · exact fires_sorted _ _ _
  · exact List.Pairwise.nil
theorem planL_merged (js : List Jb) (a tt : Nat) : Merged (js.map (restJ a tt)) (planL js a tt) := merged_put fun R hR => by
  obtain ⟨j, _, rfl⟩ := List.mem_map.1 hR
  exact restJ_sorted a tt j
theorem live_row {j : Jb} {a : Nat} (ha : a < 13569465600) (h : liveJ j = true) : RowOk (firstRow a j) := by
  have hm : mayJ j = 0 := by unfold liveJ at h; simp at h; exact h.2
  exact RowOk.next (r := ⟨j, (cronK j.ex).1, a, false⟩) ⟨cronK_lt j.ex, cronK_may (live_ex hm), a, rfl, ha⟩ (nextOf_is _ a)
theorem rows_ok {js : List Jb} {a : Nat} (ha : a < 13569465600) : ∀ r ∈ rowsP js a, RowOk r := fun r hr => by
  obtain ⟨j, hj, rfl⟩ := List.mem_map.1 hr
  exact live_row ha (List.mem_filter.1 hj).2
theorem rows_jobs (js : List Jb) (a : Nat) : (rowsP js a).map PRow.j = js.filter liveJ := by
  unfold rowsP
  rw [List.map_map]
  exact List.map_id' _
theorem rows_rest (js : List Jb) {a tt : Nat} (ht : tt < 13569465600) : (rowsP js a).map (restR tt) = (js.filter liveJ).map (restJ a tt) := by
  unfold rowsP
  rw [List.map_map]
  refine List.map_congr_left fun j hj => ?_
  have hl := (List.mem_filter.1 hj).2
  unfold restJ
  rw [if_pos hl]
  exact rest_next (r := ⟨j, (cronK j.ex).1, a, false⟩) ht (nextOf_is _ a)
def liveIx (js : List Jb) : List Nat := (List.range js.length).filter fun i => liveJ (js.getD i jb0)
theorem liveIx_sorted (js : List Jb) : (liveIx js).Pairwise (· < ·) := List.Pairwise.filter _ List.pairwise_lt_range
theorem filter_ix : ∀ js : List Jb, js.filter liveJ = ((List.range js.length).filter fun i => liveJ (js.getD i jb0)).map fun i => js.getD i jb0 := fun js => by
  have h : js = (List.range js.length).map fun i => js.getD i jb0 := by
    refine List.ext_getElem (by simp) fun i h1 h2 => ?_
    simp [h1]
  conv => lhs; rw [h, List.filter_map]
  rfl
theorem live_at {js : List Jb} {k : Nat} (hk : k < (liveIx js).length) : (js.filter liveJ)[k]? = some (js.getD (liveIx js)[k] jb0) := by
  rw [filter_ix]
  show ((liveIx js).map _)[k]? = _
  rw [List.getElem?_map, List.getElem?_eq_getElem hk, Option.map_some]
theorem live_len (js : List Jb) : (js.filter liveJ).length = (liveIx js).length := by
  conv => lhs; rw [filter_ix]
  rw [List.length_map]; rfl
theorem liveIx_lt {js : List Jb} {k : Nat} (hk : k < (liveIx js).length) : (liveIx js)[k] < js.length ∧ liveJ (js.getD (liveIx js)[k] jb0) = true := by
  have := List.getElem_mem hk
  obtain ⟨h1, h2⟩ := List.mem_filter.1 this
  exact ⟨List.mem_range.1 h1, h2⟩
theorem mono_ix {L : List Nat} (h : L.Pairwise (· < ·)) {i k : Nat} (hik : i < k) (hk : k < L.length) : L.getD i 0 < L.getD k 0 := by
  rw [List.getD_eq_getElem?_getD, List.getD_eq_getElem?_getD, List.getElem?_eq_getElem hk, List.getElem?_eq_getElem (by omega)]
  exact List.pairwise_iff_getElem.1 h i k (by omega) hk hik
theorem merged_lift {js : List Jb} {a tt : Nat} {M : List PIt} (h : Merged ((js.filter liveJ).map (restJ a tt)) M) : M.map (fun z => (z.1, (liveIx js).getD z.2 0)) = planL js a tt := by
  have hlt : ∀ z ∈ M, z.2 < (liveIx js).length := fun ⟨t, i⟩ hz => by
    obtain ⟨R, hR, _⟩ := (h.mem t i).1 hz
    have := (List.getElem?_eq_some_iff.1 hR).1
    rwa [List.length_map, live_len] at this
  have hgd : ∀ {k : Nat} (hk : k < (liveIx js).length), (liveIx js).getD k 0 = (liveIx js)[k] := fun hk => by
    rw [List.getD_eq_getElem?_getD, List.getElem?_eq_getElem hk]; rfl
  refine Merged.one (Rs := js.map (restJ a tt)) ⟨?_, fun t i => ?_⟩ (planL_merged js a tt)
  · rw [List.pairwise_map]
    refine List.Pairwise.imp_of_mem (fun {z w} hz hw hzw => ?_) h.srt
    rcases hzw with h1 | ⟨h1, h2⟩
    · exact .inl h1
    · exact .inr ⟨h1, mono_ix (liveIx_sorted js) h2 (hlt w hw)⟩
  · rw [List.mem_map]
    constructor
    · rintro ⟨⟨u, k⟩, hz, e⟩
      cases e
      have hk := hlt _ hz
      obtain ⟨R, hR, ht⟩ := (h.mem u k).1 hz
      rw [List.getElem?_map, live_at hk, Option.map_some] at hR
      cases hR
      simp only at hk
      refine ⟨_, ?_, ht⟩
      rw [hgd hk, List.getElem?_map, List.getElem?_eq_getElem (liveIx_lt hk).1, Option.map_some]
      simp [(liveIx_lt hk).1]
    · rintro ⟨R, hR, ht⟩
      rw [List.getElem?_map] at hR
      obtain ⟨j, hj, rfl⟩ := Option.map_eq_some_iff.1 hR
      obtain ⟨hi, hj'⟩ := List.getElem?_eq_some_iff.1 hj
      have hd : js.getD i jb0 = j := by rw [List.getD_eq_getElem?_getD, hj]; rfl
      have hl : liveJ j = true := by
        refine Classical.byContradiction fun hn => ?_
        unfold restJ at ht
        rw [if_neg hn] at ht
        cases ht
      have hm : i ∈ liveIx js := List.mem_filter.2 ⟨List.mem_range.2 hi, by rw [hd]; exact hl⟩
      obtain ⟨k, hk, e⟩ := List.mem_iff_getElem.1 hm
      refine ⟨(t, k), (h.mem t k).2 ⟨restJ a tt j, ?_, ht⟩, by simp only [hgd hk, e]⟩
      rw [List.getElem?_map, live_at hk, e, hd]
      rfl
def jobOf (js : List Jb) (i : Nat) : Jb := js.getD i jb0
theorem merged_jobs {js : List Jb} {a tt : Nat} {M : List PIt} (h : Merged ((js.filter liveJ).map (restJ a tt)) M) : M.map (fun z => (z.1, (js.filter liveJ).getD z.2 jb0)) = (planL js a tt).map fun z => (z.1, jobOf js z.2) := by
  rw [← merged_lift h, List.map_map]
  refine List.map_congr_left fun ⟨t, k⟩ hz => ?_
  obtain ⟨R, hR, _⟩ := (h.mem t k).1 hz
  have hk := (List.getElem?_eq_some_iff.1 hR).1
  rw [List.length_map, live_len] at hk
  have e : (liveIx js).getD k 0 = (liveIx js)[k] := by rw [List.getD_eq_getElem?_getD, List.getElem?_eq_getElem hk]; rfl
  simp only [Function.comp_apply, List.getD_eq_getElem?_getD (l := js.filter liveJ), live_at hk, e, Option.getD_some, jobOf]
theorem plan_mem {js : List Jb} {a tt : Nat} {z : PIt} (h : z ∈ planL js a tt) : z.2 < js.length ∧ liveJ (jobOf js z.2) = true ∧ z.1 ∈ firesL (cronK (jobOf js z.2).ex).1 a tt := by
  obtain ⟨t, i⟩ := z
  obtain ⟨R, hR, ht⟩ := ((planL_merged js a tt).mem t i).1 h
  rw [List.getElem?_map] at hR
  obtain ⟨j, hj, rfl⟩ := Option.map_eq_some_iff.1 hR
  have hd : jobOf js i = j := by unfold jobOf; rw [List.getD_eq_getElem?_getD, hj]; rfl
  unfold restJ at ht
  split at ht
  · rename_i hl
    simp only
    rw [hd]
    exact ⟨(List.getElem?_eq_some_iff.1 hj).1, hl, ht⟩
  · cases ht
theorem plan_le {js : List Jb} {a tt : Nat} {z : PIt} (h : z ∈ planL js a tt) : z.1 ≤ tt ∧ a < z.1 := by
  have := fires_mem.1 (plan_mem h).2.2
  omega
def itemOf (js : List Jb) (z : PIt) : PI := ⟨z.1, (jobOf js z.2).id, z.2, (jobOf js z.2).tim.toNat, (jobOf js z.2).lim⟩
theorem live_bad {j : Jb} (h : liveJ j = true) : badJ j = false ∧ j.deps.length ≤ 8 := by
  have hm : mayJ j = 0 := by unfold liveJ at h; simp at h; exact h.2
  unfold mayJ at hm
  split at hm
  · cases hm
  · split at hm
    · cases hm
    · split at hm
      · rename_i hc; exact absurd hm hc
      · split at hm
        · cases hm
        · split at hm
          · cases hm
          · rename_i h1 h2
            exact ⟨by simpa using h2, by omega⟩
theorem live_tim {j : Jb} (h : liveJ j = true) : 1 ≤ j.tim ∧ j.tim ≤ 86400 ∧ 1 ≤ j.lim ∧ j.lim ≤ 8 := by
  have := (live_bad h).1
  unfold badJ at this
  simp only [Bool.or_eq_false_iff, decide_eq_false_iff_not] at this
  omega
theorem planItem_ok {js : List Jb} {a tt : Nat} (ht : tt < 13569465600) {z : PIt} (h : z ∈ planL js a tt) : (itemOf js z).ok := by
  have h1 := plan_le h
  have h2 := live_tim (plan_mem h).2.1
  unfold PI.ok itemOf
  simp only
  omega
end Go.Proofs.YtmoncokklkiikaaGreatDoor
