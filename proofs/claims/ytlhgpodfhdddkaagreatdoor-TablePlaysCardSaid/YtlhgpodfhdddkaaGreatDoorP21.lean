/- slices.Sort at numbers of 64 bits: the partition of what is equal. slices.Sort at numbers of 64 bits: the pivot; rows that are sorted already. slices.Sort at numbers of 64 bits: rows that are sorted already; random exchanges. slices.Sort at numbers of 64 bits: random exchanges. The parts of pdqsort, plainly, whatever was exchanged. -/
import Derived.Test.YtlhgpodfhdddkaaGreatDoorP20
import Derived.Laws.BitsAllLaws
set_option linter.unusedSimpArgs false
set_option linter.unusedVariables false
set_option linter.unnecessarySimpa false
namespace Go.Proofs.YtlhgpodfhdddkaaGreatDoor
open Rg Go Go.RowKit
variable {H : Heap}
set_option maxHeartbeats 8000000 in
theorem c_partEq {b n cap : Nat} {T : TypeId} {rest : List AV} {d : Array Nat} (hn : d.size = n) (a j0 pv : Nat) (haj : a < j0) (hj : j0 ≤ n) (hpa : a ≤ pv) (hpj : pv < j0) (hl : n ≤ 1000000) (h : H b = some (rowC T d rest)) :
    AOk Tryz.prog 95 [slV b n cap, .sc (.int .i64 (a : Int)), .sc (.int .i64 (j0 : Int)), .sc (.int .i64 (pv : Int))] H
      (.sc (.int .i64 ((Go.Sort.partitionEqual ltN d a j0 pv).1 : Int))) (H.set b (rowC T (Go.Sort.partitionEqual ltN d a j0 pv).2 rest)) := by
  obtain ⟨F, hF⟩ : ∃ F, Go.Sort.partitionEqual ltN d a j0 pv = F := ⟨_, rfl⟩
  rw [hF]
  refine ACalls.into Tryz.func95 rfl Tryz.ntmps95 Tryz.results95 (by simp) ?_
  obtain ⟨hi, hhi⟩ : ∃ x, j0 - 1 = x := ⟨_, rfl⟩
  unfold Go.Sort.partitionEqual at hF
  rw [hhi] at hF
  obtain ⟨d1, hd1⟩ : ∃ d1, Go.Sort.swp d a pv = d1 := ⟨_, rfl⟩
  have hd1n : d1.size = n := by rw [← hd1, swp_size]; exact hn
  rw [hd1] at hF
  have y1 : IntKind.i64.wrap ((j0 : Int) - 1) = (hi : Int) := by rw [wrap_i64 (by omega) (by omega)]; omega
  have y2 : IntKind.i64.wrap ((a : Int) + 1) = ((a + 1 : Nat) : Int) := by rw [wrap_i64 (by omega) (by omega)]; omega
  generalize hR : ROk _ _ = R
  have n0 : a < n := by omega
  have n1 : pv < n := by omega
  have s0 : a < d.size := by omega
  have s1 : pv < d.size := by omega
  have g0 := row_get (rest := rest) s0
  have g1 := row_get (rest := rest) s1
  obtain ⟨x0, hx0⟩ : ∃ x, d[a]! = x := ⟨_, rfl⟩
  obtain ⟨x1, hx1⟩ : ∃ x, d[pv]! = x := ⟨_, rfl⟩
  rw [hx0] at g0
  rw [hx1] at g1
  rw [← set_same h]
  simp -implicitDefEqProofs
  refine atRho fun ρ2 hρ2 => ?_
  have u0 : ρ2 0 = slV b n cap := by rw [hρ2]; simp []
  have u1 : ρ2 1 = .sc (.int .i64 (a : Int)) := by rw [hρ2]; simp []
  have u2 : ρ2 2 = .sc (.int .i64 (j0 : Int)) := by rw [hρ2]; simp []
  have u3 : ρ2 3 = .sc (.int .i64 (pv : Int)) := by rw [hρ2]; simp []
  clear hρ2
  have rs2 : ((d.toList.map uAV).set a (uAV x1) ++ rest).set pv (uAV x0) = (Go.Sort.swp d a pv).toList.map uAV ++ rest := swap_cells s0 s1 hx0 hx1
  have rs3 : ((d.toList.map uAV ++ rest).set a (uAV x1)).set pv (uAV x0) = (Go.Sort.swp d a pv).toList.map uAV ++ rest := swap_cells2 s0 s1 hx0 hx1
  have cI : a + 1 ≤ d.size + rest.length := by omega
  have cJ : pv + 1 ≤ d.size + rest.length := by omega
  refine go_draw3J (fun ρ' K' => ρ' 0 = ρ2 0 ∧ ρ' 1 = ρ2 1 ∧ ρ' 2 = ρ2 2 ∧ ρ' 3 = ρ2 3 ∧ K' = H.set b (rowC T (Go.Sort.swp d a pv) rest)) [0, 1, 2, 3, 4, 5, 6, 8, 9, 10] (fun _ => none) f_mixed (by decide +kernel) HC.nothing ?_ ?_
  · simp -implicitDefEqProofs
    repeat (refine aq3_op ?_; simp -implicitDefEqProofs [u0, u1, u2, u3, n0, n1])
    refine AWK.two 7 11 (by decide +kernel) ?_ ?_
    · refine AWE.op rfl ?_
      simp -implicitDefEqProofs [rd_row, g0, g1]
      refine AWK.one 11 (by decide +kernel) ?_
      refine AWE.op rfl ?_
      simp -implicitDefEqProofs [rd_row, g0, g1]
      refine AWK.one 12 (by decide +kernel) ?_
      refine AWE.op rfl ?_
      simp -implicitDefEqProofs [u0, u1, u2, u3, n0, n1]
      refine AWK.one 13 (by decide +kernel) ?_
      refine AWE.op rfl ?_
      simp -implicitDefEqProofs [st_row, cI]
      refine AWS.store (by simp [Heap.set]; exact ⟨rfl, rfl⟩) HC.nothing ?_
      simp only [lset]
      refine AWK.one 14 (by decide +kernel) ?_
      refine AWE.op rfl ?_
      simp -implicitDefEqProofs [u0, u1, u2, u3, n0, n1]
      refine AWK.one 15 (by decide +kernel) ?_
      refine AWE.op rfl ?_
      simp -implicitDefEqProofs [st_row, cJ]
      refine AWS.store (by simp [Heap.set]; exact ⟨rfl, rfl⟩) HC.nothing ?_
      simp only [lset]
      refine AWK.fin (by decide +kernel) ?_
      refine ⟨by simp [u0, u1, u2, u3, n0, n1], by simp [u0, u1, u2, u3, n0, n1], by simp [u0, u1, u2, u3, n0, n1], by simp [u0, u1, u2, u3, n0, n1], ?_⟩
      try rw [Heap.set_set]
      exact congrArg (fun x => H.set b (.cells x T)) (by first | exact rs2 | exact rs3)
    · refine AWE.op rfl ?_
      simp -implicitDefEqProofs [rd_row, g0, g1]
      refine AWK.one 7 (by decide +kernel) ?_
      refine AWE.op rfl ?_
      simp -implicitDefEqProofs [rd_row, g0, g1]
      refine AWK.one 12 (by decide +kernel) ?_
      refine AWE.op rfl ?_
      simp -implicitDefEqProofs [u0, u1, u2, u3, n0, n1]
      refine AWK.one 13 (by decide +kernel) ?_
      refine AWE.op rfl ?_
      simp -implicitDefEqProofs [st_row, cI]
      refine AWS.store (by simp [Heap.set]; exact ⟨rfl, rfl⟩) HC.nothing ?_
      simp only [lset]
      refine AWK.one 14 (by decide +kernel) ?_
      refine AWE.op rfl ?_
      simp -implicitDefEqProofs [u0, u1, u2, u3, n0, n1]
      refine AWK.one 15 (by decide +kernel) ?_
      refine AWE.op rfl ?_
      simp -implicitDefEqProofs [st_row, cJ]
      refine AWS.store (by simp [Heap.set]; exact ⟨rfl, rfl⟩) HC.nothing ?_
      simp only [lset]
      refine AWK.fin (by decide +kernel) ?_
      refine ⟨by simp [u0, u1, u2, u3, n0, n1], by simp [u0, u1, u2, u3, n0, n1], by simp [u0, u1, u2, u3, n0, n1], by simp [u0, u1, u2, u3, n0, n1], ?_⟩
      try rw [Heap.set_set]
      exact congrArg (fun x => H.set b (.cells x T)) (by first | exact rs2 | exact rs3)
  rintro ρ3 K3 ⟨h0, h1, h2, h3, rfl⟩
  rw [u0] at h0; rw [u1] at h1; rw [u2] at h2; rw [u3] at h3
  rw [hd1]
  clear rs2 rs3 cI cJ u0 u1 u2 u3 g0 g1 s0 s1 hx0 hx1 x0 x1
  simp -implicitDefEqProofs [h0, h1, h2, y1, y2]
  have na := n0
  refine AGo.rounds (fun m ρ K => ∃ (i j : Nat) (e : Array Nat), m = j + 1 - i ∧ a + 1 ≤ i ∧ i ≤ n ∧ j < n ∧ e.size = n ∧ Go.Sort.partEqLoop ltN a i j e = F ∧ ρ 0 = slV b n cap ∧ ρ 1 = .sc (.int .i64 (a : Int)) ∧ ρ 9 = .sc (.int .i64 (i : Int)) ∧ ρ 10 = .sc (.int .i64 (j : Int)) ∧ K = H.set b (rowC T e rest)) ?_ (m := hi + 1 - (a + 1)) (HLe.refl _)
    ⟨a + 1, hi, _, rfl, by omega, by omega, by omega, hd1n, hF, by simp [h0], by simp [h1], by simp, by simp, rfl⟩
  clear h0 h1 h2 h3 hF hd1n hd1 d1
  rintro m ρ6 K6 ihL ⟨i, j, e, rfl, hai, hin, hjn, hen, hF, v0, v1, v9, v10, rfl⟩
  rw [Go.Sort.partEqLoop] at hF
  obtain ⟨i2, hi2⟩ : ∃ x, Go.Sort.scanUp (fun x => !ltN e[a]! x) e j i = x := ⟨_, rfl⟩
  rw [hi2] at hF
  try dsimp only at hF
  obtain ⟨j2, hj2⟩ : ∃ x, Go.Sort.scanDown (fun x => ltN e[a]! x) e i2 j = x := ⟨_, rfl⟩
  rw [hj2] at hF
  try dsimp only at hF
  have bU := scanUp_ge (p := fun x => !ltN e[a]! x) (d := e) (j := j) _ i (Nat.le_refl _)
  have bD := scanDown_le (p := fun x => ltN e[a]! x) (d := e) (i := i2) j
  rw [hi2] at bU
  rw [hj2] at bD
  have za : a < e.size := by omega
  have ga := row_get (rest := rest) za
  obtain ⟨xa, hxa0⟩ : ∃ x, e[a]! = x := ⟨_, rfl⟩
  rw [hxa0] at ga
  simp -implicitDefEqProofs
  refine AGo.joinLoop (fun ρ K => ρ 0 = slV b n cap ∧ ρ 1 = .sc (.int .i64 (a : Int)) ∧ ρ 10 = .sc (.int .i64 (j : Int)) ∧ ρ 9 = .sc (.int .i64 (i2 : Int)) ∧ K = H.set b (rowC T e rest)) (fun k' hk' => ?_) ?_
  · refine AGo.rounds (fun m ρ K => ∃ x : Nat, m = j + 1 - x ∧ a + 1 ≤ x ∧ x ≤ n ∧ Go.Sort.scanUp (fun x => !ltN e[a]! x) e j x = i2 ∧ ρ 0 = slV b n cap ∧ ρ 1 = .sc (.int .i64 (a : Int)) ∧ ρ 10 = .sc (.int .i64 (j : Int)) ∧ ρ 9 = .sc (.int .i64 (x : Int)) ∧ K = H.set b (rowC T e rest)) ?_ (m := j + 1 - i) (HLe.refl _)
      ⟨i, rfl, by omega, by omega, hi2, by simp [v0, v1, v9, v10], by simp [v0, v1, v9, v10], by simp [v0, v1, v9, v10], by simp [v0, v1, v9, v10], rfl⟩
    clear v0 v1 v9 v10
    rintro m ρ K ih ⟨x, rfl, hxa, hxn, hs, r0, r1, rfix, rvar, rfl⟩
    rw [Go.Sort.scanUp] at hs
    simp -implicitDefEqProofs [r0, r1, rfix, rvar]
    first | refine go_draw 15 f_mixed (by decide +kernel) ?_ | refine go_draw 14 f_mixed (by decide +kernel) ?_ | refine go_draw 13 f_mixed (by decide +kernel) ?_
    by_cases hxj : x ≤ j
    · have hxj' : (x : Int) ≤ (j : Int) := by omega
      have w1 : IntKind.i64.wrap ((x : Int) + 1) = ((x + 1 : Nat) : Int) := by rw [wrap_i64 (by omega) (by omega)]; omega
      have nx : x < n := by omega
      have zx : x < e.size := by omega
      have gx := row_get (rest := rest) zx
      obtain ⟨x1, hx1⟩ : ∃ z, e[x]! = z := ⟨_, rfl⟩
      rw [hx1] at gx
      simp -implicitDefEqProofs [r0, r1, rfix, rvar, hxj', rd_row, ga, gx, na, nx]
      refine AQS.eq (c_less _ _) ?_
      by_cases hp : ltN xa x1 = true
      · rw [if_neg (by simp only [hx1, hxa0, hp]; simp)] at hs
        subst hs
        simp -implicitDefEqProofs [hp]
        exact hk' _ _ ⟨by simp [r0], by simp [r1], by simp [rfix], by simp [rvar], rfl⟩
      · have hp : ltN xa x1 = false := by simpa using hp
        rw [if_pos (by simp only [hx1, hxa0, hp]; simp; omega)] at hs
        simp -implicitDefEqProofs [hp, rvar, w1]
        exact AGo.again ih (m' := j + 1 - (x + 1)) (by omega) (HLe.refl _) ⟨x + 1, rfl, by omega, by omega, hs, by simp [r0], by simp [r1], by simp [rfix], by simp, rfl⟩
    · have hxj' : ¬ (x : Int) ≤ (j : Int) := by omega
      rw [if_neg (by simp; omega)] at hs
      subst hs
      simp -implicitDefEqProofs [r0, r1, rfix, rvar, hxj']
      exact hk' _ _ ⟨by simp [r0], by simp [r1], by simp [rfix], by simp [rvar], rfl⟩
  · rintro ρ4 K4 ⟨p0, p1, pJ, pI, rfl⟩
    simp -implicitDefEqProofs
    refine AGo.joinLoop (fun ρ K => ρ 0 = slV b n cap ∧ ρ 1 = .sc (.int .i64 (a : Int)) ∧ ρ 9 = .sc (.int .i64 (i2 : Int)) ∧ ρ 10 = .sc (.int .i64 (j2 : Int)) ∧ K = H.set b (rowC T e rest)) (fun k' hk' => ?_) ?_
    · refine AGo.rounds (fun m ρ K => ∃ x : Nat, m = x ∧ x < n ∧ Go.Sort.scanDown (fun x => ltN e[a]! x) e i2 x = j2 ∧ ρ 0 = slV b n cap ∧ ρ 1 = .sc (.int .i64 (a : Int)) ∧ ρ 9 = .sc (.int .i64 (i2 : Int)) ∧ ρ 10 = .sc (.int .i64 (x : Int)) ∧ K = H.set b (rowC T e rest)) ?_ (m := j) (HLe.refl _)
        ⟨j, rfl, by omega, hj2, by simp [p0, p1, pJ, pI], by simp [p0, p1, pJ, pI], by simp [p0, p1, pJ, pI], by simp [p0, p1, pJ, pI], rfl⟩
      clear p0 p1 pJ pI
      rintro m ρ K ih ⟨x, rfl, hxn, hs, r0, r1, rfix, rvar, rfl⟩
      cases m with
      | zero =>
        rw [Go.Sort.scanDown] at hs
        subst hs
        have hxj' : ¬ (i2 : Int) ≤ 0 := by omega
        have hxj2 : ¬ i2 = 0 := by omega
        simp -implicitDefEqProofs [r0, r1, rfix, rvar]
        first | refine go_draw 15 f_mixed (by decide +kernel) ?_ | refine go_draw 14 f_mixed (by decide +kernel) ?_ | refine go_draw 13 f_mixed (by decide +kernel) ?_
        simp -implicitDefEqProofs [r0, r1, rfix, rvar, hxj', hxj2]
        exact hk' _ _ ⟨by simp [r0], by simp [r1], by simp [rfix], by simp [rvar], rfl⟩
      | succ x =>
        rw [Go.Sort.scanDown] at hs
        simp -implicitDefEqProofs [r0, r1, rfix, rvar]
        first | refine go_draw 15 f_mixed (by decide +kernel) ?_ | refine go_draw 14 f_mixed (by decide +kernel) ?_ | refine go_draw 13 f_mixed (by decide +kernel) ?_
        by_cases hxj : i2 ≤ x + 1
        · have hxj' : (i2 : Int) ≤ (x : Int) + 1 := by omega
          have w1 : IntKind.i64.wrap (x : Int) = (x : Int) := wrap_i64 (by omega) (by omega)
          have tq : ((x : Int) + 1).toNat = x + 1 := by omega
          have nq : ¬ (x : Int) + 1 < 0 := by omega
          have nx : x + 1 < n := by omega
          have zx : x + 1 < e.size := by omega
          have gx := row_get (rest := rest) zx
          obtain ⟨x1, hx1⟩ : ∃ z, e[x + 1]! = z := ⟨_, rfl⟩
          rw [hx1] at gx
          simp -implicitDefEqProofs [r0, r1, rfix, rvar, hxj', tq, nq, rd_row, ga, gx, na, nx]
          refine AQS.eq (c_less _ _) ?_
          by_cases hp : ltN xa x1 = true
          · rw [if_pos (by simp only [hx1, hxa0, hp]; simp; omega)] at hs
            simp -implicitDefEqProofs [hp, rvar, w1]
            exact AGo.again ih (m' := x) (by omega) (HLe.refl _) ⟨x, rfl, by omega, hs, by simp [r0], by simp [r1], by simp [rfix], by simp, rfl⟩
          · have hp : ltN xa x1 = false := by simpa using hp
            rw [if_neg (by simp only [hx1, hxa0, hp]; simp)] at hs
            subst hs
            simp -implicitDefEqProofs [hp]
            exact hk' _ _ ⟨by simp [r0], by simp [r1], by simp [rfix], by simp [rvar], rfl⟩
        · have hxj' : ¬ (i2 : Int) ≤ (x : Int) + 1 := by omega
          rw [if_neg (by simp; omega)] at hs
          subst hs
          simp -implicitDefEqProofs [r0, r1, rfix, rvar, hxj']
          exact hk' _ _ ⟨by simp [r0], by simp [r1], by simp [rfix], by simp [rvar], rfl⟩
    · rintro ρ5 K5 ⟨q0, q1, qI, qJ, rfl⟩
      by_cases hgt : i2 > j2
      · have hgt' : (j2 : Int) < (i2 : Int) := by omega
        rw [if_pos hgt] at hF
        subst hF
        simp -implicitDefEqProofs [q0, q1, qI, qJ, hgt']
        subst hR
        exact AFin.intro _ _ (wk_refl _) (HWk.refl _) ⟨rfl, rfl⟩
      · have hgt' : ¬ (j2 : Int) < (i2 : Int) := by omega
        rw [if_neg hgt, dif_pos (by omega)] at hF
        have ni : i2 < n := by omega
        have si : i2 < e.size := by omega
        have gi := row_get (rest := rest) si
        obtain ⟨xi, hxi⟩ : ∃ x, e[i2]! = x := ⟨_, rfl⟩
        rw [hxi] at gi
        have nj : j2 < n := by omega
        have sj : j2 < e.size := by omega
        have gj := row_get (rest := rest) sj
        obtain ⟨xj, hxj⟩ : ∃ x, e[j2]! = x := ⟨_, rfl⟩
        rw [hxj] at gj
        have w1 : IntKind.i64.wrap ((i2 : Int) + 1) = ((i2 + 1 : Nat) : Int) := by rw [wrap_i64 (by omega) (by omega)]; omega
        have w2 : IntKind.i64.wrap ((j2 : Int) - 1) = ((j2 - 1 : Nat) : Int) := by rw [wrap_i64 (by omega) (by omega)]; omega
        simp -implicitDefEqProofs [q0, q1, qI, qJ, hgt']
        refine atRho fun ρ2 hρ2 => ?_
        have u0 : ρ2 0 = slV b n cap := by rw [hρ2]; simp [q0, q1, qI, qJ]
        have u1 : ρ2 1 = .sc (.int .i64 (a : Int)) := by rw [hρ2]; simp [q0, q1, qI, qJ]
        have u9 : ρ2 9 = .sc (.int .i64 (i2 : Int)) := by rw [hρ2]; simp [q0, q1, qI, qJ]
        have u10 : ρ2 10 = .sc (.int .i64 (j2 : Int)) := by rw [hρ2]; simp [q0, q1, qI, qJ]
        clear hρ2
        have rs2 : ((e.toList.map uAV).set i2 (uAV xj) ++ rest).set j2 (uAV xi) = (Go.Sort.swp e i2 j2).toList.map uAV ++ rest := swap_cells si sj hxi hxj
        have rs3 : ((e.toList.map uAV ++ rest).set i2 (uAV xj)).set j2 (uAV xi) = (Go.Sort.swp e i2 j2).toList.map uAV ++ rest := swap_cells2 si sj hxi hxj
        have cI : i2 + 1 ≤ e.size + rest.length := by omega
        have cJ : j2 + 1 ≤ e.size + rest.length := by omega
        refine go_draw3J (fun ρ' K' => ρ' 0 = ρ2 0 ∧ ρ' 1 = ρ2 1 ∧ ρ' 9 = ρ2 9 ∧ ρ' 10 = ρ2 10 ∧ K' = H.set b (rowC T (Go.Sort.swp e i2 j2) rest)) [0, 1, 2, 3, 4, 5, 6, 8, 9, 10] (fun _ => none) f_mixed (by decide +kernel) HC.nothing ?_ ?_
        · simp -implicitDefEqProofs
          repeat (refine aq3_op ?_; simp -implicitDefEqProofs [u0, u1, u9, u10, ni, nj])
          refine AWK.two 7 11 (by decide +kernel) ?_ ?_
          · refine AWE.op rfl ?_
            simp -implicitDefEqProofs [rd_row, gi, gj]
            refine AWK.one 11 (by decide +kernel) ?_
            refine AWE.op rfl ?_
            simp -implicitDefEqProofs [rd_row, gi, gj]
            refine AWK.one 12 (by decide +kernel) ?_
            refine AWE.op rfl ?_
            simp -implicitDefEqProofs [u0, u1, u9, u10, ni, nj]
            refine AWK.one 13 (by decide +kernel) ?_
            refine AWE.op rfl ?_
            simp -implicitDefEqProofs [st_row, cI]
            refine AWS.store (by simp [Heap.set]; exact ⟨rfl, rfl⟩) HC.nothing ?_
            simp only [lset]
            refine AWK.one 14 (by decide +kernel) ?_
            refine AWE.op rfl ?_
            simp -implicitDefEqProofs [u0, u1, u9, u10, ni, nj]
            refine AWK.one 15 (by decide +kernel) ?_
            refine AWE.op rfl ?_
            simp -implicitDefEqProofs [st_row, cJ]
            refine AWS.store (by simp [Heap.set]; exact ⟨rfl, rfl⟩) HC.nothing ?_
            simp only [lset]
            refine AWK.fin (by decide +kernel) ?_
            refine ⟨by simp [u0, u1, u9, u10, ni, nj], by simp [u0, u1, u9, u10, ni, nj], by simp [u0, u1, u9, u10, ni, nj], by simp [u0, u1, u9, u10, ni, nj], ?_⟩
            try rw [Heap.set_set]
            exact congrArg (fun x => H.set b (.cells x T)) (by first | exact rs2 | exact rs3)
          · refine AWE.op rfl ?_
            simp -implicitDefEqProofs [rd_row, gi, gj]
            refine AWK.one 7 (by decide +kernel) ?_
            refine AWE.op rfl ?_
            simp -implicitDefEqProofs [rd_row, gi, gj]
            refine AWK.one 12 (by decide +kernel) ?_
            refine AWE.op rfl ?_
            simp -implicitDefEqProofs [u0, u1, u9, u10, ni, nj]
            refine AWK.one 13 (by decide +kernel) ?_
            refine AWE.op rfl ?_
            simp -implicitDefEqProofs [st_row, cI]
            refine AWS.store (by simp [Heap.set]; exact ⟨rfl, rfl⟩) HC.nothing ?_
            simp only [lset]
            refine AWK.one 14 (by decide +kernel) ?_
            refine AWE.op rfl ?_
            simp -implicitDefEqProofs [u0, u1, u9, u10, ni, nj]
            refine AWK.one 15 (by decide +kernel) ?_
            refine AWE.op rfl ?_
            simp -implicitDefEqProofs [st_row, cJ]
            refine AWS.store (by simp [Heap.set]; exact ⟨rfl, rfl⟩) HC.nothing ?_
            simp only [lset]
            refine AWK.fin (by decide +kernel) ?_
            refine ⟨by simp [u0, u1, u9, u10, ni, nj], by simp [u0, u1, u9, u10, ni, nj], by simp [u0, u1, u9, u10, ni, nj], by simp [u0, u1, u9, u10, ni, nj], ?_⟩
            try rw [Heap.set_set]
            exact congrArg (fun x => H.set b (.cells x T)) (by first | exact rs2 | exact rs3)
        rintro ρ3 K3 ⟨h0, h1, h9, h10, rfl⟩
        rw [u0] at h0; rw [u1] at h1; rw [u9] at h9; rw [u10] at h10
        simp -implicitDefEqProofs [h9, h10, w1, w2]
        exact AGo.again ihL (m' := (j2 - 1) + 1 - (i2 + 1)) (by omega) (HLe.refl _) ⟨i2 + 1, j2 - 1, _, rfl, by omega, by omega, by omega, by rw [swp_size]; exact hen, hF, by simp [h0], by simp [h1], by simp, by simp, rfl⟩
end Go.Proofs.YtlhgpodfhdddkaaGreatDoor
namespace Go.Proofs.YtlhgpodfhdddkaaGreatDoor
open Rg Go Go.RowKit
variable {H : Heap}
abbrev zI (n : Nat) : AV := .sc (.int .i64 (n : Int))
theorem c_order2 {b n cap s lo hi sw : Nat} {T : TypeId} {rest : List AV} {d : Array Nat} (hn : d.size = n) (i j : Nat) (hi1 : lo ≤ i ∧ i < hi) (hj1 : lo ≤ j ∧ j < hi) (hh : hi ≤ n) (hl : n ≤ 1000000) (hsw : sw ≤ 100)
    (h : H b = some (rowC T d rest)) (hs : H s = some (.cells [zI sw] 3)) :
    ACalls Tryz.prog 125 [slV b n cap, zI i, zI j, .sc (.pointer (some ⟨s, 0, none⟩))] H (fun v K => ∃ i' j' sw', v = .tup [zI i', zI j'] ∧ (lo ≤ i' ∧ i' < hi) ∧ (lo ≤ j' ∧ j' < hi) ∧ sw' ≤ sw + 1 ∧ K = H.set s (.cells [zI sw'] 3)) := by
  generalize hR : (fun (v : AV) (K : Heap) => ∃ i' j' sw', v = .tup [zI i', zI j'] ∧ (lo ≤ i' ∧ i' < hi) ∧ (lo ≤ j' ∧ j' < hi) ∧ sw' ≤ sw + 1 ∧ K = H.set s (.cells [zI sw'] 3)) = R
  have n0 : i < n := by omega
  have n1 : j < n := by omega
  have s0 : i < d.size := by omega
  have s1 : j < d.size := by omega
  have g0 := row_get (rest := rest) s0
  have g1 := row_get (rest := rest) s1
  obtain ⟨x0, hx0⟩ : ∃ x, d[i]! = x := ⟨_, rfl⟩
  obtain ⟨x1, hx1⟩ : ∃ x, d[j]! = x := ⟨_, rfl⟩
  rw [hx0] at g0
  rw [hx1] at g1
  have w1 : IntKind.i64.wrap ((sw : Int) + 1) = ((sw + 1 : Nat) : Int) := by rw [wrap_i64 (by omega) (by omega)]; omega
  refine ACalls.into Tryz.func125 rfl Tryz.ntmps125 Tryz.results125 (by simp) ?_
  simp -implicitDefEqProofs
  refine go_draw 9 f_mixed (by decide +kernel) ?_
  simp -implicitDefEqProofs [h, rd_row, g0, g1, n0, n1]
  refine AQS.eq (c_less _ _) ?_
  cases hb : ltN x1 x0 with
  | true =>
    simp -implicitDefEqProofs [hs, w1]
    subst hR
    exact AFin.intro _ _ (wk_refl _) (HWk.refl _) ⟨j, i, sw + 1, rfl, hj1, hi1, Nat.le_refl _, rfl⟩
  | false =>
    simp -implicitDefEqProofs
    subst hR
    exact AFin.intro _ _ (wk_refl _) (HWk.refl _) ⟨i, j, sw, rfl, hi1, hj1, by omega, (set_same hs).symm⟩
theorem c_median {b n cap s lo hi sw : Nat} {T : TypeId} {rest : List AV} {d : Array Nat} (hn : d.size = n) (i j k : Nat) (hi1 : lo ≤ i ∧ i < hi) (hj1 : lo ≤ j ∧ j < hi) (hk1 : lo ≤ k ∧ k < hi) (hh : hi ≤ n) (hl : n ≤ 1000000) (hsw : sw ≤ 50) (nbs : b ≠ s)
    (h : H b = some (rowC T d rest)) (hs : H s = some (.cells [zI sw] 3)) :
    ACalls Tryz.prog 113 [slV b n cap, zI i, zI j, zI k, .sc (.pointer (some ⟨s, 0, none⟩))] H (fun v K => ∃ p sw', v = zI p ∧ (lo ≤ p ∧ p < hi) ∧ sw' ≤ sw + 3 ∧ K = H.set s (.cells [zI sw'] 3)) := by
  generalize hR : (fun (v : AV) (K : Heap) => ∃ p sw', v = zI p ∧ (lo ≤ p ∧ p < hi) ∧ sw' ≤ sw + 3 ∧ K = H.set s (.cells [zI sw'] 3)) = R
  have hb' : ∀ o, H.set s o b = some (rowC T d rest) := fun o => by simp [Heap.set, nbs, h]
  refine ACalls.into Tryz.func113 rfl Tryz.ntmps113 Tryz.results113 (by simp) ?_
  simp -implicitDefEqProofs
  refine ACall.intro (c_order2 hn i j hi1 hj1 hh hl (by omega) h hs) fun v K hv => ?_
  obtain ⟨i1, j1, s1, rfl, q1, q2, q3, rfl⟩ := hv
  simp -implicitDefEqProofs
  refine ACall.intro (c_order2 (sw := s1) hn j1 k q2 hk1 hh hl (by omega) (hb' _) (by simp [Heap.set])) fun v K hv => ?_
  obtain ⟨j2, k2, s2, rfl, q4, q5, q6, rfl⟩ := hv
  rw [Heap.set_set]
  simp -implicitDefEqProofs
  refine ACall.intro (c_order2 (sw := s2) hn i1 j2 q1 q4 hh hl (by omega) (hb' _) (by simp [Heap.set])) fun v K hv => ?_
  obtain ⟨i3, j3, s3, rfl, q7, q8, q9, rfl⟩ := hv
  rw [Heap.set_set]
  simp -implicitDefEqProofs
  subst hR
  exact AFin.intro _ _ (wk_refl _) (HWk.refl _) ⟨j3, s3, rfl, q8, by omega, rfl⟩
theorem c_pivot {b n cap : Nat} {T : TypeId} {rest : List AV} {d : Array Nat} (hn : d.size = n) (a j : Nat) (haj : a + 8 ≤ j) (hj50 : j < a + 50) (hj : j ≤ n) (hl : n ≤ 1000000) (h : H b = some (rowC T d rest)) :
    ACalls Tryz.prog 91 [slV b n cap, zI a, zI j] H (fun v K => ∃ p hint : Nat, v = .tup [zI p, zI hint] ∧ a ≤ p ∧ p < j ∧ hint ≤ 1 ∧ HLe H K) := by
  generalize hR : (fun (v : AV) (K : Heap) => ∃ p hint : Nat, v = .tup [zI p, zI hint] ∧ a ≤ p ∧ p < j ∧ hint ≤ 1 ∧ HLe H K) = R
  obtain ⟨l, hll⟩ : ∃ l, j - a = l := ⟨_, rfl⟩
  obtain ⟨q, hq⟩ : ∃ q, l / 4 = q := ⟨_, rfl⟩
  obtain ⟨p1, hp1⟩ : ∃ p, a + q = p := ⟨_, rfl⟩
  obtain ⟨p2, hp2⟩ : ∃ p, a + q * 2 = p := ⟨_, rfl⟩
  obtain ⟨p3, hp3⟩ : ∃ p, a + q * 3 = p := ⟨_, rfl⟩
  have y1 : IntKind.i64.wrap ((j : Int) - (a : Int)) = (l : Int) := by rw [wrap_i64 (by omega) (by omega)]; omega
  have y2 : (l : Int).tdiv 4 = (q : Int) := by rw [Int.tdiv_eq_ediv_of_nonneg (by omega)]; omega
  have y3 : IntKind.i64.wrap (q : Int) = (q : Int) := wrap_i64 (by omega) (by omega)
  have y4 : IntKind.i64.wrap ((a : Int) + (q : Int)) = (p1 : Int) := by rw [wrap_i64 (by omega) (by omega)]; omega
  have y5 : IntKind.i64.wrap ((q : Int) * 2) = (q : Int) * 2 := wrap_i64 (by omega) (by omega)
  have y6 : IntKind.i64.wrap ((a : Int) + (q : Int) * 2) = (p2 : Int) := by rw [wrap_i64 (by omega) (by omega)]; omega
  have y7 : IntKind.i64.wrap ((q : Int) * 3) = (q : Int) * 3 := wrap_i64 (by omega) (by omega)
  have y8 : IntKind.i64.wrap ((a : Int) + (q : Int) * 3) = (p3 : Int) := by rw [wrap_i64 (by omega) (by omega)]; omega
  have l8 : (8 : Int) ≤ (l : Int) := by omega
  have l50 : ¬ (50 : Int) ≤ (l : Int) := by omega
  refine ACalls.into Tryz.func91 rfl Tryz.ntmps91 Tryz.results91 (by simp) ?_
  simp -implicitDefEqProofs [y1]
  refine AAlloc.intro fun s hs => ?_
  have nbs : b ≠ s := by rintro rfl; rw [h] at hs; cases hs
  simp -implicitDefEqProofs [y1, y2, y3, y4, y5, y6, y7, y8, l8, l50]
  refine ACall.intro (c_median (T := T) (rest := rest) (lo := a) (hi := j) (sw := 0) hn p1 p2 p3 (by omega) (by omega) (by omega) hj hl (by omega) nbs (by simp [Heap.set, nbs, h]) (by simp [Heap.set])) fun v K hv => ?_
  obtain ⟨p, sw, rfl, hp, hsw, rfl⟩ := hv
  rw [Heap.set_set]
  by_cases h0 : sw = 0
  · subst h0
    simp -implicitDefEqProofs
    subst hR
    exact AFin.intro _ _ (wk_refl _) (HWk.refl _) ⟨p, 1, rfl, hp.1, hp.2, by omega, HLe.set_fresh hs⟩
  · have h0' : ¬ (sw : Int) = 0 := by omega
    have h12 : ¬ sw = 12 := by omega
    have h12' : ¬ (sw : Int) = 12 := by omega
    simp -implicitDefEqProofs [h0, h0', h12, h12']
    subst hR
    exact AFin.intro _ _ (wk_refl _) (HWk.refl _) ⟨p, 0, rfl, hp.1, hp.2, by omega, HLe.set_fresh hs⟩
end Go.Proofs.YtlhgpodfhdddkaaGreatDoor
namespace Go.Proofs.YtlhgpodfhdddkaaGreatDoor
open Rg Go Go.RowKit
variable {H : Heap}
theorem scanSorted_le {d : Array Nat} {b : Nat} : ∀ (m i : Nat), b - i ≤ m → i ≤ b → i ≤ Go.Sort.scanSorted ltN d b i ∧ Go.Sort.scanSorted ltN d b i ≤ b := by
  intro m
  induction m with
  | zero => intro i h1 h2; rw [Go.Sort.scanSorted, if_neg (by simp; omega)]; omega
  | succ m ih =>
    intro i h1 h2
    rw [Go.Sort.scanSorted]
    split
    · rename_i hc
      have hib : i < b := by simp only [Bool.and_eq_true, decide_eq_true_eq] at hc; exact hc.1
      have := ih (i + 1) (by omega) (by omega)
      omega
    · omega
set_option maxHeartbeats 4000000 in
theorem c_partial {b n cap : Nat} {T : TypeId} {rest : List AV} {d : Array Nat} (hn : d.size = n) (a j : Nat) (haj : a < j) (hj50 : j < a + 50) (hj : j ≤ n) (hl : n ≤ 1000000) (h : H b = some (rowC T d rest)) :
    AOk Tryz.prog 93 [slV b n cap, zI a, zI j] H (.sc (.bool (decide (Go.Sort.scanSorted ltN d j (a + 1) = j)))) H := by
  obtain ⟨F, hF⟩ : ∃ F, Go.Sort.scanSorted ltN d j (a + 1) = F := ⟨_, rfl⟩
  have hFb := scanSorted_le (d := d) (b := j) _ (a + 1) (Nat.le_refl _) (by omega)
  rw [hF] at hFb ⊢
  refine ACalls.into Tryz.func93 rfl Tryz.ntmps93 Tryz.results93 (by simp) ?_
  have y1 : IntKind.i64.wrap ((a : Int) + 1) = ((a + 1 : Nat) : Int) := by rw [wrap_i64 (by omega) (by omega)]; omega
  have y2 : IntKind.i64.wrap ((j : Int) - (a : Int)) = (j : Int) - (a : Int) := wrap_i64 (by omega) (by omega)
  have y3 : (j : Int) - (a : Int) < 50 := by omega
  generalize hR : ROk _ _ = R
  simp -implicitDefEqProofs [y1]
  refine AGo.rounds (fun m ρ K => ρ 0 = slV b n cap ∧ ρ 1 = zI a ∧ ρ 2 = zI j ∧ ρ 7 = zI (a + 1) ∧ ρ 8 = .sc (.int .i64 0) ∧ K = H) ?_ (m := 0) (HLe.refl H)
    ⟨by simp, by simp, by simp, by simp, by simp, rfl⟩
  rintro m ρ K _ ⟨r0, r1, r2, r7, r8, rfl⟩
  simp -implicitDefEqProofs [r8]
  refine AGo.joinLoop (fun ρ K' => ρ 0 = slV b n cap ∧ ρ 1 = zI a ∧ ρ 2 = zI j ∧ ρ 7 = zI F ∧ K' = K) (fun k' hk' => ?_) ?_
  · refine AGo.rounds (fun m ρ K' => ∃ x : Nat, m = j - x ∧ a + 1 ≤ x ∧ x ≤ j ∧ Go.Sort.scanSorted ltN d j x = F ∧ ρ 0 = slV b n cap ∧ ρ 1 = zI a ∧ ρ 2 = zI j ∧ ρ 7 = zI x ∧ K' = K) ?_ (m := j - (a + 1)) (HLe.refl K)
      ⟨a + 1, rfl, Nat.le_refl _, by omega, hF, by simp [r0], by simp [r1], by simp [r2], by simp [r7], rfl⟩
    clear r0 r1 r2 r7 r8
    rintro m ρ K' ih ⟨x, rfl, hax, hxj, hs, r0, r1, r2, r7, rfl⟩
    rw [Go.Sort.scanSorted] at hs
    simp -implicitDefEqProofs [r0, r1, r2, r7]
    first | refine go_draw 16 f_mixed (by decide +kernel) ?_ | refine go_draw 15 f_mixed (by decide +kernel) ?_ | refine go_draw 11 f_mixed (by decide +kernel) ?_
    by_cases hx : x < j
    · have hx' : (x : Int) < (j : Int) := by omega
      obtain ⟨y, rfl⟩ : ∃ y, x = y + 1 := ⟨x - 1, by omega⟩
      have w0 : IntKind.i64.wrap (y : Int) = (y : Int) := wrap_i64 (by omega) (by omega)
      have w1 : IntKind.i64.wrap ((y : Int) + 1 + 1) = ((y + 2 : Nat) : Int) := by rw [wrap_i64 (by omega) (by omega)]; omega
      have tq : ((y : Int) + 1).toNat = y + 1 := by omega
      have nq : ¬ (y : Int) + 1 < 0 := by omega
      have n0 : y < n := by omega
      have n1 : y + 1 < n := by omega
      have s0 : y < d.size := by omega
      have s1 : y + 1 < d.size := by omega
      have g0 := row_get (rest := rest) s0
      have g1 := row_get (rest := rest) s1
      obtain ⟨x0, hx0⟩ : ∃ x, d[y]! = x := ⟨_, rfl⟩
      obtain ⟨x1, hx1⟩ : ∃ x, d[y + 1]! = x := ⟨_, rfl⟩
      rw [hx0] at g0
      rw [hx1] at g1
      rw [show y + 1 - 1 = y by omega, hx0, hx1] at hs
      have hx2 : (y : Int) + 1 < (j : Int) := by omega
      simp -implicitDefEqProofs [r0, r1, r2, r7, hx2, h, rd_row, g0, g1, n0, n1, w0, tq, nq]
      refine AQS.eq (c_less _ _) ?_
      cases hb : ltN x1 x0 with
      | true =>
        rw [if_neg (by rw [hb]; simp)] at hs
        subst hs
        simp -implicitDefEqProofs
        exact hk' _ _ ⟨by simp [r0], by simp [r1], by simp [r2], by simp [r7], rfl⟩
      | false =>
        rw [if_pos (by rw [hb]; simp; omega)] at hs
        simp -implicitDefEqProofs [r7, w1]
        exact AGo.again ih (m' := j - (y + 2)) (by omega) (HLe.refl _) ⟨y + 2, rfl, by omega, by omega, hs, by simp [r0], by simp [r1], by simp [r2], by simp, rfl⟩
    · have hx' : ¬ (x : Int) < (j : Int) := by omega
      rw [if_neg (by simp; omega)] at hs
      subst hs
      simp -implicitDefEqProofs [r0, r1, r2, r7, hx']
      exact hk' _ _ ⟨by simp [r0], by simp [r1], by simp [r2], by simp [r7], rfl⟩
  · rintro ρ3 K3 ⟨q0, q1, q2, q7, rfl⟩
    by_cases hFj : F = j
    · subst hFj
      simp -implicitDefEqProofs [q7, q2]
      subst hR
      exact AFin.intro _ _ (wk_refl _) (HWk.refl _) ⟨by simp, rfl⟩
    · have hFj' : ¬ (F : Int) = (j : Int) := by omega
      simp -implicitDefEqProofs [q7, q2, q1, hFj, hFj', y2, y3]
      subst hR
      exact AFin.intro _ _ (wk_refl _) (HWk.refl _) ⟨by simp [hFj], rfl⟩
end Go.Proofs.YtlhgpodfhdddkaaGreatDoor
namespace Go.Proofs.YtlhgpodfhdddkaaGreatDoor
open Rg Go Go.RowKit
variable {H : Heap}
theorem bitsN (op : BinOp) (a b : Int) : ∃ y : Nat, bits op .u64 a b = (y : Int) ∧ y < 18446744073709551616 := by
  have h : ∀ z : Int, ∃ y : Nat, IntKind.u64.wrap z = (y : Int) ∧ y < 18446744073709551616 := fun z => by
    have h1 : IntKind.u64.wrap z = z % 18446744073709551616 := by simp [IntKind.wrap, IntKind.bits, IntKind.signed]
    rw [h1]
    exact ⟨(z % 18446744073709551616).toNat, by omega, by omega⟩
  unfold bits
  exact h _
theorem c_next {r x : Nat} (h : H r = some (.cells [uAV x] 137)) :
    ACalls Tryz.prog 111 [.sc (.pointer (some ⟨r, 0, none⟩))] H (fun v K => ∃ y : Nat, y < 18446744073709551616 ∧ v = uAV y ∧ K = H.set r (.cells [uAV y] 137)) := by
  generalize hR : (fun (v : AV) (K : Heap) => ∃ y : Nat, y < 18446744073709551616 ∧ v = uAV y ∧ K = H.set r (.cells [uAV y] 137)) = R
  have p13 : (2 : Int) ^ min 13 IntKind.u64.bits = 8192 := by decide
  have p7 : (2 : Int) ^ min 7 IntKind.u64.bits = 128 := by decide
  have p17 : (2 : Int) ^ min 17 IntKind.u64.bits = 131072 := by decide
  refine ACalls.into Tryz.func111 rfl Tryz.ntmps111 Tryz.results111 (by simp) ?_
  simp -implicitDefEqProofs
  refine go_draw 9 f_mixed (by decide +kernel) ?_
  simp -implicitDefEqProofs [h, p13]
  obtain ⟨y1, e1, _⟩ := bitsN .xor (x : Int) (IntKind.u64.wrap ((x : Int) * 8192))
  rw [e1]
  refine go_draw 9 f_mixed (by decide +kernel) ?_
  simp -implicitDefEqProofs [p7]
  obtain ⟨y2, e2, _⟩ := bitsN .xor (y1 : Int) ((y1 : Int).fdiv 128)
  rw [e2]
  refine go_draw 9 f_mixed (by decide +kernel) ?_
  simp -implicitDefEqProofs [p17]
  obtain ⟨y3, e3, hy3⟩ := bitsN .xor (y2 : Int) (IntKind.u64.wrap ((y2 : Int) * 131072))
  rw [e3]
  subst hR
  exact AFin.intro _ _ (wk_refl _) (HWk.refl _) ⟨y3, hy3, rfl, rfl⟩
theorem pow_len : ∀ l : Fin 50, 8 ≤ l.val → Lib.bitLen l.val ≤ 6 ∧ 2 ^ Lib.bitLen l.val ≤ 2 * l.val := by decide
theorem c_len (l : Nat) (h : l < 1000000) : AOk Tryz.prog 76 [.sc (.int .u64 (l : Int))] H (zI (Lib.bitLen l)) H :=
  AOk.kit (vs := [.int .u64 (l : Int)]) (r := .int .i64 (Lib.bitLen l)) fun W0 C w _ => (Tryz.bits_Len (l : Int) w (by omega) (by omega)).mono fun e w' ⟨h1, h2⟩ => ⟨by rw [h1]; simp, h2 ▸ Below.refl _ _⟩
theorem c_pow (l : Nat) (h8 : 8 ≤ l) (h50 : l < 50) : ACalls Tryz.prog 110 [zI l] H (fun v K => ∃ m : Nat, v = uAV m ∧ 1 ≤ m ∧ m ≤ 2 * l ∧ K = H) := by
  generalize hR : (fun (v : AV) (K : Heap) => ∃ m : Nat, v = uAV m ∧ 1 ≤ m ∧ m ≤ 2 * l ∧ K = H) = R
  have w1 : IntKind.u64.wrap (l : Int) = (l : Int) := wrap_u64 (by omega) (by omega)
  have hp := pow_len ⟨l, h50⟩ h8
  simp only at hp
  obtain ⟨k, hk⟩ : ∃ k, Lib.bitLen l = k := ⟨_, rfl⟩
  have hc := c_len (H := H) l (by omega)
  rw [hk] at hp hc
  refine ACalls.into Tryz.func110 rfl Tryz.ntmps110 Tryz.results110 (by simp) ?_
  simp -implicitDefEqProofs [w1]
  refine ACall.eq hc ?_
  simp -implicitDefEqProofs
  subst hR
  have hm : min k IntKind.u64.bits = k := by simp only [IntKind.bits]; omega
  have h2 : (2 : Int) ^ k = ((2 ^ k : Nat) : Int) := by push_cast; rfl
  have h1 : 1 ≤ 2 ^ k := Nat.one_le_two_pow
  have hm' : min k 64 = k := by omega
  first | rw [hm] | rw [hm']
  rw [h2, wrap_u64 (by omega) (by omega)]
  exact AFin.intro _ _ (wk_refl _) (HWk.refl _) ⟨2 ^ k, rfl, h1, hp.2, rfl⟩
set_option maxHeartbeats 8000000 in
theorem c_break {b n cap : Nat} {T : TypeId} {rest : List AV} {d : Array Nat} (hn : d.size = n) (a j : Nat) (haj : a + 8 ≤ j) (hj50 : j < a + 50) (hj : j ≤ n) (hl : n ≤ 1000000) (h : H b = some (rowC T d rest)) :
    ACalls Tryz.prog 90 [slV b n cap, zI a, zI j] H (fun v K => v = .tup [] ∧ ∃ d' : Array Nat, Go.Sort.PermIn a j d d' ∧ HLe (H.set b (rowC T d' rest)) K) := by
  generalize hR : (fun (v : AV) (K : Heap) => v = .tup [] ∧ ∃ d' : Array Nat, Go.Sort.PermIn a j d d' ∧ HLe (H.set b (rowC T d' rest)) K) = R
  obtain ⟨l, hll⟩ : ∃ l, j - a = l := ⟨_, rfl⟩
  obtain ⟨q, hq⟩ : ∃ q, l / 4 = q := ⟨_, rfl⟩
  obtain ⟨p, hp⟩ : ∃ p, a + q * 2 = p := ⟨_, rfl⟩
  have y1 : IntKind.i64.wrap ((j : Int) - (a : Int)) = (l : Int) := by rw [wrap_i64 (by omega) (by omega)]; omega
  have y2 : (l : Int).tdiv 4 = (q : Int) := by rw [Int.tdiv_eq_ediv_of_nonneg (by omega)]; omega
  have y3 : IntKind.i64.wrap (q : Int) = (q : Int) := wrap_i64 (by omega) (by omega)
  have y5 : IntKind.i64.wrap ((q : Int) * 2) = (q : Int) * 2 := wrap_i64 (by omega) (by omega)
  have y6 : IntKind.i64.wrap ((a : Int) + (q : Int) * 2) = (p : Int) := by rw [wrap_i64 (by omega) (by omega)]; omega
  have y7 : IntKind.i64.wrap ((p : Int) - 1) = ((p - 1 : Nat) : Int) := by rw [wrap_i64 (by omega) (by omega)]; omega
  have y8 : IntKind.i64.wrap ((p : Int) + 1) = (p : Int) + 1 := wrap_i64 (by omega) (by omega)
  have l8 : (8 : Int) ≤ (l : Int) := by omega
  have w1 : IntKind.u64.wrap (l : Int) = (l : Int) := wrap_u64 (by omega) (by omega)
  refine ACalls.into Tryz.func90 rfl Tryz.ntmps90 Tryz.results90 (by simp) ?_
  simp -implicitDefEqProofs [y1, l8, w1]
  refine AAlloc.intro fun r hr => ?_
  have nbr : b ≠ r := by rintro rfl; rw [h] at hr; cases hr
  simp -implicitDefEqProofs [y1, l8, w1]
  refine ACall.intro (c_pow l (by omega) (by omega)) fun v K hv => ?_
  obtain ⟨m, rfl, hm1, hm2, rfl⟩ := hv
  simp -implicitDefEqProofs [y2, y3, y5, y6, y7]
  refine AGo.rounds (fun μ ρ K => ∃ (x y : Nat) (e : Array Nat), μ = p + 2 - x ∧ p - 1 ≤ x ∧ x ≤ p + 2 ∧ Go.Sort.PermIn a j d e ∧ ρ 0 = slV b n cap ∧ ρ 1 = zI a ∧ ρ 6 = zI l ∧ ρ 7 = .sc (.pointer (some ⟨r, 0, none⟩)) ∧ ρ 8 = uAV m ∧ ρ 9 = zI x ∧
    K b = some (rowC T e rest) ∧ K r = some (.cells [uAV y] 137) ∧ HLe (H.set b (rowC T e rest)) K) ?_ (m := p + 2 - (p - 1)) (HLe.refl _)
    ⟨p - 1, l, d, rfl, by omega, by omega, Go.Sort.permIn_refl _ _ _, by simp, by simp, by simp, by simp, by simp, by simp, by simp [Heap.set, nbr, h], by simp [Heap.set], by rw [set_same h]; exact HLe.set_fresh hr⟩
  rintro μ ρ G ih ⟨x, y, e, rfl, hx1, hx2, hP, r0, r1, r6, r7, r8, r9, kb, kr, kl⟩
  have hen : e.size = n := by rw [hP.1]; exact hn
  by_cases hx : x ≤ p + 1
  case neg =>
    have hx' : ¬ (x : Int) ≤ (p : Int) + 1 := by omega
    simp -implicitDefEqProofs [r0, r1, r6, r9, y2, y3, y5, y6, y8, hx']
    subst hR
    exact AFin.intro _ _ (wk_refl _) (HWk.refl _) ⟨rfl, e, hP, kl⟩
  have hx' : (x : Int) ≤ (p : Int) + 1 := by omega
  simp -implicitDefEqProofs [r0, r1, r6, r7, r9, y2, y3, y5, y6, y8, hx']
  refine ACall.intro (c_next kr) fun v K hv => ?_
  obtain ⟨y1', hy1, rfl, rfl⟩ := hv
  obtain ⟨m1, hm1'⟩ : ∃ m1, m - 1 = m1 := ⟨_, rfl⟩
  have z1 : IntKind.u64.wrap ((m : Int) - 1) = (m1 : Int) := by rw [wrap_u64 (by omega) (by omega)]; omega
  obtain ⟨ot, hot⟩ : ∃ ot, y1' &&& m1 = ot := ⟨_, rfl⟩
  have z2 : bits .and .u64 (y1' : Int) (m1 : Int) = (ot : Int) := by rw [u64_and_nat _ _ hy1 (by omega), hot]
  have hotl : ot ≤ m1 := by rw [← hot]; exact Nat.and_le_right
  have z3 : IntKind.i64.wrap (ot : Int) = (ot : Int) := wrap_i64 (by omega) (by omega)
  have kl2 : HLe (H.set b (rowC T e rest)) (G.set r (.cells [uAV y1'] 137)) := HLe.set_new kl (by simp [Heap.set, nbr.symm, hr])
  have kb2 : (G.set r (.cells [uAV y1'] 137)) b = some (rowC T e rest) := by simp [Heap.set, nbr, kb]
  have kr2 : (G.set r (.cells [uAV y1'] 137)) r = some (.cells [uAV y1'] 137) := by simp [Heap.set]
  generalize Heap.set G r _ = G2 at *
  have z5 : IntKind.i64.wrap ((x : Int) + 1) = ((x + 1 : Nat) : Int) := by rw [wrap_i64 (by omega) (by omega)]; omega
  have nx : x < n := by omega
  have sx : x < e.size := by omega
  have gx := row_get (rest := rest) sx
  obtain ⟨xx, hxx⟩ : ∃ z, e[x]! = z := ⟨_, rfl⟩
  rw [hxx] at gx
  by_cases hge : l ≤ ot
  · have hge' : (l : Int) ≤ (ot : Int) := by omega
    obtain ⟨o2, ho2⟩ : ∃ o2, ot - l = o2 := ⟨_, rfl⟩
    have z6 : IntKind.i64.wrap ((ot : Int) - (l : Int)) = (o2 : Int) := by rw [wrap_i64 (by omega) (by omega)]; omega
    obtain ⟨ao, hao⟩ : ∃ ao, a + o2 = ao := ⟨_, rfl⟩
    have z4 : IntKind.i64.wrap ((a : Int) + (o2 : Int)) = (ao : Int) := by rw [wrap_i64 (by omega) (by omega)]; omega
    have no : ao < n := by omega
    have so : ao < e.size := by omega
    have go := row_get (rest := rest) so
    obtain ⟨xo, hxo⟩ : ∃ z, e[ao]! = z := ⟨_, rfl⟩
    rw [hxo] at go
    simp -implicitDefEqProofs [r0, r1, r6, r7, r8, r9, z1, z2, z3, hge', z6]
    rw [← set_same kb2]
    refine atRho fun ρ2 hρ2 => ?_
    have u0 : ρ2 0 = slV b n cap := by rw [hρ2]; simp [r0, r1, r6, r7, r8, r9]
    have u1 : ρ2 1 = zI a := by rw [hρ2]; simp [r0, r1, r6, r7, r8, r9]
    have u6 : ρ2 6 = zI l := by rw [hρ2]; simp [r0, r1, r6, r7, r8, r9]
    have u7 : ρ2 7 = .sc (.pointer (some ⟨r, 0, none⟩)) := by rw [hρ2]; simp [r0, r1, r6, r7, r8, r9]
    have u8 : ρ2 8 = uAV m := by rw [hρ2]; simp [r0, r1, r6, r7, r8, r9]
    have u9 : ρ2 9 = zI x := by rw [hρ2]; simp [r0, r1, r6, r7, r8, r9]
    have u10 : ρ2 10 = zI o2 := by rw [hρ2]; simp [r0, r1, r6, r7, r8, r9]
    clear hρ2
    have rs2 : ((e.toList.map uAV).set x (uAV xo) ++ rest).set ao (uAV xx) = (Go.Sort.swp e x ao).toList.map uAV ++ rest := swap_cells sx so hxx hxo
    have rs3 : ((e.toList.map uAV ++ rest).set x (uAV xo)).set ao (uAV xx) = (Go.Sort.swp e x ao).toList.map uAV ++ rest := swap_cells2 sx so hxx hxo
    have cI : x + 1 ≤ e.size + rest.length := by omega
    have cJ : ao + 1 ≤ e.size + rest.length := by omega
    refine go_draw3J (fun ρ' K' => ρ' 0 = ρ2 0 ∧ ρ' 1 = ρ2 1 ∧ ρ' 6 = ρ2 6 ∧ ρ' 7 = ρ2 7 ∧ ρ' 8 = ρ2 8 ∧ ρ' 9 = ρ2 9 ∧ K' = G2.set b (rowC T (Go.Sort.swp e x ao) rest)) [0, 1, 2, 3, 4, 5, 6, 7, 8, 9, 10, 12, 13, 14] (fun _ => none) f_mixed (by decide +kernel) HC.nothing ?_ ?_
    · simp -implicitDefEqProofs
      repeat (refine aq3_op ?_; simp -implicitDefEqProofs [u0, u1, u6, u7, u8, u9, u10, z4, nx, no])
      refine AWK.two 11 15 (by decide +kernel) ?_ ?_
      · refine AWE.op rfl ?_
        simp -implicitDefEqProofs [rd_row, gx, go]
        refine AWK.one 15 (by decide +kernel) ?_
        refine AWE.op rfl ?_
        simp -implicitDefEqProofs [rd_row, gx, go]
        refine AWK.one 16 (by decide +kernel) ?_
        refine AWE.op rfl ?_
        simp -implicitDefEqProofs [u0, u1, u6, u7, u8, u9, u10, z4, nx, no]
        refine AWK.one 17 (by decide +kernel) ?_
        refine AWE.op rfl ?_
        simp -implicitDefEqProofs [st_row, cI]
        refine AWS.store (by simp [Heap.set]; exact ⟨rfl, rfl⟩) HC.nothing ?_
        simp only [lset]
        refine AWK.one 18 (by decide +kernel) ?_
        refine AWE.op rfl ?_
        simp -implicitDefEqProofs [u0, u1, u6, u7, u8, u9, u10, z4, nx, no]
        refine AWK.one 19 (by decide +kernel) ?_
        refine AWE.op rfl ?_
        simp -implicitDefEqProofs [st_row, cJ]
        refine AWS.store (by simp [Heap.set]; exact ⟨rfl, rfl⟩) HC.nothing ?_
        simp only [lset]
        refine AWK.fin (by decide +kernel) ?_
        refine ⟨by simp [u0, u1, u6, u7, u8, u9, u10, z4, nx, no], by simp [u0, u1, u6, u7, u8, u9, u10, z4, nx, no], by simp [u0, u1, u6, u7, u8, u9, u10, z4, nx, no], by simp [u0, u1, u6, u7, u8, u9, u10, z4, nx, no], by simp [u0, u1, u6, u7, u8, u9, u10, z4, nx, no], by simp [u0, u1, u6, u7, u8, u9, u10, z4, nx, no], ?_⟩
        try rw [Heap.set_set]
        exact congrArg (fun x => G2.set b (.cells x T)) (by first | exact rs2 | exact rs3)
      · refine AWE.op rfl ?_
        simp -implicitDefEqProofs [rd_row, gx, go]
        refine AWK.one 11 (by decide +kernel) ?_
        refine AWE.op rfl ?_
        simp -implicitDefEqProofs [rd_row, gx, go]
        refine AWK.one 16 (by decide +kernel) ?_
        refine AWE.op rfl ?_
        simp -implicitDefEqProofs [u0, u1, u6, u7, u8, u9, u10, z4, nx, no]
        refine AWK.one 17 (by decide +kernel) ?_
        refine AWE.op rfl ?_
        simp -implicitDefEqProofs [st_row, cI]
        refine AWS.store (by simp [Heap.set]; exact ⟨rfl, rfl⟩) HC.nothing ?_
        simp only [lset]
        refine AWK.one 18 (by decide +kernel) ?_
        refine AWE.op rfl ?_
        simp -implicitDefEqProofs [u0, u1, u6, u7, u8, u9, u10, z4, nx, no]
        refine AWK.one 19 (by decide +kernel) ?_
        refine AWE.op rfl ?_
        simp -implicitDefEqProofs [st_row, cJ]
        refine AWS.store (by simp [Heap.set]; exact ⟨rfl, rfl⟩) HC.nothing ?_
        simp only [lset]
        refine AWK.fin (by decide +kernel) ?_
        refine ⟨by simp [u0, u1, u6, u7, u8, u9, u10, z4, nx, no], by simp [u0, u1, u6, u7, u8, u9, u10, z4, nx, no], by simp [u0, u1, u6, u7, u8, u9, u10, z4, nx, no], by simp [u0, u1, u6, u7, u8, u9, u10, z4, nx, no], by simp [u0, u1, u6, u7, u8, u9, u10, z4, nx, no], by simp [u0, u1, u6, u7, u8, u9, u10, z4, nx, no], ?_⟩
        try rw [Heap.set_set]
        exact congrArg (fun x => G2.set b (.cells x T)) (by first | exact rs2 | exact rs3)
    rintro ρ3 K3 ⟨h0, h1, h6, h7, h8, h9, rfl⟩
    rw [u0] at h0; rw [u1] at h1; rw [u6] at h6; rw [u7] at h7; rw [u8] at h8; rw [u9] at h9
    simp -implicitDefEqProofs [h9, z5]
    exact AGo.again ih (m' := p + 2 - (x + 1)) (by omega) (HLe.refl _) ⟨x + 1, y1', Go.Sort.swp e x ao, rfl, by omega, by omega, Go.Sort.permIn_trans _ _ _ _ _ hP (Go.Sort.swp_permIn e a j x ao (by omega) (by omega) (by omega) (by omega) (by omega)), by simp [h0], by simp [h1], by simp [h6], by simp [h7], by simp [h8], by simp, by simp [Heap.set], by simp [Heap.set, nbr.symm, kr2], by have := kl2.set_mono (b := b) (o := rowC T (Go.Sort.swp e x ao) rest); rwa [Heap.set_set] at this⟩
  · have hge' : ¬ (l : Int) ≤ (ot : Int) := by omega
    obtain ⟨ao, hao⟩ : ∃ ao, a + ot = ao := ⟨_, rfl⟩
    have z4 : IntKind.i64.wrap ((a : Int) + (ot : Int)) = (ao : Int) := by rw [wrap_i64 (by omega) (by omega)]; omega
    have no : ao < n := by omega
    have so : ao < e.size := by omega
    have go := row_get (rest := rest) so
    obtain ⟨xo, hxo⟩ : ∃ z, e[ao]! = z := ⟨_, rfl⟩
    rw [hxo] at go
    simp -implicitDefEqProofs [r0, r1, r6, r7, r8, r9, z1, z2, z3, hge']
    rw [← set_same kb2]
    refine atRho fun ρ2 hρ2 => ?_
    have u0 : ρ2 0 = slV b n cap := by rw [hρ2]; simp [r0, r1, r6, r7, r8, r9]
    have u1 : ρ2 1 = zI a := by rw [hρ2]; simp [r0, r1, r6, r7, r8, r9]
    have u6 : ρ2 6 = zI l := by rw [hρ2]; simp [r0, r1, r6, r7, r8, r9]
    have u7 : ρ2 7 = .sc (.pointer (some ⟨r, 0, none⟩)) := by rw [hρ2]; simp [r0, r1, r6, r7, r8, r9]
    have u8 : ρ2 8 = uAV m := by rw [hρ2]; simp [r0, r1, r6, r7, r8, r9]
    have u9 : ρ2 9 = zI x := by rw [hρ2]; simp [r0, r1, r6, r7, r8, r9]
    have u10 : ρ2 10 = zI ot := by rw [hρ2]; simp [r0, r1, r6, r7, r8, r9]
    clear hρ2
    have rs2 : ((e.toList.map uAV).set x (uAV xo) ++ rest).set ao (uAV xx) = (Go.Sort.swp e x ao).toList.map uAV ++ rest := swap_cells sx so hxx hxo
    have rs3 : ((e.toList.map uAV ++ rest).set x (uAV xo)).set ao (uAV xx) = (Go.Sort.swp e x ao).toList.map uAV ++ rest := swap_cells2 sx so hxx hxo
    have cI : x + 1 ≤ e.size + rest.length := by omega
    have cJ : ao + 1 ≤ e.size + rest.length := by omega
    refine go_draw3J (fun ρ' K' => ρ' 0 = ρ2 0 ∧ ρ' 1 = ρ2 1 ∧ ρ' 6 = ρ2 6 ∧ ρ' 7 = ρ2 7 ∧ ρ' 8 = ρ2 8 ∧ ρ' 9 = ρ2 9 ∧ K' = G2.set b (rowC T (Go.Sort.swp e x ao) rest)) [0, 1, 2, 3, 4, 5, 6, 7, 8, 9, 10, 12, 13, 14] (fun _ => none) f_mixed (by decide +kernel) HC.nothing ?_ ?_
    · simp -implicitDefEqProofs
      repeat (refine aq3_op ?_; simp -implicitDefEqProofs [u0, u1, u6, u7, u8, u9, u10, z4, nx, no])
      refine AWK.two 11 15 (by decide +kernel) ?_ ?_
      · refine AWE.op rfl ?_
        simp -implicitDefEqProofs [rd_row, gx, go]
        refine AWK.one 15 (by decide +kernel) ?_
        refine AWE.op rfl ?_
        simp -implicitDefEqProofs [rd_row, gx, go]
        refine AWK.one 16 (by decide +kernel) ?_
        refine AWE.op rfl ?_
        simp -implicitDefEqProofs [u0, u1, u6, u7, u8, u9, u10, z4, nx, no]
        refine AWK.one 17 (by decide +kernel) ?_
        refine AWE.op rfl ?_
        simp -implicitDefEqProofs [st_row, cI]
        refine AWS.store (by simp [Heap.set]; exact ⟨rfl, rfl⟩) HC.nothing ?_
        simp only [lset]
        refine AWK.one 18 (by decide +kernel) ?_
        refine AWE.op rfl ?_
        simp -implicitDefEqProofs [u0, u1, u6, u7, u8, u9, u10, z4, nx, no]
        refine AWK.one 19 (by decide +kernel) ?_
        refine AWE.op rfl ?_
        simp -implicitDefEqProofs [st_row, cJ]
        refine AWS.store (by simp [Heap.set]; exact ⟨rfl, rfl⟩) HC.nothing ?_
        simp only [lset]
        refine AWK.fin (by decide +kernel) ?_
        refine ⟨by simp [u0, u1, u6, u7, u8, u9, u10, z4, nx, no], by simp [u0, u1, u6, u7, u8, u9, u10, z4, nx, no], by simp [u0, u1, u6, u7, u8, u9, u10, z4, nx, no], by simp [u0, u1, u6, u7, u8, u9, u10, z4, nx, no], by simp [u0, u1, u6, u7, u8, u9, u10, z4, nx, no], by simp [u0, u1, u6, u7, u8, u9, u10, z4, nx, no], ?_⟩
        try rw [Heap.set_set]
        exact congrArg (fun x => G2.set b (.cells x T)) (by first | exact rs2 | exact rs3)
      · refine AWE.op rfl ?_
        simp -implicitDefEqProofs [rd_row, gx, go]
        refine AWK.one 11 (by decide +kernel) ?_
        refine AWE.op rfl ?_
        simp -implicitDefEqProofs [rd_row, gx, go]
        refine AWK.one 16 (by decide +kernel) ?_
        refine AWE.op rfl ?_
        simp -implicitDefEqProofs [u0, u1, u6, u7, u8, u9, u10, z4, nx, no]
        refine AWK.one 17 (by decide +kernel) ?_
        refine AWE.op rfl ?_
        simp -implicitDefEqProofs [st_row, cI]
        refine AWS.store (by simp [Heap.set]; exact ⟨rfl, rfl⟩) HC.nothing ?_
        simp only [lset]
        refine AWK.one 18 (by decide +kernel) ?_
        refine AWE.op rfl ?_
        simp -implicitDefEqProofs [u0, u1, u6, u7, u8, u9, u10, z4, nx, no]
        refine AWK.one 19 (by decide +kernel) ?_
        refine AWE.op rfl ?_
        simp -implicitDefEqProofs [st_row, cJ]
        refine AWS.store (by simp [Heap.set]; exact ⟨rfl, rfl⟩) HC.nothing ?_
        simp only [lset]
        refine AWK.fin (by decide +kernel) ?_
        refine ⟨by simp [u0, u1, u6, u7, u8, u9, u10, z4, nx, no], by simp [u0, u1, u6, u7, u8, u9, u10, z4, nx, no], by simp [u0, u1, u6, u7, u8, u9, u10, z4, nx, no], by simp [u0, u1, u6, u7, u8, u9, u10, z4, nx, no], by simp [u0, u1, u6, u7, u8, u9, u10, z4, nx, no], by simp [u0, u1, u6, u7, u8, u9, u10, z4, nx, no], ?_⟩
        try rw [Heap.set_set]
        exact congrArg (fun x => G2.set b (.cells x T)) (by first | exact rs2 | exact rs3)
    rintro ρ3 K3 ⟨h0, h1, h6, h7, h8, h9, rfl⟩
    rw [u0] at h0; rw [u1] at h1; rw [u6] at h6; rw [u7] at h7; rw [u8] at h8; rw [u9] at h9
    simp -implicitDefEqProofs [h9, z5]
    exact AGo.again ih (m' := p + 2 - (x + 1)) (by omega) (HLe.refl _) ⟨x + 1, y1', Go.Sort.swp e x ao, rfl, by omega, by omega, Go.Sort.permIn_trans _ _ _ _ _ hP (Go.Sort.swp_permIn e a j x ao (by omega) (by omega) (by omega) (by omega) (by omega)), by simp [h0], by simp [h1], by simp [h6], by simp [h7], by simp [h8], by simp, by simp [Heap.set], by simp [Heap.set, nbr.symm, kr2], by have := kl2.set_mono (b := b) (o := rowC T (Go.Sort.swp e x ao) rest); rwa [Heap.set_set] at this⟩
end Go.Proofs.YtlhgpodfhdddkaaGreatDoor
namespace Go.Proofs.YtlhgpodfhdddkaaGreatDoor
open Go.Sort
abbrev Srt (a b : Nat) (d d' : Array Nat) : Prop := PermIn a b d d' ∧ SortedIn ltN a b d'
theorem swoN : SWO ltN := ⟨fun x => by simp, fun x y z h1 h2 => by simp at *; omega, fun x y z h1 h2 => by simp at *; omega⟩
theorem srt_ins (d : Array Nat) (a b : Nat) (h : a ≤ b) (hb : b ≤ d.size) : Srt a b d (insertionSort ltN d a b) := insertionSort_holds swoN d a b h hb
theorem srt_heap (d : Array Nat) (a b : Nat) (h : a ≤ b) (hb : b ≤ d.size) : Srt a b d (heapSort ltN d a b) := heapSort_holds swoN d a b h hb
theorem Srt.pre {a b : Nat} {d d1 d2 : Array Nat} (h : PermIn a b d d1) (k : Srt a b d1 d2) : Srt a b d d2 := ⟨permIn_trans _ _ _ _ _ h k.1, k.2⟩
theorem srt_scan {d : Array Nat} {a b : Nat} (h : a < b) (hb : b ≤ d.size) (hB : Go.Sort.Below ltN a b d) (hs : scanSorted ltN d b (a + 1) = b) : Srt a b d d := by
  have := partialInsertionSort_holds swoN d a b h hb hB
  have e : partialInsertionSort ltN d a b = (d, true) := by
    unfold partialInsertionSort
    rw [partialIns]
    simp only [hs, if_true]
  rw [e] at this
  exact ⟨this.1, this.2 rfl⟩
theorem below_perm {a b : Nat} {d d' : Array Nat} (hb : b ≤ d.size) (h : Go.Sort.Below ltN a b d) (hP : PermIn a b d d') : Go.Sort.Below ltN a b d' := Below.permA permIn_all hb h hP
theorem perm_all {a b : Nat} {d d' : Array Nat} (p : Nat → Prop) (hb : b ≤ d.size) (h : PermIn a b d d') (k : ∀ i, a ≤ i → i < b → p d[i]!) : ∀ i, a ≤ i → i < b → p d'[i]! := permIn_all d d' a b p hb h k
theorem below_sub {a b c : Nat} {d : Array Nat} (h : Go.Sort.Below ltN a b d) (hc : c ≤ b) : Go.Sort.Below ltN a c d := h.imp id fun k i h1 h2 => k i h1 (by omega)
theorem srt_left {x y mid : Nat} {e e4 e5 e6 : Array Nat} (hy : y ≤ e.size) (hm : x ≤ mid ∧ mid < y) (hP : PermIn x y e e4) (h1 : ∀ i, x ≤ i → i < mid → e4[i]! < e4[mid]!) (h2 : ∀ i, mid < i → i < y → e4[mid]! ≤ e4[i]!)
    (hL : Srt x mid e4 e5) (hR : Srt (mid + 1) y e5 e6) : Srt x y e e6 := by
  have s4 : e4.size = e.size := hP.1
  have s5 : e5.size = e.size := hL.1.1.trans s4
  have s6 : e6.size = e.size := hR.1.1.trans s5
  refine ⟨permIn_trans _ _ _ _ _ hP (permIn_trans _ _ _ _ _ (permIn_mono _ _ _ _ _ _ (Nat.le_refl _) (by omega) (by omega) hL.1) (permIn_mono _ _ _ _ _ _ (by omega) (Nat.le_refl _) (by omega) hR.1)), ?_⟩
  have l5 : ∀ i, x ≤ i → i < mid → e5[i]! < e4[mid]! := perm_all (fun v => v < e4[mid]!) (by omega) hL.1 h1
  have o5 : ∀ i, mid ≤ i → e5[i]! = e4[i]! := fun i h => hL.1.2.1 i (.inr h)
  have o6 : ∀ i, i < mid + 1 → e6[i]! = e5[i]! := fun i h => hR.1.2.1 i (.inl h)
  have r6 : ∀ i, mid + 1 ≤ i → i < y → e4[mid]! ≤ e6[i]! := perm_all (fun v => e4[mid]! ≤ v) (by omega) hR.1 fun i h3 h4 => by rw [o5 i (by omega)]; exact h2 i (by omega) h4
  intro i k hi hik hk
  have goal : e6[i]! ≤ e6[k]! := by
    by_cases c1 : k < mid
    · rw [o6 i (by omega), o6 k (by omega)]
      have := hL.2 i k hi hik c1
      simpa using this
    · by_cases c2 : k = mid
      · rw [o6 i (by omega), o6 k (by omega), c2, o5 mid (Nat.le_refl _)]
        have := l5 i hi (by omega)
        omega
      · have c3 := r6 k (by omega) hk
        by_cases c4 : i < mid
        · rw [o6 i (by omega)]
          have := l5 i hi c4
          omega
        · by_cases c5 : i = mid
          · rw [o6 i (by omega), c5, o5 mid (Nat.le_refl _)]
            exact c3
          · have := hR.2 i k (by omega) hik hk
            simpa using this
  simpa using goal
theorem srt_right {x y mid : Nat} {e e4 e5 e6 : Array Nat} (hy : y ≤ e.size) (hm : x ≤ mid ∧ mid < y) (hP : PermIn x y e e4) (h1 : ∀ i, x ≤ i → i < mid → e4[i]! < e4[mid]!) (h2 : ∀ i, mid < i → i < y → e4[mid]! ≤ e4[i]!)
    (hR : Srt (mid + 1) y e4 e5) (hL : Srt x mid e5 e6) : Srt x y e e6 := by
  have s4 : e4.size = e.size := hP.1
  have s5 : e5.size = e.size := hR.1.1.trans s4
  have s6 : e6.size = e.size := hL.1.1.trans s5
  refine ⟨permIn_trans _ _ _ _ _ hP (permIn_trans _ _ _ _ _ (permIn_mono _ _ _ _ _ _ (by omega) (Nat.le_refl _) (by omega) hR.1) (permIn_mono _ _ _ _ _ _ (Nat.le_refl _) (by omega) (by omega) hL.1)), ?_⟩
  have r5 : ∀ i, mid + 1 ≤ i → i < y → e4[mid]! ≤ e5[i]! := perm_all (fun v => e4[mid]! ≤ v) (by omega) hR.1 fun i h3 h4 => h2 i (by omega) h4
  have o5 : ∀ i, i < mid + 1 → e5[i]! = e4[i]! := fun i h => hR.1.2.1 i (.inl h)
  have o6 : ∀ i, mid ≤ i → e6[i]! = e5[i]! := fun i h => hL.1.2.1 i (.inr h)
  have l6 : ∀ i, x ≤ i → i < mid → e6[i]! < e4[mid]! := perm_all (fun v => v < e4[mid]!) (by omega) hL.1 fun i h3 h4 => by rw [o5 i (by omega)]; exact h1 i h3 h4
  intro i k hi hik hk
  have goal : e6[i]! ≤ e6[k]! := by
    by_cases c1 : k < mid
    · have := hL.2 i k hi hik c1
      simpa using this
    · by_cases c2 : k = mid
      · rw [o6 k (by omega), c2, o5 mid (by omega)]
        have := l6 i hi (by omega)
        omega
      · have c3 := r5 k (by omega) hk
        rw [o6 k (by omega)]
        by_cases c4 : i < mid
        · have := l6 i hi c4
          omega
        · rw [o6 i (by omega)]
          by_cases c5 : i = mid
          · rw [c5, o5 mid (by omega)]
            exact c3
          · have := hR.2 i k (by omega) hik hk
            simpa using this
  simpa using goal
theorem srt_eq {x y mid w : Nat} {e e4 e5 : Array Nat} (hy : y ≤ e.size) (hm : x < mid ∧ mid ≤ y) (hP : PermIn x y e e4) (h0 : ∀ i, x ≤ i → i < y → w ≤ e[i]!) (h1 : ∀ i, x ≤ i → i < mid → e4[i]! ≤ w) (h2 : ∀ i, mid ≤ i → i < y → w < e4[i]!)
    (hR : Srt mid y e4 e5) : Srt x y e e5 := by
  have s4 : e4.size = e.size := hP.1
  refine ⟨permIn_trans _ _ _ _ _ hP (permIn_mono _ _ _ _ _ _ (by omega) (Nat.le_refl _) (by omega) hR.1), ?_⟩
  have r5 : ∀ i, mid ≤ i → i < y → w < e5[i]! := perm_all (fun v => w < v) (by omega) hR.1 h2
  have o5 : ∀ i, i < mid → e5[i]! = e4[i]! := fun i h => hR.1.2.1 i (.inl h)
  have g4 : ∀ i, x ≤ i → i < y → w ≤ e4[i]! := perm_all (fun v => w ≤ v) hy hP h0
  intro i k hi hik hk
  have goal : e5[i]! ≤ e5[k]! := by
    by_cases c1 : k < mid
    · rw [o5 i (by omega), o5 k c1]
      have := h1 i hi (by omega)
      have := g4 k (by omega) hk
      omega
    · have := r5 k (by omega) hk
      by_cases c2 : i < mid
      · rw [o5 i c2]
        have := h1 i hi c2
        omega
      · have := hR.2 i k (by omega) hik hk
        simpa using this
  simpa using goal
end Go.Proofs.YtlhgpodfhdddkaaGreatDoor
