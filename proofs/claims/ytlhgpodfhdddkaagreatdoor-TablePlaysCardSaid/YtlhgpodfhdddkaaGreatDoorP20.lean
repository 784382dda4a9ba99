/- slices.Sort at numbers of 64 bits: heap sort, reversing. slices.Sort at numbers of 64 bits: partitions. -/
import Derived.Test.YtlhgpodfhdddkaaGreatDoorP19
set_option linter.unusedSimpArgs false
set_option linter.unusedVariables false
set_option linter.unnecessarySimpa false
namespace Go.Proofs.YtlhgpodfhdddkaaGreatDoor
open Rg Go Go.RowKit
variable {H : Heap}
theorem heapBuild_size {lt : Nat → Nat → Bool} {hi first : Nat} : ∀ (k : Nat) (d : Array Nat), (Go.Sort.heapBuild lt hi first k d).size = d.size
  | 0, _ => rfl
  | k + 1, d => by rw [Go.Sort.heapBuild, heapBuild_size k, siftDown_size _ _ _ (Nat.le_refl _)]
set_option maxHeartbeats 4000000 in
theorem c_heap {b n cap : Nat} {T : TypeId} {rest : List AV} {d : Array Nat} (hn : d.size = n) (i j : Nat) (hij : i < j) (hj : j ≤ n) (hl : n ≤ 1000000) (h : H b = some (rowC T d rest)) :
    AOk Tryz.prog 89 [slV b n cap, .sc (.int .i64 (i : Int)), .sc (.int .i64 (j : Int))] H (.tup []) (H.set b (rowC T (Go.Sort.heapSort ltN d i j) rest)) := by
  refine ACalls.into Tryz.func89 rfl Tryz.ntmps89 Tryz.results89 (by simp) ?_
  unfold Go.Sort.heapSort
  obtain ⟨hi, hhi⟩ : ∃ hi, j - i = hi := ⟨_, rfl⟩
  rw [hhi]
  obtain ⟨m0, hm0⟩ : ∃ m0, (hi - 1) / 2 = m0 := ⟨_, rfl⟩
  rw [hm0]
  have y1 : IntKind.i64.wrap ((j : Int) - (i : Int)) = (hi : Int) := by rw [wrap_i64 (by omega) (by omega)]; omega
  have y2 : IntKind.i64.wrap ((hi : Int) - 1) = ((hi - 1 : Nat) : Int) := by rw [wrap_i64 (by omega) (by omega)]; omega
  have y3 : ((hi - 1 : Nat) : Int).tdiv 2 = (m0 : Int) := by rw [Int.tdiv_eq_ediv_of_nonneg (by omega)]; omega
  have y4 : IntKind.i64.wrap (m0 : Int) = (m0 : Int) := wrap_i64 (by omega) (by omega)
  obtain ⟨h1, hh1⟩ : ∃ x, hi - 1 = x := ⟨_, rfl⟩
  rw [hh1] at y2 y3
  obtain ⟨D, hD⟩ : ∃ D, Go.Sort.heapBuild ltN hi i (m0 + 1) d = D := ⟨_, rfl⟩
  have hDn : D.size = n := by rw [← hD, heapBuild_size]; exact hn
  rw [hD]
  obtain ⟨F, hF⟩ : ∃ F, Go.Sort.heapPop ltN i hi D = F := ⟨_, rfl⟩
  rw [hF]
  generalize hR : ROk _ _ = R
  simp -implicitDefEqProofs [y1, y2, y3, y4]
  refine AGo.joinLoop (fun ρ K => ρ 0 = slV b n cap ∧ ρ 6 = .sc (.int .i64 (i : Int)) ∧ ρ 7 = .sc (.int .i64 0) ∧ ρ 8 = .sc (.int .i64 (hi : Int)) ∧ K = H.set b (rowC T D rest)) (fun k' hk' => ?_) ?_
  · refine AGo.rounds (fun m ρ K => ∃ (k : Nat) (e : Array Nat), m = k ∧ k ≤ m0 + 1 ∧ e.size = n ∧ Go.Sort.heapBuild ltN hi i k e = D ∧ ρ 0 = slV b n cap ∧ ρ 6 = .sc (.int .i64 (i : Int)) ∧ ρ 7 = .sc (.int .i64 0) ∧ ρ 8 = .sc (.int .i64 (hi : Int)) ∧ ρ 9 = .sc (.int .i64 ((k : Int) - 1)) ∧ K = H.set b (rowC T e rest)) ?_ (m := m0 + 1) (HLe.refl H)
      ⟨m0 + 1, d, rfl, Nat.le_refl _, hn, hD, by simp, by simp, by simp, by simp, by simp, (set_same h).symm⟩
    rintro m ρ K ih ⟨k, e, rfl, hk, hen, hD', r0, r6, r7, r8, r9, rfl⟩
    cases m with
    | zero =>
      rw [Go.Sort.heapBuild] at hD'
      subst hD'
      simp -implicitDefEqProofs [r0, r6, r7, r8, r9]
      exact hk' _ _ ⟨by simp [r0], by simp [r6], by simp [r7], by simp [r8], rfl⟩
    | succ k =>
      rw [Go.Sort.heapBuild] at hD'
      have e1 : ((k + 1 : Nat) : Int) - 1 = (k : Int) := by omega
      rw [e1] at r9
      have z1 : (0 : Int) ≤ (k : Int) := by omega
      have y5 : IntKind.i64.wrap ((k : Int) - 1) = (k : Int) - 1 := wrap_i64 (by omega) (by omega)
      have hc := c_sift (H := H.set b (rowC T e rest)) (b := b) (n := n) (cap := cap) (T := T) (rest := rest) (d := e) hen k hi i (by omega) (by omega) hl (by simp [Heap.set])
      rw [Heap.set_set] at hc
      simp -implicitDefEqProofs [r0, r6, r7, r8, r9, z1]
      refine ACall.eq hc ?_
      simp -implicitDefEqProofs [r9, y5]
      exact AGo.again ih (m' := k) (by omega) (HLe.refl _) ⟨k, _, rfl, by omega, by rw [siftDown_size _ _ _ (Nat.le_refl _)]; exact hen, hD', by simp [r0], by simp [r6], by simp [r7], by simp [r8], by simp, rfl⟩
  · rintro ρ K ⟨r0, r6, r7, r8, rfl⟩
    simp -implicitDefEqProofs [r0, r6, r7, r8, y2]
    refine AGo.rounds (fun m ρ K => ∃ (k : Nat) (e : Array Nat), m = k ∧ k ≤ hi ∧ e.size = n ∧ Go.Sort.heapPop ltN i k e = F ∧ ρ 0 = slV b n cap ∧ ρ 6 = .sc (.int .i64 (i : Int)) ∧ ρ 7 = .sc (.int .i64 0) ∧ ρ 10 = .sc (.int .i64 ((k : Int) - 1)) ∧ K = H.set b (rowC T e rest)) ?_ (m := hi) (HLe.refl _)
      ⟨hi, D, rfl, Nat.le_refl _, hDn, hF, by simp [r0], by simp [r6], by simp [r7], by simp; omega, rfl⟩
    clear r0 r6 r7 r8
    rintro m ρ K ih ⟨k, e, rfl, hk, hen, hF', r0, r6, r7, r10, rfl⟩
    cases m with
    | zero =>
      rw [Go.Sort.heapPop] at hF'
      subst hF'
      simp -implicitDefEqProofs [r0, r6, r7, r10]
      subst hR
      exact AFin.intro _ _ (wk_refl _) (HWk.refl _) ⟨rfl, rfl⟩
    | succ k =>
      rw [Go.Sort.heapPop] at hF'
      have e1 : ((k + 1 : Nat) : Int) - 1 = (k : Int) := by omega
      rw [e1] at r10
      have z1 : (0 : Int) ≤ (k : Int) := by omega
      have y5 : IntKind.i64.wrap ((k : Int) - 1) = (k : Int) - 1 := wrap_i64 (by omega) (by omega)
      obtain ⟨ik, hik⟩ : ∃ x, i + k = x := ⟨_, rfl⟩
      rw [hik] at hF'
      have y6 : IntKind.i64.wrap ((i : Int) + (k : Int)) = (ik : Int) := by rw [wrap_i64 (by omega) (by omega)]; omega
      have n0 : i < n := by omega
      have n1 : ik < n := by omega
      have s0 : i < e.size := by omega
      have s1 : ik < e.size := by omega
      have g0 := row_get (rest := rest) s0
      have g1 := row_get (rest := rest) s1
      obtain ⟨x0, hx0⟩ : ∃ x, e[i]! = x := ⟨_, rfl⟩
      obtain ⟨x1, hx1⟩ : ∃ x, e[ik]! = x := ⟨_, rfl⟩
      rw [hx0] at g0
      rw [hx1] at g1
      have hc := c_sift (H := H.set b (rowC T (Go.Sort.swp e i ik) rest)) (b := b) (n := n) (cap := cap) (T := T) (rest := rest) (d := Go.Sort.swp e i ik) (by rw [swp_size]; exact hen) 0 k i (by omega) (by omega) hl (by simp [Heap.set])
      rw [Heap.set_set] at hc
      simp -implicitDefEqProofs [r0, r6, r7, r10, z1]
      refine atRho fun ρ2 hρ2 => ?_
      have u0 : ρ2 0 = slV b n cap := by rw [hρ2]; simp [r0, r6, r7, r10]
      have u6 : ρ2 6 = .sc (.int .i64 (i : Int)) := by rw [hρ2]; simp [r0, r6, r7, r10]
      have u7 : ρ2 7 = .sc (.int .i64 0) := by rw [hρ2]; simp [r0, r6, r7, r10]
      have u10 : ρ2 10 = .sc (.int .i64 (k : Int)) := by rw [hρ2]; simp [r0, r6, r7, r10]
      clear hρ2 r0 r6 r7 r10
      have rs2 : ((e.toList.map uAV).set i (uAV x1) ++ rest).set ik (uAV x0) = (Go.Sort.swp e i ik).toList.map uAV ++ rest := swap_cells s0 s1 hx0 hx1
      have rs3 : ((e.toList.map uAV ++ rest).set i (uAV x1)).set ik (uAV x0) = (Go.Sort.swp e i ik).toList.map uAV ++ rest := swap_cells2 s0 s1 hx0 hx1
      have cI : i + 1 ≤ e.size + rest.length := by omega
      have cJ : ik + 1 ≤ e.size + rest.length := by omega
      refine go_draw3J (fun ρ' K' => ρ' 0 = ρ2 0 ∧ ρ' 6 = ρ2 6 ∧ ρ' 7 = ρ2 7 ∧ ρ' 10 = ρ2 10 ∧ K' = H.set b (rowC T (Go.Sort.swp e i ik) rest)) [0, 1, 2, 3, 4, 5, 6, 7, 8, 9, 10, 12, 13, 14] (fun _ => none) f_mixed (by decide +kernel) HC.nothing ?_ ?_
      · simp -implicitDefEqProofs
        repeat (refine aq3_op ?_; simp -implicitDefEqProofs [u0, u6, u7, u10, y6, n0, n1])
        refine AWK.two 11 15 (by decide +kernel) ?_ ?_
        · refine AWE.op rfl ?_
          simp -implicitDefEqProofs [rd_row, g0, g1]
          refine AWK.one 15 (by decide +kernel) ?_
          refine AWE.op rfl ?_
          simp -implicitDefEqProofs [rd_row, g0, g1]
          refine AWK.one 16 (by decide +kernel) ?_
          refine AWE.op rfl ?_
          simp -implicitDefEqProofs [u0, u6, u7, u10, y6, n0, n1]
          refine AWK.one 17 (by decide +kernel) ?_
          refine AWE.op rfl ?_
          simp -implicitDefEqProofs [st_row, cI]
          refine AWS.store (by simp [Heap.set]; exact ⟨rfl, rfl⟩) HC.nothing ?_
          simp only [lset]
          refine AWK.one 18 (by decide +kernel) ?_
          refine AWE.op rfl ?_
          simp -implicitDefEqProofs [u0, u6, u7, u10, y6, n0, n1]
          refine AWK.one 19 (by decide +kernel) ?_
          refine AWE.op rfl ?_
          simp -implicitDefEqProofs [st_row, cJ]
          refine AWS.store (by simp [Heap.set]; exact ⟨rfl, rfl⟩) HC.nothing ?_
          simp only [lset]
          refine AWK.fin (by decide +kernel) ?_
          refine ⟨by simp [u0, u6, u7, u10, y6, n0, n1], by simp [u0, u6, u7, u10, y6, n0, n1], by simp [u0, u6, u7, u10, y6, n0, n1], by simp [u0, u6, u7, u10, y6, n0, n1], ?_⟩
          try rw [Heap.set_set]
          exact congrArg (fun x => H.set b (.cells x T)) (by first | exact rs2 | exact rs3)
        · refine AWE.op rfl ?_
          simp -implicitDefEqProofs [rd_row, g0, g1]
          refine AWK.one 11 (by decide +kernel) ?_
          refine AWE.op rfl ?_
          simp -implicitDefEqProofs [rd_row, g0, g1]
          refine AWK.one 16 (by decide +kernel) ?_
          refine AWE.op rfl ?_
          simp -implicitDefEqProofs [u0, u6, u7, u10, y6, n0, n1]
          refine AWK.one 17 (by decide +kernel) ?_
          refine AWE.op rfl ?_
          simp -implicitDefEqProofs [st_row, cI]
          refine AWS.store (by simp [Heap.set]; exact ⟨rfl, rfl⟩) HC.nothing ?_
          simp only [lset]
          refine AWK.one 18 (by decide +kernel) ?_
          refine AWE.op rfl ?_
          simp -implicitDefEqProofs [u0, u6, u7, u10, y6, n0, n1]
          refine AWK.one 19 (by decide +kernel) ?_
          refine AWE.op rfl ?_
          simp -implicitDefEqProofs [st_row, cJ]
          refine AWS.store (by simp [Heap.set]; exact ⟨rfl, rfl⟩) HC.nothing ?_
          simp only [lset]
          refine AWK.fin (by decide +kernel) ?_
          refine ⟨by simp [u0, u6, u7, u10, y6, n0, n1], by simp [u0, u6, u7, u10, y6, n0, n1], by simp [u0, u6, u7, u10, y6, n0, n1], by simp [u0, u6, u7, u10, y6, n0, n1], ?_⟩
          try rw [Heap.set_set]
          exact congrArg (fun x => H.set b (.cells x T)) (by first | exact rs2 | exact rs3)
      rintro ρ3 K3 ⟨h0, h6, h7, h10, rfl⟩
      rw [u0] at h0; rw [u6] at h6; rw [u7] at h7; rw [u10] at h10
      simp -implicitDefEqProofs [h0, h6, h7, h10]
      refine ACall.eq hc ?_
      simp -implicitDefEqProofs [h10, y5]
      exact AGo.again ih (m' := k) (by omega) (HLe.refl _) ⟨k, _, rfl, by omega, by rw [siftDown_size _ _ _ (Nat.le_refl _), swp_size]; exact hen, hF', by simp [h0], by simp [h6], by simp [h7], by simp, rfl⟩
end Go.Proofs.YtlhgpodfhdddkaaGreatDoor
namespace Go.Proofs.YtlhgpodfhdddkaaGreatDoor
open Rg Go Go.RowKit
variable {H : Heap}
theorem scanUp_ge {p : Nat → Bool} {d : Array Nat} {j : Nat} : ∀ (m i : Nat), j + 1 - i ≤ m → i ≤ Go.Sort.scanUp p d j i ∧ (i ≤ j + 1 → Go.Sort.scanUp p d j i ≤ j + 1) := by
  intro m
  induction m with
  | zero =>
    intro i h
    rw [Go.Sort.scanUp, if_neg (by simp; omega)]
    exact ⟨Nat.le_refl _, fun h => h⟩
  | succ m ih =>
    intro i h
    rw [Go.Sort.scanUp]
    split
    · rename_i hc
      have hij : i ≤ j := by simp only [Bool.and_eq_true, decide_eq_true_eq] at hc; exact hc.1
      have := ih (i + 1) (by omega)
      exact ⟨by omega, fun _ => this.2 (by omega)⟩
    · exact ⟨Nat.le_refl _, fun h => h⟩
theorem scanDown_le {p : Nat → Bool} {d : Array Nat} {i : Nat} : ∀ (j : Nat), Go.Sort.scanDown p d i j ≤ j ∧ (i ≤ j + 1 → i ≤ Go.Sort.scanDown p d i j + 1)
  | 0 => by rw [Go.Sort.scanDown]; exact ⟨Nat.le_refl _, fun h => h⟩
  | j + 1 => by
    rw [Go.Sort.scanDown]
    have := scanDown_le (p := p) (d := d) (i := i) j
    split
    · rename_i hc
      have hij : i ≤ j + 1 := by simp only [Bool.and_eq_true, decide_eq_true_eq] at hc; exact hc.1
      exact ⟨by omega, fun _ => this.2 (by omega)⟩
    · exact ⟨Nat.le_refl _, fun h => h⟩
set_option maxHeartbeats 8000000 in
theorem c_part {b n cap : Nat} {T : TypeId} {rest : List AV} {d : Array Nat} (hn : d.size = n) (a j0 pv : Nat) (haj : a < j0) (hj : j0 ≤ n) (hpa : a ≤ pv) (hpj : pv < j0) (hl : n ≤ 1000000) (h : H b = some (rowC T d rest)) :
    AOk Tryz.prog 96 [slV b n cap, .sc (.int .i64 (a : Int)), .sc (.int .i64 (j0 : Int)), .sc (.int .i64 (pv : Int))] H
      (.tup [.sc (.int .i64 ((Go.Sort.partition ltN d a j0 pv).1 : Int)), .sc (.bool (Go.Sort.partition ltN d a j0 pv).2.1)]) (H.set b (rowC T (Go.Sort.partition ltN d a j0 pv).2.2 rest)) := by
  obtain ⟨Q, hQ⟩ : ∃ Q, Go.Sort.partition ltN d a j0 pv = Q := ⟨_, rfl⟩
  rw [hQ]
  refine ACalls.into Tryz.func96 rfl Tryz.ntmps96 Tryz.results96 (by simp) ?_
  obtain ⟨hi, hhi⟩ : ∃ x, j0 - 1 = x := ⟨_, rfl⟩
  unfold Go.Sort.partition at hQ
  rw [hhi] at hQ
  obtain ⟨d1, hd1⟩ : ∃ d1, Go.Sort.swp d a pv = d1 := ⟨_, rfl⟩
  have hd1n : d1.size = n := by rw [← hd1, swp_size]; exact hn
  rw [hd1] at hQ
  have y1 : IntKind.i64.wrap ((j0 : Int) - 1) = (hi : Int) := by rw [wrap_i64 (by omega) (by omega)]; omega
  have y2 : IntKind.i64.wrap ((a : Int) + 1) = ((a + 1 : Nat) : Int) := by rw [wrap_i64 (by omega) (by omega)]; omega
  generalize hR : ROk _ _ = R
  have n0 : a < n := by omega
  have n1 : pv < n := by omega
  have s0 : a < d.size := by omega
  have s1 : pv < d.size := by omega
  have g0 := row_get (rest := rest) s0
  have g1 := row_get (rest := rest) s1
  obtain ⟨x0, hx0⟩ : ∃ x, d[a]! = x := ⟨_, rfl⟩
  obtain ⟨x1, hx1⟩ : ∃ x, d[pv]! = x := ⟨_, rfl⟩
  rw [hx0] at g0
  rw [hx1] at g1
  rw [← set_same h]
  simp -implicitDefEqProofs
  refine atRho fun ρ2 hρ2 => ?_
  have u0 : ρ2 0 = slV b n cap := by rw [hρ2]; simp []
  have u1 : ρ2 1 = .sc (.int .i64 (a : Int)) := by rw [hρ2]; simp []
  have u2 : ρ2 2 = .sc (.int .i64 (j0 : Int)) := by rw [hρ2]; simp []
  have u3 : ρ2 3 = .sc (.int .i64 (pv : Int)) := by rw [hρ2]; simp []
  clear hρ2
  have rs2 : ((d.toList.map uAV).set a (uAV x1) ++ rest).set pv (uAV x0) = (Go.Sort.swp d a pv).toList.map uAV ++ rest := swap_cells s0 s1 hx0 hx1
  have rs3 : ((d.toList.map uAV ++ rest).set a (uAV x1)).set pv (uAV x0) = (Go.Sort.swp d a pv).toList.map uAV ++ rest := swap_cells2 s0 s1 hx0 hx1
  have cI : a + 1 ≤ d.size + rest.length := by omega
  have cJ : pv + 1 ≤ d.size + rest.length := by omega
  refine go_draw3J (fun ρ' K' => ρ' 0 = ρ2 0 ∧ ρ' 1 = ρ2 1 ∧ ρ' 2 = ρ2 2 ∧ ρ' 3 = ρ2 3 ∧ K' = H.set b (rowC T (Go.Sort.swp d a pv) rest)) [0, 1, 2, 3, 4, 5, 6, 8, 9, 10] (fun _ => none) f_mixed (by decide +kernel) HC.nothing ?_ ?_
  · simp -implicitDefEqProofs
    repeat (refine aq3_op ?_; simp -implicitDefEqProofs [u0, u1, u2, u3, n0, n1])
    refine AWK.two 7 11 (by decide +kernel) ?_ ?_
    · refine AWE.op rfl ?_
      simp -implicitDefEqProofs [rd_row, g0, g1]
      refine AWK.one 11 (by decide +kernel) ?_
      refine AWE.op rfl ?_
      simp -implicitDefEqProofs [rd_row, g0, g1]
      refine AWK.one 12 (by decide +kernel) ?_
      refine AWE.op rfl ?_
      simp -implicitDefEqProofs [u0, u1, u2, u3, n0, n1]
      refine AWK.one 13 (by decide +kernel) ?_
      refine AWE.op rfl ?_
      simp -implicitDefEqProofs [st_row, cI]
      refine AWS.store (by simp [Heap.set]; exact ⟨rfl, rfl⟩) HC.nothing ?_
      simp only [lset]
      refine AWK.one 14 (by decide +kernel) ?_
      refine AWE.op rfl ?_
      simp -implicitDefEqProofs [u0, u1, u2, u3, n0, n1]
      refine AWK.one 15 (by decide +kernel) ?_
      refine AWE.op rfl ?_
      simp -implicitDefEqProofs [st_row, cJ]
      refine AWS.store (by simp [Heap.set]; exact ⟨rfl, rfl⟩) HC.nothing ?_
      simp only [lset]
      refine AWK.fin (by decide +kernel) ?_
      refine ⟨by simp [u0, u1, u2, u3, n0, n1], by simp [u0, u1, u2, u3, n0, n1], by simp [u0, u1, u2, u3, n0, n1], by simp [u0, u1, u2, u3, n0, n1], ?_⟩
      try rw [Heap.set_set]
      exact congrArg (fun x => H.set b (.cells x T)) (by first | exact rs2 | exact rs3)
    · refine AWE.op rfl ?_
      simp -implicitDefEqProofs [rd_row, g0, g1]
      refine AWK.one 7 (by decide +kernel) ?_
      refine AWE.op rfl ?_
      simp -implicitDefEqProofs [rd_row, g0, g1]
      refine AWK.one 12 (by decide +kernel) ?_
      refine AWE.op rfl ?_
      simp -implicitDefEqProofs [u0, u1, u2, u3, n0, n1]
      refine AWK.one 13 (by decide +kernel) ?_
      refine AWE.op rfl ?_
      simp -implicitDefEqProofs [st_row, cI]
      refine AWS.store (by simp [Heap.set]; exact ⟨rfl, rfl⟩) HC.nothing ?_
      simp only [lset]
      refine AWK.one 14 (by decide +kernel) ?_
      refine AWE.op rfl ?_
      simp -implicitDefEqProofs [u0, u1, u2, u3, n0, n1]
      refine AWK.one 15 (by decide +kernel) ?_
      refine AWE.op rfl ?_
      simp -implicitDefEqProofs [st_row, cJ]
      refine AWS.store (by simp [Heap.set]; exact ⟨rfl, rfl⟩) HC.nothing ?_
      simp only [lset]
      refine AWK.fin (by decide +kernel) ?_
      refine ⟨by simp [u0, u1, u2, u3, n0, n1], by simp [u0, u1, u2, u3, n0, n1], by simp [u0, u1, u2, u3, n0, n1], by simp [u0, u1, u2, u3, n0, n1], ?_⟩
      try rw [Heap.set_set]
      exact congrArg (fun x => H.set b (.cells x T)) (by first | exact rs2 | exact rs3)
  rintro ρ3 K3 ⟨h0, h1, h2, h3, rfl⟩
  rw [u0] at h0; rw [u1] at h1; rw [u2] at h2; rw [u3] at h3
  rw [hd1]
  clear rs2 rs3 cI cJ u0 u1 u2 u3 g0 g1 s0 s1 hx0 hx1 x0 x1
  simp -implicitDefEqProofs [h0, h1, h2, y1, y2]
  obtain ⟨e, he⟩ : ∃ e, d1 = e := ⟨_, rfl⟩
  rw [he] at hQ hd1n ⊢
  clear he hd1 d1
  have na := n0
  have za : a < e.size := by omega
  have ga := row_get (rest := rest) za
  obtain ⟨xa, hxa0⟩ : ∃ x, e[a]! = x := ⟨_, rfl⟩
  rw [hxa0] at ga
  obtain ⟨i2, hi2⟩ : ∃ x, Go.Sort.scanUp (fun x => ltN x e[a]!) e hi (a + 1) = x := ⟨_, rfl⟩
  obtain ⟨j2, hj2⟩ : ∃ x, Go.Sort.scanDown (fun x => !ltN x e[a]!) e i2 hi = x := ⟨_, rfl⟩
  dsimp only at hQ
  rw [hi2, hj2] at hQ
  have bU := scanUp_ge (p := fun x => ltN x e[a]!) (d := e) (j := hi) _ (a + 1) (Nat.le_refl _)
  have bD := scanDown_le (p := fun x => !ltN x e[a]!) (d := e) (i := i2) hi
  rw [hi2] at bU
  rw [hj2] at bD
  refine AGo.joinLoop (fun ρ K => ρ 0 = slV b n cap ∧ ρ 1 = .sc (.int .i64 (a : Int)) ∧ ρ 11 = .sc (.int .i64 (hi : Int)) ∧ ρ 10 = .sc (.int .i64 (i2 : Int)) ∧ K = H.set b (rowC T e rest)) (fun k' hk' => ?_) ?_
  · refine AGo.rounds (fun m ρ K => ∃ x : Nat, m = hi + 1 - x ∧ a + 1 ≤ x ∧ x ≤ n ∧ Go.Sort.scanUp (fun x => ltN x e[a]!) e hi x = i2 ∧ ρ 0 = slV b n cap ∧ ρ 1 = .sc (.int .i64 (a : Int)) ∧ ρ 11 = .sc (.int .i64 (hi : Int)) ∧ ρ 10 = .sc (.int .i64 (x : Int)) ∧ K = H.set b (rowC T e rest)) ?_ (m := hi + 1 - (a + 1)) (HLe.refl _)
      ⟨(a + 1), rfl, by omega, by omega, hi2, by simp [h0, h1, h2], by simp [h0, h1, h2], by simp [h0, h1, h2], by simp [h0, h1, h2], rfl⟩
    clear h0 h1 h2 h3
    rintro m ρ K ih ⟨x, rfl, hxa, hxn, hs, r0, r1, rfix, rvar, rfl⟩
    rw [Go.Sort.scanUp] at hs
    simp -implicitDefEqProofs [r0, r1, rfix, rvar]
    first | refine go_draw 15 f_mixed (by decide +kernel) ?_ | refine go_draw 14 f_mixed (by decide +kernel) ?_ | refine go_draw 13 f_mixed (by decide +kernel) ?_
    by_cases hxj : x ≤ hi
    · have hxj' : (x : Int) ≤ (hi : Int) := by omega
      have w1 : IntKind.i64.wrap ((x : Int) + 1) = ((x + 1 : Nat) : Int) := by rw [wrap_i64 (by omega) (by omega)]; omega
      have nx : x < n := by omega
      have zx : x < e.size := by omega
      have gx := row_get (rest := rest) zx
      obtain ⟨x1, hx1⟩ : ∃ z, e[x]! = z := ⟨_, rfl⟩
      rw [hx1] at gx
      simp -implicitDefEqProofs [r0, r1, rfix, rvar, hxj', rd_row, ga, gx, na, nx]
      refine AQS.eq (c_less _ _) ?_
      by_cases hp : ltN x1 xa = true
      · rw [if_pos (by simp only [hx1, hxa0, hp]; simp; omega)] at hs
        simp -implicitDefEqProofs [hp, rvar, w1]
        exact AGo.again ih (m' := hi + 1 - (x + 1)) (by omega) (HLe.refl _) ⟨x + 1, rfl, by omega, by omega, hs, by simp [r0], by simp [r1], by simp [rfix], by simp, rfl⟩
      · have hp : ltN x1 xa = false := by simpa using hp
        rw [if_neg (by simp only [hx1, hxa0, hp]; simp)] at hs
        subst hs
        simp -implicitDefEqProofs [hp]
        exact hk' _ _ ⟨by simp [r0], by simp [r1], by simp [rfix], by simp [rvar], rfl⟩
    · have hxj' : ¬ (x : Int) ≤ (hi : Int) := by omega
      rw [if_neg (by simp; omega)] at hs
      subst hs
      simp -implicitDefEqProofs [r0, r1, rfix, rvar, hxj']
      exact hk' _ _ ⟨by simp [r0], by simp [r1], by simp [rfix], by simp [rvar], rfl⟩
  · rintro ρ4 K4 ⟨p0, p1, pJ, pI, rfl⟩
    simp -implicitDefEqProofs
    refine AGo.joinLoop (fun ρ K => ρ 0 = slV b n cap ∧ ρ 1 = .sc (.int .i64 (a : Int)) ∧ ρ 10 = .sc (.int .i64 (i2 : Int)) ∧ ρ 11 = .sc (.int .i64 (j2 : Int)) ∧ K = H.set b (rowC T e rest)) (fun k' hk' => ?_) ?_
    · refine AGo.rounds (fun m ρ K => ∃ x : Nat, m = x ∧ x < n ∧ Go.Sort.scanDown (fun x => !ltN x e[a]!) e i2 x = j2 ∧ ρ 0 = slV b n cap ∧ ρ 1 = .sc (.int .i64 (a : Int)) ∧ ρ 10 = .sc (.int .i64 (i2 : Int)) ∧ ρ 11 = .sc (.int .i64 (x : Int)) ∧ K = H.set b (rowC T e rest)) ?_ (m := hi) (HLe.refl _)
        ⟨hi, rfl, by omega, hj2, by simp [p0, p1, pJ, pI], by simp [p0, p1, pJ, pI], by simp [p0, p1, pJ, pI], by simp [p0, p1, pJ, pI], rfl⟩
      clear p0 p1 pJ pI
      rintro m ρ K ih ⟨x, rfl, hxn, hs, r0, r1, rfix, rvar, rfl⟩
      cases m with
      | zero =>
        rw [Go.Sort.scanDown] at hs
        subst hs
        have hxj' : ¬ (i2 : Int) ≤ 0 := by omega
        have hxj2 : ¬ i2 = 0 := by omega
        simp -implicitDefEqProofs [r0, r1, rfix, rvar]
        first | refine go_draw 15 f_mixed (by decide +kernel) ?_ | refine go_draw 14 f_mixed (by decide +kernel) ?_ | refine go_draw 13 f_mixed (by decide +kernel) ?_
        simp -implicitDefEqProofs [r0, r1, rfix, rvar, hxj', hxj2]
        exact hk' _ _ ⟨by simp [r0], by simp [r1], by simp [rfix], by simp [rvar], rfl⟩
      | succ x =>
        rw [Go.Sort.scanDown] at hs
        simp -implicitDefEqProofs [r0, r1, rfix, rvar]
        first | refine go_draw 15 f_mixed (by decide +kernel) ?_ | refine go_draw 14 f_mixed (by decide +kernel) ?_ | refine go_draw 13 f_mixed (by decide +kernel) ?_
        by_cases hxj : i2 ≤ x + 1
        · have hxj' : (i2 : Int) ≤ (x : Int) + 1 := by omega
          have w1 : IntKind.i64.wrap (x : Int) = (x : Int) := wrap_i64 (by omega) (by omega)
          have tq : ((x : Int) + 1).toNat = x + 1 := by omega
          have nq : ¬ (x : Int) + 1 < 0 := by omega
          have nx : x + 1 < n := by omega
          have zx : x + 1 < e.size := by omega
          have gx := row_get (rest := rest) zx
          obtain ⟨x1, hx1⟩ : ∃ z, e[x + 1]! = z := ⟨_, rfl⟩
          rw [hx1] at gx
          simp -implicitDefEqProofs [r0, r1, rfix, rvar, hxj', tq, nq, rd_row, ga, gx, na, nx]
          refine AQS.eq (c_less _ _) ?_
          by_cases hp : ltN x1 xa = true
          · rw [if_neg (by simp only [hx1, hxa0, hp]; simp)] at hs
            subst hs
            simp -implicitDefEqProofs [hp]
            exact hk' _ _ ⟨by simp [r0], by simp [r1], by simp [rfix], by simp [rvar], rfl⟩
          · have hp : ltN x1 xa = false := by simpa using hp
            rw [if_pos (by simp only [hx1, hxa0, hp]; simp; omega)] at hs
            simp -implicitDefEqProofs [hp, rvar, w1]
            exact AGo.again ih (m' := x) (by omega) (HLe.refl _) ⟨x, rfl, by omega, hs, by simp [r0], by simp [r1], by simp [rfix], by simp, rfl⟩
        · have hxj' : ¬ (i2 : Int) ≤ (x : Int) + 1 := by omega
          rw [if_neg (by simp; omega)] at hs
          subst hs
          simp -implicitDefEqProofs [r0, r1, rfix, rvar, hxj']
          exact hk' _ _ ⟨by simp [r0], by simp [r1], by simp [rfix], by simp [rvar], rfl⟩
    · rintro ρ5 K5 ⟨q0, q1, qI, qJ, rfl⟩
      by_cases hgt : i2 > j2
      · have hgt' : (j2 : Int) < (i2 : Int) := by omega
        rw [if_pos hgt] at hQ
        have nj : j2 < n := by omega
        have sj : j2 < e.size := by omega
        have gj := row_get (rest := rest) sj
        obtain ⟨xj, hxj⟩ : ∃ x, e[j2]! = x := ⟨_, rfl⟩
        rw [hxj] at gj
        simp -implicitDefEqProofs [q0, q1, qI, qJ, hgt']
        refine atRho fun ρ2 hρ2 => ?_
        have u0 : ρ2 0 = slV b n cap := by rw [hρ2]; simp [q0, q1, qI, qJ]
        have u1 : ρ2 1 = .sc (.int .i64 (a : Int)) := by rw [hρ2]; simp [q0, q1, qI, qJ]
        have u10 : ρ2 10 = .sc (.int .i64 (i2 : Int)) := by rw [hρ2]; simp [q0, q1, qI, qJ]
        have u11 : ρ2 11 = .sc (.int .i64 (j2 : Int)) := by rw [hρ2]; simp [q0, q1, qI, qJ]
        clear hρ2
        have rs2 : ((e.toList.map uAV).set j2 (uAV xa) ++ rest).set a (uAV xj) = (Go.Sort.swp e j2 a).toList.map uAV ++ rest := swap_cells sj za hxj hxa0
        have rs3 : ((e.toList.map uAV ++ rest).set j2 (uAV xa)).set a (uAV xj) = (Go.Sort.swp e j2 a).toList.map uAV ++ rest := swap_cells2 sj za hxj hxa0
        have cI : j2 + 1 ≤ e.size + rest.length := by omega
        have cJ : a + 1 ≤ e.size + rest.length := by omega
        refine go_draw3J (fun ρ' K' => ρ' 0 = ρ2 0 ∧ ρ' 1 = ρ2 1 ∧ ρ' 10 = ρ2 10 ∧ ρ' 11 = ρ2 11 ∧ K' = H.set b (rowC T (Go.Sort.swp e j2 a) rest)) [0, 1, 2, 3, 4, 5, 6, 8, 9, 10] (fun _ => none) f_mixed (by decide +kernel) HC.nothing ?_ ?_
        · simp -implicitDefEqProofs
          repeat (refine aq3_op ?_; simp -implicitDefEqProofs [u0, u1, u10, u11, nj, n0])
          refine AWK.two 7 11 (by decide +kernel) ?_ ?_
          · refine AWE.op rfl ?_
            simp -implicitDefEqProofs [rd_row, gj, ga]
            refine AWK.one 11 (by decide +kernel) ?_
            refine AWE.op rfl ?_
            simp -implicitDefEqProofs [rd_row, gj, ga]
            refine AWK.one 12 (by decide +kernel) ?_
            refine AWE.op rfl ?_
            simp -implicitDefEqProofs [u0, u1, u10, u11, nj, n0]
            refine AWK.one 13 (by decide +kernel) ?_
            refine AWE.op rfl ?_
            simp -implicitDefEqProofs [st_row, cI]
            refine AWS.store (by simp [Heap.set]; exact ⟨rfl, rfl⟩) HC.nothing ?_
            simp only [lset]
            refine AWK.one 14 (by decide +kernel) ?_
            refine AWE.op rfl ?_
            simp -implicitDefEqProofs [u0, u1, u10, u11, nj, n0]
            refine AWK.one 15 (by decide +kernel) ?_
            refine AWE.op rfl ?_
            simp -implicitDefEqProofs [st_row, cJ]
            refine AWS.store (by simp [Heap.set]; exact ⟨rfl, rfl⟩) HC.nothing ?_
            simp only [lset]
            refine AWK.fin (by decide +kernel) ?_
            refine ⟨by simp [u0, u1, u10, u11, nj, n0], by simp [u0, u1, u10, u11, nj, n0], by simp [u0, u1, u10, u11, nj, n0], by simp [u0, u1, u10, u11, nj, n0], ?_⟩
            try rw [Heap.set_set]
            exact congrArg (fun x => H.set b (.cells x T)) (by first | exact rs2 | exact rs3)
          · refine AWE.op rfl ?_
            simp -implicitDefEqProofs [rd_row, gj, ga]
            refine AWK.one 7 (by decide +kernel) ?_
            refine AWE.op rfl ?_
            simp -implicitDefEqProofs [rd_row, gj, ga]
            refine AWK.one 12 (by decide +kernel) ?_
            refine AWE.op rfl ?_
            simp -implicitDefEqProofs [u0, u1, u10, u11, nj, n0]
            refine AWK.one 13 (by decide +kernel) ?_
            refine AWE.op rfl ?_
            simp -implicitDefEqProofs [st_row, cI]
            refine AWS.store (by simp [Heap.set]; exact ⟨rfl, rfl⟩) HC.nothing ?_
            simp only [lset]
            refine AWK.one 14 (by decide +kernel) ?_
            refine AWE.op rfl ?_
            simp -implicitDefEqProofs [u0, u1, u10, u11, nj, n0]
            refine AWK.one 15 (by decide +kernel) ?_
            refine AWE.op rfl ?_
            simp -implicitDefEqProofs [st_row, cJ]
            refine AWS.store (by simp [Heap.set]; exact ⟨rfl, rfl⟩) HC.nothing ?_
            simp only [lset]
            refine AWK.fin (by decide +kernel) ?_
            refine ⟨by simp [u0, u1, u10, u11, nj, n0], by simp [u0, u1, u10, u11, nj, n0], by simp [u0, u1, u10, u11, nj, n0], by simp [u0, u1, u10, u11, nj, n0], ?_⟩
            try rw [Heap.set_set]
            exact congrArg (fun x => H.set b (.cells x T)) (by first | exact rs2 | exact rs3)
        rintro ρ3 K3 ⟨h0, h1, h10, h11, rfl⟩
        rw [u0] at h0; rw [u1] at h1; rw [u10] at h10; rw [u11] at h11
        simp -implicitDefEqProofs [h11]
        subst hQ
        subst hR
        exact AFin.intro _ _ (wk_refl _) (HWk.refl _) ⟨rfl, rfl⟩
      · have hgt' : ¬ (j2 : Int) < (i2 : Int) := by omega
        rw [if_neg hgt] at hQ
        have ni : i2 < n := by omega
        have si : i2 < e.size := by omega
        have gi := row_get (rest := rest) si
        obtain ⟨xi, hxi⟩ : ∃ x, e[i2]! = x := ⟨_, rfl⟩
        rw [hxi] at gi
        have nj : j2 < n := by omega
        have sj : j2 < e.size := by omega
        have gj := row_get (rest := rest) sj
        obtain ⟨xj, hxj⟩ : ∃ x, e[j2]! = x := ⟨_, rfl⟩
        rw [hxj] at gj
        have w1 : IntKind.i64.wrap ((i2 : Int) + 1) = ((i2 + 1 : Nat) : Int) := by rw [wrap_i64 (by omega) (by omega)]; omega
        have w2 : IntKind.i64.wrap ((j2 : Int) - 1) = ((j2 - 1 : Nat) : Int) := by rw [wrap_i64 (by omega) (by omega)]; omega
        simp -implicitDefEqProofs [q0, q1, qI, qJ, hgt']
        refine atRho fun ρ2 hρ2 => ?_
        have u0 : ρ2 0 = slV b n cap := by rw [hρ2]; simp [q0, q1, qI, qJ]
        have u1 : ρ2 1 = .sc (.int .i64 (a : Int)) := by rw [hρ2]; simp [q0, q1, qI, qJ]
        have u10 : ρ2 10 = .sc (.int .i64 (i2 : Int)) := by rw [hρ2]; simp [q0, q1, qI, qJ]
        have u11 : ρ2 11 = .sc (.int .i64 (j2 : Int)) := by rw [hρ2]; simp [q0, q1, qI, qJ]
        clear hρ2
        have rs2 : ((e.toList.map uAV).set i2 (uAV xj) ++ rest).set j2 (uAV xi) = (Go.Sort.swp e i2 j2).toList.map uAV ++ rest := swap_cells si sj hxi hxj
        have rs3 : ((e.toList.map uAV ++ rest).set i2 (uAV xj)).set j2 (uAV xi) = (Go.Sort.swp e i2 j2).toList.map uAV ++ rest := swap_cells2 si sj hxi hxj
        have cI : i2 + 1 ≤ e.size + rest.length := by omega
        have cJ : j2 + 1 ≤ e.size + rest.length := by omega
        refine go_draw3J (fun ρ' K' => ρ' 0 = ρ2 0 ∧ ρ' 1 = ρ2 1 ∧ ρ' 10 = ρ2 10 ∧ ρ' 11 = ρ2 11 ∧ K' = H.set b (rowC T (Go.Sort.swp e i2 j2) rest)) [0, 1, 2, 3, 4, 5, 6, 8, 9, 10] (fun _ => none) f_mixed (by decide +kernel) HC.nothing ?_ ?_
        · simp -implicitDefEqProofs
          repeat (refine aq3_op ?_; simp -implicitDefEqProofs [u0, u1, u10, u11, ni, nj])
          refine AWK.two 7 11 (by decide +kernel) ?_ ?_
          · refine AWE.op rfl ?_
            simp -implicitDefEqProofs [rd_row, gi, gj]
            refine AWK.one 11 (by decide +kernel) ?_
            refine AWE.op rfl ?_
            simp -implicitDefEqProofs [rd_row, gi, gj]
            refine AWK.one 12 (by decide +kernel) ?_
            refine AWE.op rfl ?_
            simp -implicitDefEqProofs [u0, u1, u10, u11, ni, nj]
            refine AWK.one 13 (by decide +kernel) ?_
            refine AWE.op rfl ?_
            simp -implicitDefEqProofs [st_row, cI]
            refine AWS.store (by simp [Heap.set]; exact ⟨rfl, rfl⟩) HC.nothing ?_
            simp only [lset]
            refine AWK.one 14 (by decide +kernel) ?_
            refine AWE.op rfl ?_
            simp -implicitDefEqProofs [u0, u1, u10, u11, ni, nj]
            refine AWK.one 15 (by decide +kernel) ?_
            refine AWE.op rfl ?_
            simp -implicitDefEqProofs [st_row, cJ]
            refine AWS.store (by simp [Heap.set]; exact ⟨rfl, rfl⟩) HC.nothing ?_
            simp only [lset]
            refine AWK.fin (by decide +kernel) ?_
            refine ⟨by simp [u0, u1, u10, u11, ni, nj], by simp [u0, u1, u10, u11, ni, nj], by simp [u0, u1, u10, u11, ni, nj], by simp [u0, u1, u10, u11, ni, nj], ?_⟩
            try rw [Heap.set_set]
            exact congrArg (fun x => H.set b (.cells x T)) (by first | exact rs2 | exact rs3)
          · refine AWE.op rfl ?_
            simp -implicitDefEqProofs [rd_row, gi, gj]
            refine AWK.one 7 (by decide +kernel) ?_
            refine AWE.op rfl ?_
            simp -implicitDefEqProofs [rd_row, gi, gj]
            refine AWK.one 12 (by decide +kernel) ?_
            refine AWE.op rfl ?_
            simp -implicitDefEqProofs [u0, u1, u10, u11, ni, nj]
            refine AWK.one 13 (by decide +kernel) ?_
            refine AWE.op rfl ?_
            simp -implicitDefEqProofs [st_row, cI]
            refine AWS.store (by simp [Heap.set]; exact ⟨rfl, rfl⟩) HC.nothing ?_
            simp only [lset]
            refine AWK.one 14 (by decide +kernel) ?_
            refine AWE.op rfl ?_
            simp -implicitDefEqProofs [u0, u1, u10, u11, ni, nj]
            refine AWK.one 15 (by decide +kernel) ?_
            refine AWE.op rfl ?_
            simp -implicitDefEqProofs [st_row, cJ]
            refine AWS.store (by simp [Heap.set]; exact ⟨rfl, rfl⟩) HC.nothing ?_
            simp only [lset]
            refine AWK.fin (by decide +kernel) ?_
            refine ⟨by simp [u0, u1, u10, u11, ni, nj], by simp [u0, u1, u10, u11, ni, nj], by simp [u0, u1, u10, u11, ni, nj], by simp [u0, u1, u10, u11, ni, nj], ?_⟩
            try rw [Heap.set_set]
            exact congrArg (fun x => H.set b (.cells x T)) (by first | exact rs2 | exact rs3)
        rintro ρ3 K3 ⟨h0, h1, h10, h11, rfl⟩
        rw [u0] at h0; rw [u1] at h1; rw [u10] at h10; rw [u11] at h11
        simp -implicitDefEqProofs [h10, h11, w1, w2]
        obtain ⟨F, hF⟩ : ∃ F, Go.Sort.partLoop ltN a (i2 + 1) (j2 - 1) (Go.Sort.swp e i2 j2) = F := ⟨_, rfl⟩
        rw [hF] at hQ
        try dsimp only at hQ
        refine AGo.joinLoop (fun ρ K => ρ 0 = slV b n cap ∧ ρ 1 = .sc (.int .i64 (a : Int)) ∧ ρ 11 = .sc (.int .i64 (F.1 : Int)) ∧ F.1 < n ∧ F.2.size = n ∧ K = H.set b (rowC T F.2 rest)) (fun kF hkF => ?_) ?_
        · refine AGo.rounds (fun m ρ K => ∃ (i j : Nat) (e : Array Nat), m = j + 1 - i ∧ a + 1 ≤ i ∧ i ≤ n ∧ j < n ∧ e.size = n ∧ Go.Sort.partLoop ltN a i j e = F ∧ ρ 0 = slV b n cap ∧ ρ 1 = .sc (.int .i64 (a : Int)) ∧ ρ 10 = .sc (.int .i64 (i : Int)) ∧ ρ 11 = .sc (.int .i64 (j : Int)) ∧ K = H.set b (rowC T e rest)) ?_ (m := (j2 - 1) + 1 - (i2 + 1)) (HLe.refl _)
            ⟨i2 + 1, j2 - 1, _, rfl, by omega, by omega, by omega, by rw [swp_size]; exact hd1n, hF, by simp [h0], by simp [h1], by simp, by simp, rfl⟩
          clear h0 h1 h10 h11 u0 u1 u10 u11 hF ga za hxa0 xa
          clear hi2 hj2 i2 j2 hgt' hgt w1 w2 ni si gi xi hxi nj sj gj xj hxj rs2 rs3 cI cJ bU bD q0 q1 qI qJ p0 p1 pI pJ hQ hd1n e
          rintro m ρ6 K6 ihL ⟨i, j, e, rfl, hai, hin, hjn, hen, hF, v0, v1, v10, v11, rfl⟩
          rw [Go.Sort.partLoop] at hF
          obtain ⟨i2, hi2⟩ : ∃ x, Go.Sort.scanUp (fun x => ltN x e[a]!) e j i = x := ⟨_, rfl⟩
          rw [hi2] at hF
          try dsimp only at hF
          obtain ⟨j2, hj2⟩ : ∃ x, Go.Sort.scanDown (fun x => !ltN x e[a]!) e i2 j = x := ⟨_, rfl⟩
          rw [hj2] at hF
          try dsimp only at hF
          have za : a < e.size := by omega
          have ga := row_get (rest := rest) za
          obtain ⟨xa, hxa0⟩ : ∃ x, e[a]! = x := ⟨_, rfl⟩
          rw [hxa0] at ga
          simp -implicitDefEqProofs
          have bU := scanUp_ge (p := fun x => ltN x e[a]!) (d := e) (j := j) _ i (Nat.le_refl _)
          have bD := scanDown_le (p := fun x => !ltN x e[a]!) (d := e) (i := i2) j
          rw [hi2] at bU
          rw [hj2] at bD
          refine AGo.joinLoop (fun ρ K => ρ 0 = slV b n cap ∧ ρ 1 = .sc (.int .i64 (a : Int)) ∧ ρ 11 = .sc (.int .i64 (j : Int)) ∧ ρ 10 = .sc (.int .i64 (i2 : Int)) ∧ K = H.set b (rowC T e rest)) (fun k' hk' => ?_) ?_
          · refine AGo.rounds (fun m ρ K => ∃ x : Nat, m = j + 1 - x ∧ a + 1 ≤ x ∧ x ≤ n ∧ Go.Sort.scanUp (fun x => ltN x e[a]!) e j x = i2 ∧ ρ 0 = slV b n cap ∧ ρ 1 = .sc (.int .i64 (a : Int)) ∧ ρ 11 = .sc (.int .i64 (j : Int)) ∧ ρ 10 = .sc (.int .i64 (x : Int)) ∧ K = H.set b (rowC T e rest)) ?_ (m := j + 1 - i) (HLe.refl _)
              ⟨i, rfl, by omega, by omega, hi2, by simp [v0, v1, v10, v11], by simp [v0, v1, v10, v11], by simp [v0, v1, v10, v11], by simp [v0, v1, v10, v11], rfl⟩
            clear v0 v1 v10 v11
            rintro m ρ K ih ⟨x, rfl, hxa, hxn, hs, r0, r1, rfix, rvar, rfl⟩
            rw [Go.Sort.scanUp] at hs
            simp -implicitDefEqProofs [r0, r1, rfix, rvar]
            first | refine go_draw 15 f_mixed (by decide +kernel) ?_ | refine go_draw 14 f_mixed (by decide +kernel) ?_ | refine go_draw 13 f_mixed (by decide +kernel) ?_
            by_cases hxj : x ≤ j
            · have hxj' : (x : Int) ≤ (j : Int) := by omega
              have w1 : IntKind.i64.wrap ((x : Int) + 1) = ((x + 1 : Nat) : Int) := by rw [wrap_i64 (by omega) (by omega)]; omega
              have nx : x < n := by omega
              have zx : x < e.size := by omega
              have gx := row_get (rest := rest) zx
              obtain ⟨x1, hx1⟩ : ∃ z, e[x]! = z := ⟨_, rfl⟩
              rw [hx1] at gx
              simp -implicitDefEqProofs [r0, r1, rfix, rvar, hxj', rd_row, ga, gx, na, nx]
              refine AQS.eq (c_less _ _) ?_
              by_cases hp : ltN x1 xa = true
              · rw [if_pos (by simp only [hx1, hxa0, hp]; simp; omega)] at hs
                simp -implicitDefEqProofs [hp, rvar, w1]
                exact AGo.again ih (m' := j + 1 - (x + 1)) (by omega) (HLe.refl _) ⟨x + 1, rfl, by omega, by omega, hs, by simp [r0], by simp [r1], by simp [rfix], by simp, rfl⟩
              · have hp : ltN x1 xa = false := by simpa using hp
                rw [if_neg (by simp only [hx1, hxa0, hp]; simp)] at hs
                subst hs
                simp -implicitDefEqProofs [hp]
                exact hk' _ _ ⟨by simp [r0], by simp [r1], by simp [rfix], by simp [rvar], rfl⟩
            · have hxj' : ¬ (x : Int) ≤ (j : Int) := by omega
              rw [if_neg (by simp; omega)] at hs
              subst hs
              simp -implicitDefEqProofs [r0, r1, rfix, rvar, hxj']
              exact hk' _ _ ⟨by simp [r0], by simp [r1], by simp [rfix], by simp [rvar], rfl⟩
          · rintro ρ4 K4 ⟨p0, p1, pJ, pI, rfl⟩
            simp -implicitDefEqProofs
            refine AGo.joinLoop (fun ρ K => ρ 0 = slV b n cap ∧ ρ 1 = .sc (.int .i64 (a : Int)) ∧ ρ 10 = .sc (.int .i64 (i2 : Int)) ∧ ρ 11 = .sc (.int .i64 (j2 : Int)) ∧ K = H.set b (rowC T e rest)) (fun k' hk' => ?_) ?_
            · refine AGo.rounds (fun m ρ K => ∃ x : Nat, m = x ∧ x < n ∧ Go.Sort.scanDown (fun x => !ltN x e[a]!) e i2 x = j2 ∧ ρ 0 = slV b n cap ∧ ρ 1 = .sc (.int .i64 (a : Int)) ∧ ρ 10 = .sc (.int .i64 (i2 : Int)) ∧ ρ 11 = .sc (.int .i64 (x : Int)) ∧ K = H.set b (rowC T e rest)) ?_ (m := j) (HLe.refl _)
                ⟨j, rfl, by omega, hj2, by simp [p0, p1, pJ, pI], by simp [p0, p1, pJ, pI], by simp [p0, p1, pJ, pI], by simp [p0, p1, pJ, pI], rfl⟩
              clear p0 p1 pJ pI
              rintro m ρ K ih ⟨x, rfl, hxn, hs, r0, r1, rfix, rvar, rfl⟩
              cases m with
              | zero =>
                rw [Go.Sort.scanDown] at hs
                subst hs
                have hxj' : ¬ (i2 : Int) ≤ 0 := by omega
                have hxj2 : ¬ i2 = 0 := by omega
                simp -implicitDefEqProofs [r0, r1, rfix, rvar]
                first | refine go_draw 15 f_mixed (by decide +kernel) ?_ | refine go_draw 14 f_mixed (by decide +kernel) ?_ | refine go_draw 13 f_mixed (by decide +kernel) ?_
                simp -implicitDefEqProofs [r0, r1, rfix, rvar, hxj', hxj2]
                exact hk' _ _ ⟨by simp [r0], by simp [r1], by simp [rfix], by simp [rvar], rfl⟩
              | succ x =>
                rw [Go.Sort.scanDown] at hs
                simp -implicitDefEqProofs [r0, r1, rfix, rvar]
                first | refine go_draw 15 f_mixed (by decide +kernel) ?_ | refine go_draw 14 f_mixed (by decide +kernel) ?_ | refine go_draw 13 f_mixed (by decide +kernel) ?_
                by_cases hxj : i2 ≤ x + 1
                · have hxj' : (i2 : Int) ≤ (x : Int) + 1 := by omega
                  have w1 : IntKind.i64.wrap (x : Int) = (x : Int) := wrap_i64 (by omega) (by omega)
                  have tq : ((x : Int) + 1).toNat = x + 1 := by omega
                  have nq : ¬ (x : Int) + 1 < 0 := by omega
                  have nx : x + 1 < n := by omega
                  have zx : x + 1 < e.size := by omega
                  have gx := row_get (rest := rest) zx
                  obtain ⟨x1, hx1⟩ : ∃ z, e[x + 1]! = z := ⟨_, rfl⟩
                  rw [hx1] at gx
                  simp -implicitDefEqProofs [r0, r1, rfix, rvar, hxj', tq, nq, rd_row, ga, gx, na, nx]
                  refine AQS.eq (c_less _ _) ?_
                  by_cases hp : ltN x1 xa = true
                  · rw [if_neg (by simp only [hx1, hxa0, hp]; simp)] at hs
                    subst hs
                    simp -implicitDefEqProofs [hp]
                    exact hk' _ _ ⟨by simp [r0], by simp [r1], by simp [rfix], by simp [rvar], rfl⟩
                  · have hp : ltN x1 xa = false := by simpa using hp
                    rw [if_pos (by simp only [hx1, hxa0, hp]; simp; omega)] at hs
                    simp -implicitDefEqProofs [hp, rvar, w1]
                    exact AGo.again ih (m' := x) (by omega) (HLe.refl _) ⟨x, rfl, by omega, hs, by simp [r0], by simp [r1], by simp [rfix], by simp, rfl⟩
                · have hxj' : ¬ (i2 : Int) ≤ (x : Int) + 1 := by omega
                  rw [if_neg (by simp; omega)] at hs
                  subst hs
                  simp -implicitDefEqProofs [r0, r1, rfix, rvar, hxj']
                  exact hk' _ _ ⟨by simp [r0], by simp [r1], by simp [rfix], by simp [rvar], rfl⟩
            · rintro ρ5 K5 ⟨q0, q1, qI, qJ, rfl⟩
              by_cases hgt : i2 > j2
              · have hgt' : (j2 : Int) < (i2 : Int) := by omega
                rw [if_pos hgt] at hF
                subst hF
                simp -implicitDefEqProofs [q0, q1, qI, qJ, hgt']
                exact hkF _ _ ⟨by simp [q0], by simp [q1], by simp [qJ], by omega, hen, rfl⟩
              · have hgt' : ¬ (j2 : Int) < (i2 : Int) := by omega
                rw [if_neg hgt, dif_pos (by omega)] at hF
                have ni : i2 < n := by omega
                have si : i2 < e.size := by omega
                have gi := row_get (rest := rest) si
                obtain ⟨xi, hxi⟩ : ∃ x, e[i2]! = x := ⟨_, rfl⟩
                rw [hxi] at gi
                have nj : j2 < n := by omega
                have sj : j2 < e.size := by omega
                have gj := row_get (rest := rest) sj
                obtain ⟨xj, hxj⟩ : ∃ x, e[j2]! = x := ⟨_, rfl⟩
                rw [hxj] at gj
                have w1 : IntKind.i64.wrap ((i2 : Int) + 1) = ((i2 + 1 : Nat) : Int) := by rw [wrap_i64 (by omega) (by omega)]; omega
                have w2 : IntKind.i64.wrap ((j2 : Int) - 1) = ((j2 - 1 : Nat) : Int) := by rw [wrap_i64 (by omega) (by omega)]; omega
                simp -implicitDefEqProofs [q0, q1, qI, qJ, hgt']
                refine atRho fun ρ2 hρ2 => ?_
                have u0 : ρ2 0 = slV b n cap := by rw [hρ2]; simp [q0, q1, qI, qJ]
                have u1 : ρ2 1 = .sc (.int .i64 (a : Int)) := by rw [hρ2]; simp [q0, q1, qI, qJ]
                have u10 : ρ2 10 = .sc (.int .i64 (i2 : Int)) := by rw [hρ2]; simp [q0, q1, qI, qJ]
                have u11 : ρ2 11 = .sc (.int .i64 (j2 : Int)) := by rw [hρ2]; simp [q0, q1, qI, qJ]
                clear hρ2
                have rs2 : ((e.toList.map uAV).set i2 (uAV xj) ++ rest).set j2 (uAV xi) = (Go.Sort.swp e i2 j2).toList.map uAV ++ rest := swap_cells si sj hxi hxj
                have rs3 : ((e.toList.map uAV ++ rest).set i2 (uAV xj)).set j2 (uAV xi) = (Go.Sort.swp e i2 j2).toList.map uAV ++ rest := swap_cells2 si sj hxi hxj
                have cI : i2 + 1 ≤ e.size + rest.length := by omega
                have cJ : j2 + 1 ≤ e.size + rest.length := by omega
                refine go_draw3J (fun ρ' K' => ρ' 0 = ρ2 0 ∧ ρ' 1 = ρ2 1 ∧ ρ' 10 = ρ2 10 ∧ ρ' 11 = ρ2 11 ∧ K' = H.set b (rowC T (Go.Sort.swp e i2 j2) rest)) [0, 1, 2, 3, 4, 5, 6, 8, 9, 10] (fun _ => none) f_mixed (by decide +kernel) HC.nothing ?_ ?_
                · simp -implicitDefEqProofs
                  repeat (refine aq3_op ?_; simp -implicitDefEqProofs [u0, u1, u10, u11, ni, nj])
                  refine AWK.two 7 11 (by decide +kernel) ?_ ?_
                  · refine AWE.op rfl ?_
                    simp -implicitDefEqProofs [rd_row, gi, gj]
                    refine AWK.one 11 (by decide +kernel) ?_
                    refine AWE.op rfl ?_
                    simp -implicitDefEqProofs [rd_row, gi, gj]
                    refine AWK.one 12 (by decide +kernel) ?_
                    refine AWE.op rfl ?_
                    simp -implicitDefEqProofs [u0, u1, u10, u11, ni, nj]
                    refine AWK.one 13 (by decide +kernel) ?_
                    refine AWE.op rfl ?_
                    simp -implicitDefEqProofs [st_row, cI]
                    refine AWS.store (by simp [Heap.set]; exact ⟨rfl, rfl⟩) HC.nothing ?_
                    simp only [lset]
                    refine AWK.one 14 (by decide +kernel) ?_
                    refine AWE.op rfl ?_
                    simp -implicitDefEqProofs [u0, u1, u10, u11, ni, nj]
                    refine AWK.one 15 (by decide +kernel) ?_
                    refine AWE.op rfl ?_
                    simp -implicitDefEqProofs [st_row, cJ]
                    refine AWS.store (by simp [Heap.set]; exact ⟨rfl, rfl⟩) HC.nothing ?_
                    simp only [lset]
                    refine AWK.fin (by decide +kernel) ?_
                    refine ⟨by simp [u0, u1, u10, u11, ni, nj], by simp [u0, u1, u10, u11, ni, nj], by simp [u0, u1, u10, u11, ni, nj], by simp [u0, u1, u10, u11, ni, nj], ?_⟩
                    try rw [Heap.set_set]
                    exact congrArg (fun x => H.set b (.cells x T)) (by first | exact rs2 | exact rs3)
                  · refine AWE.op rfl ?_
                    simp -implicitDefEqProofs [rd_row, gi, gj]
                    refine AWK.one 7 (by decide +kernel) ?_
                    refine AWE.op rfl ?_
                    simp -implicitDefEqProofs [rd_row, gi, gj]
                    refine AWK.one 12 (by decide +kernel) ?_
                    refine AWE.op rfl ?_
                    simp -implicitDefEqProofs [u0, u1, u10, u11, ni, nj]
                    refine AWK.one 13 (by decide +kernel) ?_
                    refine AWE.op rfl ?_
                    simp -implicitDefEqProofs [st_row, cI]
                    refine AWS.store (by simp [Heap.set]; exact ⟨rfl, rfl⟩) HC.nothing ?_
                    simp only [lset]
                    refine AWK.one 14 (by decide +kernel) ?_
                    refine AWE.op rfl ?_
                    simp -implicitDefEqProofs [u0, u1, u10, u11, ni, nj]
                    refine AWK.one 15 (by decide +kernel) ?_
                    refine AWE.op rfl ?_
                    simp -implicitDefEqProofs [st_row, cJ]
                    refine AWS.store (by simp [Heap.set]; exact ⟨rfl, rfl⟩) HC.nothing ?_
                    simp only [lset]
                    refine AWK.fin (by decide +kernel) ?_
                    refine ⟨by simp [u0, u1, u10, u11, ni, nj], by simp [u0, u1, u10, u11, ni, nj], by simp [u0, u1, u10, u11, ni, nj], by simp [u0, u1, u10, u11, ni, nj], ?_⟩
                    try rw [Heap.set_set]
                    exact congrArg (fun x => H.set b (.cells x T)) (by first | exact rs2 | exact rs3)
                rintro ρ3 K3 ⟨h0, h1, h10, h11, rfl⟩
                rw [u0] at h0; rw [u1] at h1; rw [u10] at h10; rw [u11] at h11
                simp -implicitDefEqProofs [h10, h11, w1, w2]
                exact AGo.again ihL (m' := (j2 - 1) + 1 - (i2 + 1)) (by omega) (HLe.refl _) ⟨i2 + 1, j2 - 1, _, rfl, by omega, by omega, by omega, by rw [swp_size]; exact hen, hF, by simp [h0], by simp [h1], by simp, by simp, rfl⟩
        · rintro ρ7 K7 ⟨v0, v1, v11, hFn, hFs, rfl⟩
          obtain ⟨jF, e⟩ := F
          simp only at v11 hFn hFs hQ ⊢
          have za : a < e.size := by omega
          have ga := row_get (rest := rest) za
          obtain ⟨xa, hxa0⟩ : ∃ x, e[a]! = x := ⟨_, rfl⟩
          rw [hxa0] at ga
          have sF : jF < e.size := by omega
          have gF := row_get (rest := rest) sF
          obtain ⟨xF, hxF⟩ : ∃ x, e[jF]! = x := ⟨_, rfl⟩
          rw [hxF] at gF
          simp -implicitDefEqProofs
          refine atRho fun ρ2 hρ2 => ?_
          have u0 : ρ2 0 = slV b n cap := by rw [hρ2]; simp [v0, v1, v11]
          have u1 : ρ2 1 = .sc (.int .i64 (a : Int)) := by rw [hρ2]; simp [v0, v1, v11]
          have u11 : ρ2 11 = .sc (.int .i64 (jF : Int)) := by rw [hρ2]; simp [v0, v1, v11]
          clear hρ2
          have rs2 : ((e.toList.map uAV).set jF (uAV xa) ++ rest).set a (uAV xF) = (Go.Sort.swp e jF a).toList.map uAV ++ rest := swap_cells sF za hxF hxa0
          have rs3 : ((e.toList.map uAV ++ rest).set jF (uAV xa)).set a (uAV xF) = (Go.Sort.swp e jF a).toList.map uAV ++ rest := swap_cells2 sF za hxF hxa0
          have cI : jF + 1 ≤ e.size + rest.length := by omega
          have cJ : a + 1 ≤ e.size + rest.length := by omega
          refine go_draw3J (fun ρ' K' => ρ' 0 = ρ2 0 ∧ ρ' 1 = ρ2 1 ∧ ρ' 11 = ρ2 11 ∧ K' = H.set b (rowC T (Go.Sort.swp e jF a) rest)) [0, 1, 2, 3, 4, 5, 6, 8, 9, 10] (fun _ => none) f_mixed (by decide +kernel) HC.nothing ?_ ?_
          · simp -implicitDefEqProofs
            repeat (refine aq3_op ?_; simp -implicitDefEqProofs [u0, u1, u11, hFn, n0])
            refine AWK.two 7 11 (by decide +kernel) ?_ ?_
            · refine AWE.op rfl ?_
              simp -implicitDefEqProofs [rd_row, gF, ga]
              refine AWK.one 11 (by decide +kernel) ?_
              refine AWE.op rfl ?_
              simp -implicitDefEqProofs [rd_row, gF, ga]
              refine AWK.one 12 (by decide +kernel) ?_
              refine AWE.op rfl ?_
              simp -implicitDefEqProofs [u0, u1, u11, hFn, n0]
              refine AWK.one 13 (by decide +kernel) ?_
              refine AWE.op rfl ?_
              simp -implicitDefEqProofs [st_row, cI]
              refine AWS.store (by simp [Heap.set]; exact ⟨rfl, rfl⟩) HC.nothing ?_
              simp only [lset]
              refine AWK.one 14 (by decide +kernel) ?_
              refine AWE.op rfl ?_
              simp -implicitDefEqProofs [u0, u1, u11, hFn, n0]
              refine AWK.one 15 (by decide +kernel) ?_
              refine AWE.op rfl ?_
              simp -implicitDefEqProofs [st_row, cJ]
              refine AWS.store (by simp [Heap.set]; exact ⟨rfl, rfl⟩) HC.nothing ?_
              simp only [lset]
              refine AWK.fin (by decide +kernel) ?_
              refine ⟨by simp [u0, u1, u11, hFn, n0], by simp [u0, u1, u11, hFn, n0], by simp [u0, u1, u11, hFn, n0], ?_⟩
              try rw [Heap.set_set]
              exact congrArg (fun x => H.set b (.cells x T)) (by first | exact rs2 | exact rs3)
            · refine AWE.op rfl ?_
              simp -implicitDefEqProofs [rd_row, gF, ga]
              refine AWK.one 7 (by decide +kernel) ?_
              refine AWE.op rfl ?_
              simp -implicitDefEqProofs [rd_row, gF, ga]
              refine AWK.one 12 (by decide +kernel) ?_
              refine AWE.op rfl ?_
              simp -implicitDefEqProofs [u0, u1, u11, hFn, n0]
              refine AWK.one 13 (by decide +kernel) ?_
              refine AWE.op rfl ?_
              simp -implicitDefEqProofs [st_row, cI]
              refine AWS.store (by simp [Heap.set]; exact ⟨rfl, rfl⟩) HC.nothing ?_
              simp only [lset]
              refine AWK.one 14 (by decide +kernel) ?_
              refine AWE.op rfl ?_
              simp -implicitDefEqProofs [u0, u1, u11, hFn, n0]
              refine AWK.one 15 (by decide +kernel) ?_
              refine AWE.op rfl ?_
              simp -implicitDefEqProofs [st_row, cJ]
              refine AWS.store (by simp [Heap.set]; exact ⟨rfl, rfl⟩) HC.nothing ?_
              simp only [lset]
              refine AWK.fin (by decide +kernel) ?_
              refine ⟨by simp [u0, u1, u11, hFn, n0], by simp [u0, u1, u11, hFn, n0], by simp [u0, u1, u11, hFn, n0], ?_⟩
              try rw [Heap.set_set]
              exact congrArg (fun x => H.set b (.cells x T)) (by first | exact rs2 | exact rs3)
          rintro ρ3 K3 ⟨h0, h1, h11, rfl⟩
          rw [u0] at h0; rw [u1] at h1; rw [u11] at h11
          simp -implicitDefEqProofs [h11]
          subst hQ
          subst hR
          exact AFin.intro _ _ (wk_refl _) (HWk.refl _) ⟨rfl, rfl⟩
end Go.Proofs.YtlhgpodfhdddkaaGreatDoor
