/- A state's parts as bytes: what image.Parse's closures take. -/
import Derived.Test.YtghlkjkdejebnaaGreatDoorP23
set_option linter.unusedSimpArgs false
set_option linter.unusedVariables false
set_option linter.unnecessarySimpa false
namespace Go.Proofs.YtghlkjkdejebnaaGreatDoor
open Rg Go
variable {H : Heap}
theorem numC_any2 (b : List UInt8) (s : Nat × Bool) : numC b 18446744073709551615 s = ((takeK b s.1).1, max s.1 (takeK b s.1).2.1, s.2 || decide ((takeK b s.1).2.2 ≠ 0)) := by
  have := takeK_lt b s.1
  unfold numC
  rw [decide_eq_false (by omega : ¬ 18446744073709551615 < (takeK b s.1).1), Bool.or_false]
set_option maxHeartbeats 4000000 in
theorem c_imgNum {b : List UInt8} {t : Rg.Tok} {pb pa pd : Nat} {s : Nat × Bool} {K : Heap} (h : Three b t pb pa pd s K) (hs : s.1 ≤ b.length) (hb : b.length ≤ 1000000) :
    AOk Tryz.prog 67 [.sc (.pointer (some ⟨pb, 0, none⟩)), .sc (.pointer (some ⟨pa, 0, none⟩)), .sc (.pointer (some ⟨pd, 0, none⟩))] K (.sc (.int .u64 ((numC b 18446744073709551615 s).1 : Int))) (upd3 pa pd (numC b 18446744073709551615 s).2 K) := by
  obtain ⟨m1, m2, m3⟩ := h.ne
  obtain ⟨a, bad⟩ := s
  rw [numC_any2]
  have hh1 := h.b
  have hh2 := h.a
  have hh3 := h.d
  simp only at hs hh1 hh2 hh3
  obtain ⟨n, nx, e, hp⟩ : ∃ n nx e, takeK b a = (n, nx, e) := ⟨_, _, _, rfl⟩
  have htk := c_packTake (H := K) b t a hs hb
  simp only [hp] at htk ⊢
  obtain ⟨mx, hmx2⟩ : ∃ mx, max a nx = mx := ⟨_, rfl⟩
  have hmx : (if a < nx then (nx : Int) else (a : Int)) = (mx : Int) := by split <;> omega
  rw [hmx2]
  have hk2 : ∀ o, (K.set pd o) pa = some (.cells [.sc (.int .i64 (a : Int))] 3) := fun o => by simp [Heap.set, m3, hh2]
  obtain ⟨z, hz⟩ : ∃ z, (bad || decide (e ≠ 0)) = z := ⟨_, rfl⟩
  rw [hz]
  refine ACalls.into Tryz.func67 rfl Tryz.ntmps67 Tryz.results67 (by simp) ?_
  simp -implicitDefEqProofs [hh1, hh2]
  refine ACall.eq htk ?_
  simp -implicitDefEqProofs
  refine go_draw3J (fun ρ K' => ρ 4 = .sc (.int .u64 (n : Int)) ∧ K' = upd3 pa pd (mx, z) K) [6] (fun _ => none) f_mixed (by decide +kernel) HC.nothing ?_ ?_
  · simp -implicitDefEqProofs
    refine aq3_op ?_
    simp -implicitDefEqProofs
    cases bad with
    | true =>
      have he : True := trivial
      simp only [Bool.true_or] at hz
      subst hz
      refine AWK.two 0 5 (by decide +kernel) ?_ ?_
      · refine AWE.op rfl ?_
        simp -implicitDefEqProofs [hh2, hh3, m3, Ne.symm m3]
        refine AWK.pure 1 (by decide +kernel) ?_
        simp -implicitDefEqProofs
        refine aq3_op ?_
        simp -implicitDefEqProofs
        refine AWK.pure 2 (by decide +kernel) ?_
        simp -implicitDefEqProofs
        refine aq3_skip (by simp) ?_
        simp -implicitDefEqProofs
        refine AWK.pure 3 (by decide +kernel) ?_
        simp -implicitDefEqProofs
        refine aq3_skip (by simp) ?_
        simp -implicitDefEqProofs
        refine AWK.pure 4 (by decide +kernel) ?_
        simp -implicitDefEqProofs
        refine aq3_op ?_
        simp -implicitDefEqProofs
        refine AWK.two 5 8 (by decide +kernel) ?_ ?_
        · refine AWE.op rfl ?_
          simp -implicitDefEqProofs [hh2, hh3, m3, Ne.symm m3]
          refine AWK.pure 7 (by decide +kernel) ?_
          simp -implicitDefEqProofs
          refine aq3_op ?_
          simp -implicitDefEqProofs [hmx]
          refine AWK.one 8 (by decide +kernel) ?_
          refine AWE.op rfl ?_
          simp -implicitDefEqProofs [hh2, hh3, m3, Ne.symm m3]
          refine AWS.store hh3 (fun _ _ h => by cases h) ?_
          refine AWK.one 9 (by decide +kernel) ?_
          refine AWE.op rfl ?_
          simp -implicitDefEqProofs [hh2, hh3, m3, Ne.symm m3]
          refine AWS.store (hk2 _) (fun _ _ h => by cases h) ?_
          refine AWK.fin (by decide +kernel) ?_
          refine ⟨by simp, ?_⟩
          first | rfl | (simp [upd3, he])
        · refine AWE.op rfl ?_
          simp -implicitDefEqProofs [hh2, hh3, m3, Ne.symm m3]
          refine AWS.store hh3 (fun _ _ h => by cases h) ?_
          refine AWK.one 5 (by decide +kernel) ?_
          refine AWE.op rfl ?_
          simp -implicitDefEqProofs [hh2, hh3, m3, Ne.symm m3]
          refine AWK.pure 7 (by decide +kernel) ?_
          simp -implicitDefEqProofs
          refine aq3_op ?_
          simp -implicitDefEqProofs [hmx]
          refine AWK.one 9 (by decide +kernel) ?_
          refine AWE.op rfl ?_
          simp -implicitDefEqProofs [hh2, hh3, m3, Ne.symm m3]
          refine AWS.store (hk2 _) (fun _ _ h => by cases h) ?_
          refine AWK.fin (by decide +kernel) ?_
          refine ⟨by simp, ?_⟩
          first | rfl | (simp [upd3, he])
      · refine AWE.op rfl ?_
        simp -implicitDefEqProofs [hh2, hh3, m3, Ne.symm m3]
        refine AWK.pure 7 (by decide +kernel) ?_
        simp -implicitDefEqProofs
        refine aq3_op ?_
        simp -implicitDefEqProofs [hmx]
        refine AWK.one 0 (by decide +kernel) ?_
        refine AWE.op rfl ?_
        simp -implicitDefEqProofs [hh2, hh3, m3, Ne.symm m3]
        refine AWK.pure 1 (by decide +kernel) ?_
        simp -implicitDefEqProofs
        refine aq3_op ?_
        simp -implicitDefEqProofs
        refine AWK.pure 2 (by decide +kernel) ?_
        simp -implicitDefEqProofs
        refine aq3_skip (by simp) ?_
        simp -implicitDefEqProofs
        refine AWK.pure 3 (by decide +kernel) ?_
        simp -implicitDefEqProofs
        refine aq3_skip (by simp) ?_
        simp -implicitDefEqProofs
        refine AWK.pure 4 (by decide +kernel) ?_
        simp -implicitDefEqProofs
        refine aq3_op ?_
        simp -implicitDefEqProofs
        refine AWK.one 8 (by decide +kernel) ?_
        refine AWE.op rfl ?_
        simp -implicitDefEqProofs [hh2, hh3, m3, Ne.symm m3]
        refine AWS.store hh3 (fun _ _ h => by cases h) ?_
        refine AWK.one 9 (by decide +kernel) ?_
        refine AWE.op rfl ?_
        simp -implicitDefEqProofs [hh2, hh3, m3, Ne.symm m3]
        refine AWS.store (hk2 _) (fun _ _ h => by cases h) ?_
        refine AWK.fin (by decide +kernel) ?_
        refine ⟨by simp, ?_⟩
        first | rfl | (simp [upd3, he])
    | false =>
      simp only [Bool.false_or] at hz
      have he : (!decide (e = 0)) = z := by rw [← hz]; simp
      refine AWK.two 0 5 (by decide +kernel) ?_ ?_
      · refine AWE.op rfl ?_
        simp -implicitDefEqProofs [hh2, hh3, m3, Ne.symm m3]
        refine AWK.pure 1 (by decide +kernel) ?_
        simp -implicitDefEqProofs
        refine aq3_op ?_
        simp -implicitDefEqProofs
        refine AWK.pure 2 (by decide +kernel) ?_
        simp -implicitDefEqProofs
        refine aq3_take (by simp) ?_
        simp -implicitDefEqProofs
        refine AWK.pure 3 (by decide +kernel) ?_
        simp -implicitDefEqProofs
        refine aq3_take (by simp) ?_
        simp -implicitDefEqProofs [he]
        refine AWK.pure 4 (by decide +kernel) ?_
        simp -implicitDefEqProofs
        refine aq3_op ?_
        simp -implicitDefEqProofs
        refine AWK.two 5 8 (by decide +kernel) ?_ ?_
        · refine AWE.op rfl ?_
          simp -implicitDefEqProofs [hh2, hh3, m3, Ne.symm m3]
          refine AWK.pure 7 (by decide +kernel) ?_
          simp -implicitDefEqProofs
          refine aq3_op ?_
          simp -implicitDefEqProofs [hmx]
          refine AWK.one 8 (by decide +kernel) ?_
          refine AWE.op rfl ?_
          simp -implicitDefEqProofs [hh2, hh3, m3, Ne.symm m3]
          refine AWS.store hh3 (fun _ _ h => by cases h) ?_
          refine AWK.one 9 (by decide +kernel) ?_
          refine AWE.op rfl ?_
          simp -implicitDefEqProofs [hh2, hh3, m3, Ne.symm m3]
          refine AWS.store (hk2 _) (fun _ _ h => by cases h) ?_
          refine AWK.fin (by decide +kernel) ?_
          refine ⟨by simp, ?_⟩
          first | rfl | (simp [upd3, he])
        · refine AWE.op rfl ?_
          simp -implicitDefEqProofs [hh2, hh3, m3, Ne.symm m3]
          refine AWS.store hh3 (fun _ _ h => by cases h) ?_
          refine AWK.one 5 (by decide +kernel) ?_
          refine AWE.op rfl ?_
          simp -implicitDefEqProofs [hh2, hh3, m3, Ne.symm m3]
          refine AWK.pure 7 (by decide +kernel) ?_
          simp -implicitDefEqProofs
          refine aq3_op ?_
          simp -implicitDefEqProofs [hmx]
          refine AWK.one 9 (by decide +kernel) ?_
          refine AWE.op rfl ?_
          simp -implicitDefEqProofs [hh2, hh3, m3, Ne.symm m3]
          refine AWS.store (hk2 _) (fun _ _ h => by cases h) ?_
          refine AWK.fin (by decide +kernel) ?_
          refine ⟨by simp, ?_⟩
          first | rfl | (simp [upd3, he])
      · refine AWE.op rfl ?_
        simp -implicitDefEqProofs [hh2, hh3, m3, Ne.symm m3]
        refine AWK.pure 7 (by decide +kernel) ?_
        simp -implicitDefEqProofs
        refine aq3_op ?_
        simp -implicitDefEqProofs [hmx]
        refine AWK.one 0 (by decide +kernel) ?_
        refine AWE.op rfl ?_
        simp -implicitDefEqProofs [hh2, hh3, m3, Ne.symm m3]
        refine AWK.pure 1 (by decide +kernel) ?_
        simp -implicitDefEqProofs
        refine aq3_op ?_
        simp -implicitDefEqProofs
        refine AWK.pure 2 (by decide +kernel) ?_
        simp -implicitDefEqProofs
        refine aq3_take (by simp) ?_
        simp -implicitDefEqProofs
        refine AWK.pure 3 (by decide +kernel) ?_
        simp -implicitDefEqProofs
        refine aq3_take (by simp) ?_
        simp -implicitDefEqProofs [he]
        refine AWK.pure 4 (by decide +kernel) ?_
        simp -implicitDefEqProofs
        refine aq3_op ?_
        simp -implicitDefEqProofs
        refine AWK.one 8 (by decide +kernel) ?_
        refine AWE.op rfl ?_
        simp -implicitDefEqProofs [hh2, hh3, m3, Ne.symm m3]
        refine AWS.store hh3 (fun _ _ h => by cases h) ?_
        refine AWK.one 9 (by decide +kernel) ?_
        refine AWE.op rfl ?_
        simp -implicitDefEqProofs [hh2, hh3, m3, Ne.symm m3]
        refine AWS.store (hk2 _) (fun _ _ h => by cases h) ?_
        refine AWK.fin (by decide +kernel) ?_
        refine ⟨by simp, ?_⟩
        first | rfl | (simp [upd3, he])
  · rintro ρ K' ⟨r4, rfl⟩
    simp -implicitDefEqProofs [r4]
set_option maxHeartbeats 4000000 in
theorem c_imgWhole {b : List UInt8} {t : Rg.Tok} {pb pa pd : Nat} {s : Nat × Bool} {K : Heap} (h : Three b t pb pa pd s K) (hs : s.1 ≤ b.length) (hb : b.length ≤ 1000000) :
    AOk Tryz.prog 68 [.sc (.pointer (some ⟨pb, 0, none⟩)), .sc (.pointer (some ⟨pa, 0, none⟩)), .sc (.pointer (some ⟨pd, 0, none⟩))] K (.sc (.int .i64 (unzig (numC b 18446744073709551615 s).1))) (upd3 pa pd (numC b 18446744073709551615 s).2 K) := by
  obtain ⟨m1, m2, m3⟩ := h.ne
  obtain ⟨a, bad⟩ := s
  rw [numC_any2]
  have hh1 := h.b
  have hh2 := h.a
  have hh3 := h.d
  simp only at hs hh1 hh2 hh3
  obtain ⟨n, nx, e, hp⟩ : ∃ n nx e, takeK b a = (n, nx, e) := ⟨_, _, _, rfl⟩
  have htk := c_takeInt (H := K) b t a hs hb
  simp only [hp] at htk ⊢
  obtain ⟨mx, hmx2⟩ : ∃ mx, max a nx = mx := ⟨_, rfl⟩
  have hmx : (if a < nx then (nx : Int) else (a : Int)) = (mx : Int) := by split <;> omega
  rw [hmx2]
  have hk2 : ∀ o, (K.set pd o) pa = some (.cells [.sc (.int .i64 (a : Int))] 3) := fun o => by simp [Heap.set, m3, hh2]
  obtain ⟨z, hz⟩ : ∃ z, (bad || decide (e ≠ 0)) = z := ⟨_, rfl⟩
  rw [hz]
  refine ACalls.into Tryz.func68 rfl Tryz.ntmps68 Tryz.results68 (by simp) ?_
  simp -implicitDefEqProofs [hh1, hh2]
  refine ACall.eq htk ?_
  simp -implicitDefEqProofs
  refine go_draw3J (fun ρ K' => ρ 4 = .sc (.int .i64 (unzig n)) ∧ K' = upd3 pa pd (mx, z) K) [6] (fun _ => none) f_mixed (by decide +kernel) HC.nothing ?_ ?_
  · simp -implicitDefEqProofs
    refine aq3_op ?_
    simp -implicitDefEqProofs
    cases bad with
    | true =>
      have he : True := trivial
      simp only [Bool.true_or] at hz
      subst hz
      refine AWK.two 0 5 (by decide +kernel) ?_ ?_
      · refine AWE.op rfl ?_
        simp -implicitDefEqProofs [hh2, hh3, m3, Ne.symm m3]
        refine AWK.pure 1 (by decide +kernel) ?_
        simp -implicitDefEqProofs
        refine aq3_op ?_
        simp -implicitDefEqProofs
        refine AWK.pure 2 (by decide +kernel) ?_
        simp -implicitDefEqProofs
        refine aq3_skip (by simp) ?_
        simp -implicitDefEqProofs
        refine AWK.pure 3 (by decide +kernel) ?_
        simp -implicitDefEqProofs
        refine aq3_skip (by simp) ?_
        simp -implicitDefEqProofs
        refine AWK.pure 4 (by decide +kernel) ?_
        simp -implicitDefEqProofs
        refine aq3_op ?_
        simp -implicitDefEqProofs
        refine AWK.two 5 8 (by decide +kernel) ?_ ?_
        · refine AWE.op rfl ?_
          simp -implicitDefEqProofs [hh2, hh3, m3, Ne.symm m3]
          refine AWK.pure 7 (by decide +kernel) ?_
          simp -implicitDefEqProofs
          refine aq3_op ?_
          simp -implicitDefEqProofs [hmx]
          refine AWK.one 8 (by decide +kernel) ?_
          refine AWE.op rfl ?_
          simp -implicitDefEqProofs [hh2, hh3, m3, Ne.symm m3]
          refine AWS.store hh3 (fun _ _ h => by cases h) ?_
          refine AWK.one 9 (by decide +kernel) ?_
          refine AWE.op rfl ?_
          simp -implicitDefEqProofs [hh2, hh3, m3, Ne.symm m3]
          refine AWS.store (hk2 _) (fun _ _ h => by cases h) ?_
          refine AWK.fin (by decide +kernel) ?_
          refine ⟨by simp, ?_⟩
          first | rfl | (simp [upd3, he])
        · refine AWE.op rfl ?_
          simp -implicitDefEqProofs [hh2, hh3, m3, Ne.symm m3]
          refine AWS.store hh3 (fun _ _ h => by cases h) ?_
          refine AWK.one 5 (by decide +kernel) ?_
          refine AWE.op rfl ?_
          simp -implicitDefEqProofs [hh2, hh3, m3, Ne.symm m3]
          refine AWK.pure 7 (by decide +kernel) ?_
          simp -implicitDefEqProofs
          refine aq3_op ?_
          simp -implicitDefEqProofs [hmx]
          refine AWK.one 9 (by decide +kernel) ?_
          refine AWE.op rfl ?_
          simp -implicitDefEqProofs [hh2, hh3, m3, Ne.symm m3]
          refine AWS.store (hk2 _) (fun _ _ h => by cases h) ?_
          refine AWK.fin (by decide +kernel) ?_
          refine ⟨by simp, ?_⟩
          first | rfl | (simp [upd3, he])
      · refine AWE.op rfl ?_
        simp -implicitDefEqProofs [hh2, hh3, m3, Ne.symm m3]
        refine AWK.pure 7 (by decide +kernel) ?_
        simp -implicitDefEqProofs
        refine aq3_op ?_
        simp -implicitDefEqProofs [hmx]
        refine AWK.one 0 (by decide +kernel) ?_
        refine AWE.op rfl ?_
        simp -implicitDefEqProofs [hh2, hh3, m3, Ne.symm m3]
        refine AWK.pure 1 (by decide +kernel) ?_
        simp -implicitDefEqProofs
        refine aq3_op ?_
        simp -implicitDefEqProofs
        refine AWK.pure 2 (by decide +kernel) ?_
        simp -implicitDefEqProofs
        refine aq3_skip (by simp) ?_
        simp -implicitDefEqProofs
        refine AWK.pure 3 (by decide +kernel) ?_
        simp -implicitDefEqProofs
        refine aq3_skip (by simp) ?_
        simp -implicitDefEqProofs
        refine AWK.pure 4 (by decide +kernel) ?_
        simp -implicitDefEqProofs
        refine aq3_op ?_
        simp -implicitDefEqProofs
        refine AWK.one 8 (by decide +kernel) ?_
        refine AWE.op rfl ?_
        simp -implicitDefEqProofs [hh2, hh3, m3, Ne.symm m3]
        refine AWS.store hh3 (fun _ _ h => by cases h) ?_
        refine AWK.one 9 (by decide +kernel) ?_
        refine AWE.op rfl ?_
        simp -implicitDefEqProofs [hh2, hh3, m3, Ne.symm m3]
        refine AWS.store (hk2 _) (fun _ _ h => by cases h) ?_
        refine AWK.fin (by decide +kernel) ?_
        refine ⟨by simp, ?_⟩
        first | rfl | (simp [upd3, he])
    | false =>
      simp only [Bool.false_or] at hz
      have he : (!decide (e = 0)) = z := by rw [← hz]; simp
      refine AWK.two 0 5 (by decide +kernel) ?_ ?_
      · refine AWE.op rfl ?_
        simp -implicitDefEqProofs [hh2, hh3, m3, Ne.symm m3]
        refine AWK.pure 1 (by decide +kernel) ?_
        simp -implicitDefEqProofs
        refine aq3_op ?_
        simp -implicitDefEqProofs
        refine AWK.pure 2 (by decide +kernel) ?_
        simp -implicitDefEqProofs
        refine aq3_take (by simp) ?_
        simp -implicitDefEqProofs
        refine AWK.pure 3 (by decide +kernel) ?_
        simp -implicitDefEqProofs
        refine aq3_take (by simp) ?_
        simp -implicitDefEqProofs [he]
        refine AWK.pure 4 (by decide +kernel) ?_
        simp -implicitDefEqProofs
        refine aq3_op ?_
        simp -implicitDefEqProofs
        refine AWK.two 5 8 (by decide +kernel) ?_ ?_
        · refine AWE.op rfl ?_
          simp -implicitDefEqProofs [hh2, hh3, m3, Ne.symm m3]
          refine AWK.pure 7 (by decide +kernel) ?_
          simp -implicitDefEqProofs
          refine aq3_op ?_
          simp -implicitDefEqProofs [hmx]
          refine AWK.one 8 (by decide +kernel) ?_
          refine AWE.op rfl ?_
          simp -implicitDefEqProofs [hh2, hh3, m3, Ne.symm m3]
          refine AWS.store hh3 (fun _ _ h => by cases h) ?_
          refine AWK.one 9 (by decide +kernel) ?_
          refine AWE.op rfl ?_
          simp -implicitDefEqProofs [hh2, hh3, m3, Ne.symm m3]
          refine AWS.store (hk2 _) (fun _ _ h => by cases h) ?_
          refine AWK.fin (by decide +kernel) ?_
          refine ⟨by simp, ?_⟩
          first | rfl | (simp [upd3, he])
        · refine AWE.op rfl ?_
          simp -implicitDefEqProofs [hh2, hh3, m3, Ne.symm m3]
          refine AWS.store hh3 (fun _ _ h => by cases h) ?_
          refine AWK.one 5 (by decide +kernel) ?_
          refine AWE.op rfl ?_
          simp -implicitDefEqProofs [hh2, hh3, m3, Ne.symm m3]
          refine AWK.pure 7 (by decide +kernel) ?_
          simp -implicitDefEqProofs
          refine aq3_op ?_
          simp -implicitDefEqProofs [hmx]
          refine AWK.one 9 (by decide +kernel) ?_
          refine AWE.op rfl ?_
          simp -implicitDefEqProofs [hh2, hh3, m3, Ne.symm m3]
          refine AWS.store (hk2 _) (fun _ _ h => by cases h) ?_
          refine AWK.fin (by decide +kernel) ?_
          refine ⟨by simp, ?_⟩
          first | rfl | (simp [upd3, he])
      · refine AWE.op rfl ?_
        simp -implicitDefEqProofs [hh2, hh3, m3, Ne.symm m3]
        refine AWK.pure 7 (by decide +kernel) ?_
        simp -implicitDefEqProofs
        refine aq3_op ?_
        simp -implicitDefEqProofs [hmx]
        refine AWK.one 0 (by decide +kernel) ?_
        refine AWE.op rfl ?_
        simp -implicitDefEqProofs [hh2, hh3, m3, Ne.symm m3]
        refine AWK.pure 1 (by decide +kernel) ?_
        simp -implicitDefEqProofs
        refine aq3_op ?_
        simp -implicitDefEqProofs
        refine AWK.pure 2 (by decide +kernel) ?_
        simp -implicitDefEqProofs
        refine aq3_take (by simp) ?_
        simp -implicitDefEqProofs
        refine AWK.pure 3 (by decide +kernel) ?_
        simp -implicitDefEqProofs
        refine aq3_take (by simp) ?_
        simp -implicitDefEqProofs [he]
        refine AWK.pure 4 (by decide +kernel) ?_
        simp -implicitDefEqProofs
        refine aq3_op ?_
        simp -implicitDefEqProofs
        refine AWK.one 8 (by decide +kernel) ?_
        refine AWE.op rfl ?_
        simp -implicitDefEqProofs [hh2, hh3, m3, Ne.symm m3]
        refine AWS.store hh3 (fun _ _ h => by cases h) ?_
        refine AWK.one 9 (by decide +kernel) ?_
        refine AWE.op rfl ?_
        simp -implicitDefEqProofs [hh2, hh3, m3, Ne.symm m3]
        refine AWS.store (hk2 _) (fun _ _ h => by cases h) ?_
        refine AWK.fin (by decide +kernel) ?_
        refine ⟨by simp, ?_⟩
        first | rfl | (simp [upd3, he])
  · rintro ρ K' ⟨r4, rfl⟩
    simp -implicitDefEqProofs [r4]
end Go.Proofs.YtghlkjkdejebnaaGreatDoor
