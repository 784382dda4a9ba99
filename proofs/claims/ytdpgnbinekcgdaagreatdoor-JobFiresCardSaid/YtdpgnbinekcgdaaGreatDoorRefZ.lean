/- The document's expressions: which may be, which clocks fit. -/
import Derived.Test.YtdpgnbinekcgdaaGreatDoorRefY
import Derived.Test.YtdpgnbinekcgdaaGreatDoorRefE
namespace Go.Proofs.YtdpgnbinekcgdaaGreatDoor
open Rg Go

variable {H : Heap}

theorem c_ref4LongOut {y m : Int} (h : m < 1 ∨ 12 < m) : AOk Tryz.prog 121 [.sc (.int .i64 y), .sc (.int .i64 m)] H (.sc (.int .i64 0)) H := by
  have e1 : ¬ m = 1 := by omega
  have e2 : ¬ m = 2 := by omega
  have e3 : ¬ m = 3 := by omega
  have e4 : ¬ m = 4 := by omega
  have e5 : ¬ m = 5 := by omega
  have e6 : ¬ m = 6 := by omega
  have e7 : ¬ m = 7 := by omega
  have e8 : ¬ m = 8 := by omega
  have e9 : ¬ m = 9 := by omega
  have e10 : ¬ m = 10 := by omega
  have e11 : ¬ m = 11 := by omega
  have e12 : ¬ m = 12 := by omega
  refine ACalls.into Tryz.func121 rfl Tryz.ntmps121 Tryz.results121 (by simp) ?_
  simp -implicitDefEqProofs [e1, e2, e3, e4, e5, e6, e7, e8, e9, e10, e11, e12]
theorem c_ref4LongI {y : Nat} {m : Int} : AOk Tryz.prog 121 [.sc (.int .i64 y), .sc (.int .i64 m)] H (.sc (.int .i64 (longI y m))) H := by
  by_cases h : m < 1 ∨ 12 < m
  · have e : longI y m = 0 := by unfold longI; rw [if_pos h]
    rw [e]
    exact c_ref4LongOut h
  · obtain ⟨M, rfl⟩ := Int.eq_ofNat_of_zero_le (a := m) (by omega)
    rw [long_nat y (by omega) (by omega)]
    exact c_ref4Long (by omega) (by omega)
theorem c_ref4May (y m d : Int) : AOk Tryz.prog 119 [dAV y m d] H (.sc (.bool (mayD y m d))) H := by
  refine ACalls.into Tryz.func119 rfl Tryz.ntmps119 Tryz.results119 (by simp) ?_
  simp -implicitDefEqProofs
  refine AAlloc.intro fun b hb => ?_
  have hW : ∀ o, HWk H (H.set b o) := fun o => HWk.new hb (HWk.refl _)
  unfold mayD
  simp -implicitDefEqProofs
  refine go_draw 24 f_mixed (by decide +kernel) ?_
  by_cases h1 : 1970 ≤ y
  · by_cases h2 : y ≤ 2399
    · by_cases h3 : 1 ≤ d
      · obtain ⟨Y, rfl⟩ := Int.eq_ofNat_of_zero_le (a := y) (by omega)
        simp -implicitDefEqProofs [h1, h2, h3]
        refine AQS.eq (c_ref4LongI (y := Y) (m := m)) ?_
        simp -implicitDefEqProofs
        exact hW _
      · simp -implicitDefEqProofs [h1, h2, h3]
        exact hW _
    · simp -implicitDefEqProofs [h1, h2]
      exact hW _
  · simp -implicitDefEqProofs [h1]
    exact hW _
theorem c_ref4Days_bad {y m d : Int} (h : mayD y m d = false) : AOk Tryz.prog 94 [dAV y m d] H (.tup [.sc (.int .i64 0), .sc (.int .i64 2)]) H := by
  refine ACalls.into Tryz.func94 rfl Tryz.ntmps94 Tryz.results94 (by simp) ?_
  simp -implicitDefEqProofs
  refine AAlloc.intro fun b hb => ?_
  simp -implicitDefEqProofs
  refine ACall.eq (c_ref4May y m d) ?_
  simp -implicitDefEqProofs [h]
  exact HWk.new hb (HWk.refl _)
theorem c_ref4Days {y m d : Nat} (h : mayD (y : Int) (m : Int) (d : Int) = true) : AOk Tryz.prog 94 [dAV y m d] H (.tup [.sc (.int .i64 (daysN y m d)), .sc (.int .i64 0)]) H := by
  obtain ⟨i, dd, hi, hdd, h1, h2, h3⟩ := mayD_in h
  have e : daysN y m d = mFirst i + dd := by rw [← days_of i dd]; congr 1 <;> omega
  have hlt := mFirst_mono (i := i + 1) (j := 5160) (by omega) (Nat.le_refl _)
  rw [mFirst_succ hi, mFirst_end] at hlt
  rw [e]
  obtain ⟨r, hr⟩ : ∃ r, mFirst i + dd = r := ⟨_, rfl⟩
  rw [hr]
  have hy : y = 1970 + i / 12 := by omega
  have hmm : m = i % 12 + 1 := by omega
  have hd : d = dd + 1 := by omega
  clear h1 h2 h3 e
  refine ACalls.into Tryz.func94 rfl Tryz.ntmps94 Tryz.results94 (by simp) ?_
  simp -implicitDefEqProofs
  refine AAlloc.intro fun b hb => ?_
  simp -implicitDefEqProofs
  generalize hK : Heap.set _ b _ = K0
  have kb : K0 b = some (.cells [.sc (.int .i64 y), .sc (.int .i64 m), .sc (.int .i64 d)] 42) := by rw [← hK]; simp [Heap.set]
  have kW : HWk H K0 := by rw [← hK]; exact HWk.new hb (HWk.refl _)
  clear hK
  refine ACall.eq (c_ref4May y m d) ?_
  obtain ⟨B, hB⟩ : ∃ B, mFirst (12 * (i / 12)) = B := ⟨_, rfl⟩
  simp -implicitDefEqProofs [h]
  refine AGo.joinLoop (fun ρ K => K = K0 ∧ ρ 1 = .sc (.pointer (some ⟨b, 0, none⟩)) ∧ ρ 4 = .sc (.int .i64 B)) (fun k' hk' => ?_) ?_
  · refine AGo.rounds (fun mm ρ K => ∃ j Y N : Nat, j ≤ i / 12 ∧ mm = 430 - j ∧ Y = 1970 + j ∧ N = mFirst (12 * j) ∧ ρ 1 = .sc (.pointer (some ⟨b, 0, none⟩)) ∧ ρ 4 = .sc (.int .i64 N) ∧ ρ 5 = .sc (.int .i64 Y) ∧ K = K0) ?_ (m := 430) (HLe.refl _)
      ⟨0, 1970, 0, by omega, rfl, rfl, by rw [show 12 * 0 = 0 from rfl, mFirst_zero], by simp, by simp, by simp, rfl⟩
    rintro mm ρ K ih ⟨j, Y, N, hj, rfl, hY, hN, r1, r4, r5, rfl⟩
    by_cases hlast : j = i / 12
    · have c1 : ¬ (Y : Int) < (y : Int) := by omega
      have c1' : ¬ Y < y := by omega
      have hNB : N = B := by rw [hN, hlast, hB]
      simp -implicitDefEqProofs [r1, r5, kb, c1, c1']
      exact hk' _ _ ⟨rfl, by simp [r1], by simp [r4, hNB]⟩
    · have c1 : (Y : Int) < (y : Int) := by omega
      have c1' : Y < y := by omega
      have hj4 : j < 430 := by omega
      have hys := year_succ hj4
      rw [← hY, ← hN] at hys
      have hb2 : mFirst (12 * (j + 1)) ≤ mFirst i := mFirst_mono (by omega) (by omega)
      obtain ⟨N', hN'⟩ : ∃ x, x = mFirst (12 * (j + 1)) := ⟨_, rfl⟩
      rw [← hN'] at hys hb2
      obtain ⟨Y', hY'⟩ : ∃ x, x = 1970 + (j + 1) := ⟨_, rfl⟩
      have wY : IntKind.i64.wrap ((Y : Int) + 1) = (Y' : Int) := wadd (b := 1) (by omega) (by omega)
      obtain ⟨N1, hN1⟩ : ∃ x, N + 365 = x := ⟨_, rfl⟩
      have w1 : IntKind.i64.wrap ((N : Int) + 365) = (N1 : Int) := wadd (b := 365) hN1 (by omega)
      simp -implicitDefEqProofs [r1, r4, r5, kb, c1, c1', w1]
      refine ACall.eq (c_ref4Leap Y) ?_
      unfold yearLen at hys
      cases hl : leapN Y with
      | true =>
        rw [if_pos hl] at hys
        have w2 : IntKind.i64.wrap ((N1 : Int) + 1) = (N' : Int) := wadd (b := 1) (by omega) (by omega)
        simp -implicitDefEqProofs [r5, w2, wY]
        exact AGo.again ih (m' := 430 - (j + 1)) (by omega) (HLe.refl _) ⟨j + 1, Y', N', by omega, rfl, hY', hN', by simp [r1], by simp, by simp, rfl⟩
      | false =>
        rw [if_neg (by simp [hl])] at hys
        have e2 : N1 = N' := by omega
        simp -implicitDefEqProofs [r5, wY]
        exact AGo.again ih (m' := 430 - (j + 1)) (by omega) (HLe.refl _) ⟨j + 1, Y', N', by omega, rfl, hY', hN', by simp [r1], by simp [e2], by simp, rfl⟩
  · rintro ρ K ⟨rfl, r1, r4⟩
    simp -implicitDefEqProofs [r1, r4]
    refine AGo.rounds (fun mm ρ K2 => ∃ q M N : Nat, q ≤ i % 12 ∧ mm = 12 - q ∧ M = q + 1 ∧ N = mFirst (12 * (i / 12) + q) ∧ ρ 1 = .sc (.pointer (some ⟨b, 0, none⟩)) ∧ ρ 4 = .sc (.int .i64 N) ∧ ρ 6 = .sc (.int .i64 M) ∧ K2 = K) ?_ (m := 12) (HLe.refl _)
      ⟨0, 1, B, by omega, rfl, rfl, hB.symm, by simp [r1], by simp [r4], by simp, rfl⟩
    rintro mm ρ K2 ih ⟨q, M, N, hq, rfl, hM, hN, r1, r4, r6, rfl⟩
    by_cases hlast : q = i % 12
    · have c1 : ¬ (M : Int) < (m : Int) := by omega
      have c1' : ¬ M < m := by omega
      have hii : 12 * (i / 12) + q = i := by omega
      rw [hii] at hN
      obtain ⟨N1, hN1⟩ : ∃ x, N + d = x := ⟨_, rfl⟩
      have w1 : IntKind.i64.wrap ((N : Int) + (d : Int)) = (N1 : Int) := wadd hN1 (by omega)
      have w2 : IntKind.i64.wrap ((N1 : Int) - 1) = (r : Int) := wsub (b := 1) (by omega) (by omega) (by omega)
      simp -implicitDefEqProofs [r1, r4, r6, kb, c1, c1', w1, w2]
      exact kW
    · have c1 : (M : Int) < (m : Int) := by omega
      have c1' : M < m := by omega
      have hil : 12 * (i / 12) + q < 5160 := by omega
      have hms := mFirst_succ hil
      have hlen : mLen (12 * (i / 12) + q) = mLong y M := by
        unfold mLen
        rw [show (12 * (i / 12) + q) / 12 = i / 12 by omega, show (12 * (i / 12) + q) % 12 = q by omega, ← hy, ← hM]
      rw [hlen, ← hN] at hms
      have hb2 : mFirst (12 * (i / 12) + q + 1) ≤ mFirst i := mFirst_mono (by omega) (by omega)
      obtain ⟨N', hN'⟩ : ∃ x, x = mFirst (12 * (i / 12) + (q + 1)) := ⟨_, rfl⟩
      have hms' : N' = N + mLong y M := by rw [hN']; exact hms
      have hb3 : N' ≤ mFirst i := by rw [hN']; exact hb2
      obtain ⟨L, hL⟩ : ∃ x, mLong y M = x := ⟨_, rfl⟩
      rw [hL] at hms'
      obtain ⟨M', hM'⟩ : ∃ x, x = q + 1 + 1 := ⟨_, rfl⟩
      have w1 : IntKind.i64.wrap ((N : Int) + (L : Int)) = (N' : Int) := wadd hms'.symm (by omega)
      have w2 : IntKind.i64.wrap ((M : Int) + 1) = (M' : Int) := wadd (b := 1) (by omega) (by omega)
      simp -implicitDefEqProofs [r1, r4, r6, kb, c1, c1']
      refine ACall.eq (c_ref4Long (y := y) (m := M) (by omega) (by omega)) ?_
      rw [hL]
      simp -implicitDefEqProofs [r4, r6, w1, w2]
      exact AGo.again ih (m' := 12 - (q + 1)) (by omega) (HLe.refl _) ⟨q + 1, M', N', by omega, rfl, hM', hN', by simp [r1], by simp, by simp, rfl⟩

theorem c_ref7May (x : Ex) (hx : x.ok) : AOk Tryz.prog 25 [exAV x] H (.sc (.bool (mayX x))) H := by
  refine ACalls.into Tryz.func25 rfl Tryz.ntmps25 Tryz.results25 (by simp) ?_
  simp -implicitDefEqProofs
  refine AAlloc.intro fun b1 h1 => ?_
  simp -implicitDefEqProofs
  generalize hK : Heap.set _ b1 _ = K0
  have k1 : K0 b1 = some (.cells (exC x) 37) := by rw [← hK]; simp [Heap.set]
  have kW : HWk H K0 := by rw [← hK]; exact HWk.new h1 (HWk.refl _)
  clear hK
  refine AGo.rounds (fun m ρ K => ∃ j : Nat, j ≤ 5 ∧ m = 5 - j ∧ ρ 1 = .sc (.pointer (some ⟨b1, 0, none⟩)) ∧ ρ 3 = .sc (.int .i64 j) ∧ (∀ i, i < j → mayB (i : Int) (x.get i).bits = true) ∧ K = K0) ?_ (m := 5) (HLe.refl _)
    ⟨0, by omega, rfl, by simp, by simp, fun i hi => by omega, rfl⟩
  rintro m ρ K ih ⟨j, hj, rfl, r1, r3, hm, rfl⟩
  have hc : j = 0 ∨ j = 1 ∨ j = 2 ∨ j = 3 ∨ j = 4 ∨ j = 5 := by omega
  rcases hc with rfl | rfl | rfl | rfl | rfl | rfl
  · simp -implicitDefEqProofs [r1, r3, k1]
    refine ACall.eq (c_refMay 0 x.a hx.a) ?_
    cases he : mayB 0 x.a.bits with
    | false => simp -implicitDefEqProofs [mayX, he]; exact kW
    | true =>
      simp -implicitDefEqProofs [r3, wrap_i64]
      exact AGo.again ih (m' := 4) (by omega) (HLe.refl _) ⟨1, by omega, rfl, by simp [r1], by simp, lt_succ_all (P := fun i : Nat => mayB (i : Int) (x.get i).bits = true) hm he, rfl⟩
  · simp -implicitDefEqProofs [r1, r3, k1]
    refine ACall.eq (c_refMay 1 x.b hx.b) ?_
    cases he : mayB 1 x.b.bits with
    | false => simp -implicitDefEqProofs [mayX, he]; exact kW
    | true =>
      simp -implicitDefEqProofs [r3, wrap_i64]
      exact AGo.again ih (m' := 3) (by omega) (HLe.refl _) ⟨2, by omega, rfl, by simp [r1], by simp, lt_succ_all (P := fun i : Nat => mayB (i : Int) (x.get i).bits = true) hm he, rfl⟩
  · simp -implicitDefEqProofs [r1, r3, k1]
    refine ACall.eq (c_refMay 2 x.c hx.c) ?_
    cases he : mayB 2 x.c.bits with
    | false => simp -implicitDefEqProofs [mayX, he]; exact kW
    | true =>
      simp -implicitDefEqProofs [r3, wrap_i64]
      exact AGo.again ih (m' := 2) (by omega) (HLe.refl _) ⟨3, by omega, rfl, by simp [r1], by simp, lt_succ_all (P := fun i : Nat => mayB (i : Int) (x.get i).bits = true) hm he, rfl⟩
  · simp -implicitDefEqProofs [r1, r3, k1]
    refine ACall.eq (c_refMay 3 x.d hx.d) ?_
    cases he : mayB 3 x.d.bits with
    | false => simp -implicitDefEqProofs [mayX, he]; exact kW
    | true =>
      simp -implicitDefEqProofs [r3, wrap_i64]
      exact AGo.again ih (m' := 1) (by omega) (HLe.refl _) ⟨4, by omega, rfl, by simp [r1], by simp, lt_succ_all (P := fun i : Nat => mayB (i : Int) (x.get i).bits = true) hm he, rfl⟩
  · simp -implicitDefEqProofs [r1, r3, k1]
    refine ACall.eq (c_refMay 4 x.e hx.e) ?_
    cases he : mayB 4 x.e.bits with
    | false => simp -implicitDefEqProofs [mayX, he]; exact kW
    | true =>
      simp -implicitDefEqProofs [r3, wrap_i64]
      exact AGo.again ih (m' := 0) (by omega) (HLe.refl _) ⟨5, by omega, rfl, by simp [r1], by simp, lt_succ_all (P := fun i : Nat => mayB (i : Int) (x.get i).bits = true) hm he, rfl⟩
  · have g0 : mayB 0 x.a.bits = true := hm 0 (by omega)
    have g1 : mayB 1 x.b.bits = true := hm 1 (by omega)
    have g2 : mayB 2 x.c.bits = true := hm 2 (by omega)
    have g3 : mayB 3 x.d.bits = true := hm 3 (by omega)
    have g4 : mayB 4 x.e.bits = true := hm 4 (by omega)
    simp -implicitDefEqProofs [r1, r3, mayX, g0, g1, g2, g3, g4]
    exact kW
end Go.Proofs.YtdpgnbinekcgdaaGreatDoor
