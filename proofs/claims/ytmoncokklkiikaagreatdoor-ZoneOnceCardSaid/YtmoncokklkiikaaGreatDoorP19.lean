/- The document's expressions: which may be, which clocks fit. The document's moments of clocks; which clocks fit; texts of expressions. Looking for firings, in plain words: what is known on the way, down (Last) and up (After), by hours and minutes, or minute by minute. The last firing up to a moment, as the program looks for it. The first firing behind a moment, as the program looks for it. A row turned round in place. Numbers and texts as bytes: what the program's package pack computes. Numbers and texts as bytes: pack.Take. -/
import Derived.Test.YtmoncokklkiikaaGreatDoorP18
import Derived.Test.YtmoncokklkiikaaGreatDoorP14
import Derived.Test.YtmoncokklkiikaaGreatDoorP15
import Derived.Test.YtmoncokklkiikaaGreatDoorP09
import Derived.Laws.BitsAllLaws
set_option linter.unusedSimpArgs false
set_option linter.unusedVariables false
set_option linter.unnecessarySimpa false
namespace Go.Proofs.YtmoncokklkiikaaGreatDoor
open Rg Go
variable {H : Heap}
theorem c_ref4LongOut {y m : Int} (h : m < 1 ∨ 12 < m) : AOk Tryz.prog 159 [.sc (.int .i64 y), .sc (.int .i64 m)] H (.sc (.int .i64 0)) H := by
  have e1 : ¬ m = 1 := by omega
  have e2 : ¬ m = 2 := by omega
  have e3 : ¬ m = 3 := by omega
  have e4 : ¬ m = 4 := by omega
  have e5 : ¬ m = 5 := by omega
  have e6 : ¬ m = 6 := by omega
  have e7 : ¬ m = 7 := by omega
  have e8 : ¬ m = 8 := by omega
  have e9 : ¬ m = 9 := by omega
  have e10 : ¬ m = 10 := by omega
  have e11 : ¬ m = 11 := by omega
  have e12 : ¬ m = 12 := by omega
  refine ACalls.into Tryz.func159 rfl Tryz.ntmps159 Tryz.results159 (by simp) ?_
  simp -implicitDefEqProofs [e1, e2, e3, e4, e5, e6, e7, e8, e9, e10, e11, e12]
theorem c_ref4LongI {y : Nat} {m : Int} : AOk Tryz.prog 159 [.sc (.int .i64 y), .sc (.int .i64 m)] H (.sc (.int .i64 (longI y m))) H := by
  by_cases h : m < 1 ∨ 12 < m
  · have e : longI y m = 0 := by unfold longI; rw [if_pos h]
    rw [e]
    exact c_ref4LongOut h
  · obtain ⟨M, rfl⟩ := Int.eq_ofNat_of_zero_le (a := m) (by omega)
    rw [long_nat y (by omega) (by omega)]
    exact c_ref4Long (by omega) (by omega)
theorem c_ref4May (y m d : Int) : AOk Tryz.prog 157 [dAV y m d] H (.sc (.bool (mayD y m d))) H := by
  refine ACalls.into Tryz.func157 rfl Tryz.ntmps157 Tryz.results157 (by simp) ?_
  simp -implicitDefEqProofs
  refine AAlloc.intro fun b hb => ?_
  have hW : ∀ o, HWk H (H.set b o) := fun o => HWk.new hb (HWk.refl _)
  unfold mayD
  simp -implicitDefEqProofs
  refine go_draw 24 f_mixed (by decide +kernel) ?_
  by_cases h1 : 1970 ≤ y
  · by_cases h2 : y ≤ 2399
    · by_cases h3 : 1 ≤ d
      · obtain ⟨Y, rfl⟩ := Int.eq_ofNat_of_zero_le (a := y) (by omega)
        simp -implicitDefEqProofs [h1, h2, h3]
        refine AQS.eq (c_ref4LongI (y := Y) (m := m)) ?_
        simp -implicitDefEqProofs
        exact hW _
      · simp -implicitDefEqProofs [h1, h2, h3]
        exact hW _
    · simp -implicitDefEqProofs [h1, h2]
      exact hW _
  · simp -implicitDefEqProofs [h1]
    exact hW _
theorem c_ref4Days_bad {y m d : Int} (h : mayD y m d = false) : AOk Tryz.prog 109 [dAV y m d] H (.tup [.sc (.int .i64 0), .sc (.int .i64 2)]) H := by
  refine ACalls.into Tryz.func109 rfl Tryz.ntmps109 Tryz.results109 (by simp) ?_
  simp -implicitDefEqProofs
  refine AAlloc.intro fun b hb => ?_
  simp -implicitDefEqProofs
  refine ACall.eq (c_ref4May y m d) ?_
  simp -implicitDefEqProofs [h]
  exact HWk.new hb (HWk.refl _)
theorem c_ref4Days {y m d : Nat} (h : mayD (y : Int) (m : Int) (d : Int) = true) : AOk Tryz.prog 109 [dAV y m d] H (.tup [.sc (.int .i64 (daysN y m d)), .sc (.int .i64 0)]) H := by
  obtain ⟨i, dd, hi, hdd, h1, h2, h3⟩ := mayD_in h
  have e : daysN y m d = mFirst i + dd := by rw [← days_of i dd]; congr 1 <;> omega
  have hlt := mFirst_mono (i := i + 1) (j := 5160) (by omega) (Nat.le_refl _)
  rw [mFirst_succ hi, mFirst_end] at hlt
  rw [e]
  obtain ⟨r, hr⟩ : ∃ r, mFirst i + dd = r := ⟨_, rfl⟩
  rw [hr]
  have hy : y = 1970 + i / 12 := by omega
  have hmm : m = i % 12 + 1 := by omega
  have hd : d = dd + 1 := by omega
  clear h1 h2 h3 e
  refine ACalls.into Tryz.func109 rfl Tryz.ntmps109 Tryz.results109 (by simp) ?_
  simp -implicitDefEqProofs
  refine AAlloc.intro fun b hb => ?_
  simp -implicitDefEqProofs
  generalize hK : Heap.set _ b _ = K0
  have kb : K0 b = some (.cells [.sc (.int .i64 y), .sc (.int .i64 m), .sc (.int .i64 d)] 46) := by rw [← hK]; simp [Heap.set]
  have kW : HWk H K0 := by rw [← hK]; exact HWk.new hb (HWk.refl _)
  clear hK
  refine ACall.eq (c_ref4May y m d) ?_
  obtain ⟨B, hB⟩ : ∃ B, mFirst (12 * (i / 12)) = B := ⟨_, rfl⟩
  simp -implicitDefEqProofs [h]
  refine AGo.joinLoop (fun ρ K => K = K0 ∧ ρ 1 = .sc (.pointer (some ⟨b, 0, none⟩)) ∧ ρ 4 = .sc (.int .i64 B)) (fun k' hk' => ?_) ?_
  · refine AGo.rounds (fun mm ρ K => ∃ j Y N : Nat, j ≤ i / 12 ∧ mm = 430 - j ∧ Y = 1970 + j ∧ N = mFirst (12 * j) ∧ ρ 1 = .sc (.pointer (some ⟨b, 0, none⟩)) ∧ ρ 4 = .sc (.int .i64 N) ∧ ρ 5 = .sc (.int .i64 Y) ∧ K = K0) ?_ (m := 430) (HLe.refl _)
      ⟨0, 1970, 0, by omega, rfl, rfl, by rw [show 12 * 0 = 0 from rfl, mFirst_zero], by simp, by simp, by simp, rfl⟩
    rintro mm ρ K ih ⟨j, Y, N, hj, rfl, hY, hN, r1, r4, r5, rfl⟩
    by_cases hlast : j = i / 12
    · have c1 : ¬ (Y : Int) < (y : Int) := by omega
      have c1' : ¬ Y < y := by omega
      have hNB : N = B := by rw [hN, hlast, hB]
      simp -implicitDefEqProofs [r1, r5, kb, c1, c1']
      exact hk' _ _ ⟨rfl, by simp [r1], by simp [r4, hNB]⟩
    · have c1 : (Y : Int) < (y : Int) := by omega
      have c1' : Y < y := by omega
      have hj4 : j < 430 := by omega
      have hys := year_succ hj4
      rw [← hY, ← hN] at hys
      have hb2 : mFirst (12 * (j + 1)) ≤ mFirst i := mFirst_mono (by omega) (by omega)
      obtain ⟨N', hN'⟩ : ∃ x, x = mFirst (12 * (j + 1)) := ⟨_, rfl⟩
      rw [← hN'] at hys hb2
      obtain ⟨Y', hY'⟩ : ∃ x, x = 1970 + (j + 1) := ⟨_, rfl⟩
      have wY : IntKind.i64.wrap ((Y : Int) + 1) = (Y' : Int) := wadd (b := 1) (by omega) (by omega)
      obtain ⟨N1, hN1⟩ : ∃ x, N + 365 = x := ⟨_, rfl⟩
      have w1 : IntKind.i64.wrap ((N : Int) + 365) = (N1 : Int) := wadd (b := 365) hN1 (by omega)
      simp -implicitDefEqProofs [r1, r4, r5, kb, c1, c1', w1]
      refine ACall.eq (c_ref4Leap Y) ?_
      unfold yearLen at hys
      cases hl : leapN Y with
      | true =>
        rw [if_pos hl] at hys
        have w2 : IntKind.i64.wrap ((N1 : Int) + 1) = (N' : Int) := wadd (b := 1) (by omega) (by omega)
        simp -implicitDefEqProofs [r5, w2, wY]
        exact AGo.again ih (m' := 430 - (j + 1)) (by omega) (HLe.refl _) ⟨j + 1, Y', N', by omega, rfl, hY', hN', by simp [r1], by simp, by simp, rfl⟩
      | false =>
        rw [if_neg (by simp [hl])] at hys
        have e2 : N1 = N' := by omega
        simp -implicitDefEqProofs [r5, wY]
        exact AGo.again ih (m' := 430 - (j + 1)) (by omega) (HLe.refl _) ⟨j + 1, Y', N', by omega, rfl, hY', hN', by simp [r1], by simp [e2], by simp, rfl⟩
  · rintro ρ K ⟨rfl, r1, r4⟩
    simp -implicitDefEqProofs [r1, r4]
    refine AGo.rounds (fun mm ρ K2 => ∃ q M N : Nat, q ≤ i % 12 ∧ mm = 12 - q ∧ M = q + 1 ∧ N = mFirst (12 * (i / 12) + q) ∧ ρ 1 = .sc (.pointer (some ⟨b, 0, none⟩)) ∧ ρ 4 = .sc (.int .i64 N) ∧ ρ 6 = .sc (.int .i64 M) ∧ K2 = K) ?_ (m := 12) (HLe.refl _)
      ⟨0, 1, B, by omega, rfl, rfl, hB.symm, by simp [r1], by simp [r4], by simp, rfl⟩
    rintro mm ρ K2 ih ⟨q, M, N, hq, rfl, hM, hN, r1, r4, r6, rfl⟩
    by_cases hlast : q = i % 12
    · have c1 : ¬ (M : Int) < (m : Int) := by omega
      have c1' : ¬ M < m := by omega
      have hii : 12 * (i / 12) + q = i := by omega
      rw [hii] at hN
      obtain ⟨N1, hN1⟩ : ∃ x, N + d = x := ⟨_, rfl⟩
      have w1 : IntKind.i64.wrap ((N : Int) + (d : Int)) = (N1 : Int) := wadd hN1 (by omega)
      have w2 : IntKind.i64.wrap ((N1 : Int) - 1) = (r : Int) := wsub (b := 1) (by omega) (by omega) (by omega)
      simp -implicitDefEqProofs [r1, r4, r6, kb, c1, c1', w1, w2]
      exact kW
    · have c1 : (M : Int) < (m : Int) := by omega
      have c1' : M < m := by omega
      have hil : 12 * (i / 12) + q < 5160 := by omega
      have hms := mFirst_succ hil
      have hlen : mLen (12 * (i / 12) + q) = mLong y M := by
        unfold mLen
        rw [show (12 * (i / 12) + q) / 12 = i / 12 by omega, show (12 * (i / 12) + q) % 12 = q by omega, ← hy, ← hM]
      rw [hlen, ← hN] at hms
      have hb2 : mFirst (12 * (i / 12) + q + 1) ≤ mFirst i := mFirst_mono (by omega) (by omega)
      obtain ⟨N', hN'⟩ : ∃ x, x = mFirst (12 * (i / 12) + (q + 1)) := ⟨_, rfl⟩
      have hms' : N' = N + mLong y M := by rw [hN']; exact hms
      have hb3 : N' ≤ mFirst i := by rw [hN']; exact hb2
      obtain ⟨L, hL⟩ : ∃ x, mLong y M = x := ⟨_, rfl⟩
      rw [hL] at hms'
      obtain ⟨M', hM'⟩ : ∃ x, x = q + 1 + 1 := ⟨_, rfl⟩
      have w1 : IntKind.i64.wrap ((N : Int) + (L : Int)) = (N' : Int) := wadd hms'.symm (by omega)
      have w2 : IntKind.i64.wrap ((M : Int) + 1) = (M' : Int) := wadd (b := 1) (by omega) (by omega)
      simp -implicitDefEqProofs [r1, r4, r6, kb, c1, c1']
      refine ACall.eq (c_ref4Long (y := y) (m := M) (by omega) (by omega)) ?_
      rw [hL]
      simp -implicitDefEqProofs [r4, r6, w1, w2]
      exact AGo.again ih (m' := 12 - (q + 1)) (by omega) (HLe.refl _) ⟨q + 1, M', N', by omega, rfl, hM', hN', by simp [r1], by simp, by simp, rfl⟩
theorem c_ref7May (x : Ex) (hx : x.ok) : AOk Tryz.prog 30 [exAV x] H (.sc (.bool (mayX x))) H := by
  refine ACalls.into Tryz.func30 rfl Tryz.ntmps30 Tryz.results30 (by simp) ?_
  simp -implicitDefEqProofs
  refine AAlloc.intro fun b1 h1 => ?_
  simp -implicitDefEqProofs
  generalize hK : Heap.set _ b1 _ = K0
  have k1 : K0 b1 = some (.cells (exC x) 42) := by rw [← hK]; simp [Heap.set]
  have kW : HWk H K0 := by rw [← hK]; exact HWk.new h1 (HWk.refl _)
  clear hK
  refine AGo.rounds (fun m ρ K => ∃ j : Nat, j ≤ 5 ∧ m = 5 - j ∧ ρ 1 = .sc (.pointer (some ⟨b1, 0, none⟩)) ∧ ρ 3 = .sc (.int .i64 j) ∧ (∀ i, i < j → mayB (i : Int) (x.get i).bits = true) ∧ K = K0) ?_ (m := 5) (HLe.refl _)
    ⟨0, by omega, rfl, by simp, by simp, fun i hi => by omega, rfl⟩
  rintro m ρ K ih ⟨j, hj, rfl, r1, r3, hm, rfl⟩
  have hc : j = 0 ∨ j = 1 ∨ j = 2 ∨ j = 3 ∨ j = 4 ∨ j = 5 := by omega
  rcases hc with rfl | rfl | rfl | rfl | rfl | rfl
  · simp -implicitDefEqProofs [r1, r3, k1]
    refine ACall.eq (c_refMay 0 x.a hx.a) ?_
    cases he : mayB 0 x.a.bits with
    | false => simp -implicitDefEqProofs [mayX, he]; exact kW
    | true =>
      simp -implicitDefEqProofs [r3, wrap_i64]
      exact AGo.again ih (m' := 4) (by omega) (HLe.refl _) ⟨1, by omega, rfl, by simp [r1], by simp, lt_succ_all (P := fun i : Nat => mayB (i : Int) (x.get i).bits = true) hm he, rfl⟩
  · simp -implicitDefEqProofs [r1, r3, k1]
    refine ACall.eq (c_refMay 1 x.b hx.b) ?_
    cases he : mayB 1 x.b.bits with
    | false => simp -implicitDefEqProofs [mayX, he]; exact kW
    | true =>
      simp -implicitDefEqProofs [r3, wrap_i64]
      exact AGo.again ih (m' := 3) (by omega) (HLe.refl _) ⟨2, by omega, rfl, by simp [r1], by simp, lt_succ_all (P := fun i : Nat => mayB (i : Int) (x.get i).bits = true) hm he, rfl⟩
  · simp -implicitDefEqProofs [r1, r3, k1]
    refine ACall.eq (c_refMay 2 x.c hx.c) ?_
    cases he : mayB 2 x.c.bits with
    | false => simp -implicitDefEqProofs [mayX, he]; exact kW
    | true =>
      simp -implicitDefEqProofs [r3, wrap_i64]
      exact AGo.again ih (m' := 2) (by omega) (HLe.refl _) ⟨3, by omega, rfl, by simp [r1], by simp, lt_succ_all (P := fun i : Nat => mayB (i : Int) (x.get i).bits = true) hm he, rfl⟩
  · simp -implicitDefEqProofs [r1, r3, k1]
    refine ACall.eq (c_refMay 3 x.d hx.d) ?_
    cases he : mayB 3 x.d.bits with
    | false => simp -implicitDefEqProofs [mayX, he]; exact kW
    | true =>
      simp -implicitDefEqProofs [r3, wrap_i64]
      exact AGo.again ih (m' := 1) (by omega) (HLe.refl _) ⟨4, by omega, rfl, by simp [r1], by simp, lt_succ_all (P := fun i : Nat => mayB (i : Int) (x.get i).bits = true) hm he, rfl⟩
  · simp -implicitDefEqProofs [r1, r3, k1]
    refine ACall.eq (c_refMay 4 x.e hx.e) ?_
    cases he : mayB 4 x.e.bits with
    | false => simp -implicitDefEqProofs [mayX, he]; exact kW
    | true =>
      simp -implicitDefEqProofs [r3, wrap_i64]
      exact AGo.again ih (m' := 0) (by omega) (HLe.refl _) ⟨5, by omega, rfl, by simp [r1], by simp, lt_succ_all (P := fun i : Nat => mayB (i : Int) (x.get i).bits = true) hm he, rfl⟩
  · have g0 : mayB 0 x.a.bits = true := hm 0 (by omega)
    have g1 : mayB 1 x.b.bits = true := hm 1 (by omega)
    have g2 : mayB 2 x.c.bits = true := hm 2 (by omega)
    have g3 : mayB 3 x.d.bits = true := hm 3 (by omega)
    have g4 : mayB 4 x.e.bits = true := hm 4 (by omega)
    simp -implicitDefEqProofs [r1, r3, mayX, g0, g1, g2, g3, g4]
    exact kW
end Go.Proofs.YtmoncokklkiikaaGreatDoor
namespace Go.Proofs.YtmoncokklkiikaaGreatDoor
open Rg Go
variable {H : Heap}
theorem c_join_bad {c : Clk} (h : mayC c = false) : AOk Tryz.prog 37 [cAV c] H (.tup [.sc (.int .i64 0), .sc (.int .i64 2)]) H := by
  obtain ⟨y, m, d, h', mi, s, w⟩ := c
  refine ACalls.into Tryz.func37 rfl Tryz.ntmps37 Tryz.results37 (by simp) ?_
  simp -implicitDefEqProofs
  refine AAlloc.intro fun b hb => ?_
  have hW : ∀ o, HWk H (H.set b o) := fun o => HWk.new hb (HWk.refl _)
  simp -implicitDefEqProofs
  cases hd : mayD y m d with
  | false =>
    refine ACall.eq (c_ref4Days_bad hd) ?_
    simp -implicitDefEqProofs
    refine go_draw 39 f_mixed (by decide +kernel) ?_
    simp -implicitDefEqProofs
    exact hW _
  | true =>
    obtain ⟨i, dd, hi, hdd, e1, e2, e3⟩ := mayD_in hd
    generalize 1970 + i / 12 = Y at e1
    generalize i % 12 + 1 = M at e2
    generalize dd + 1 = D at e3
    subst e1 e2 e3
    refine ACall.eq (c_ref4Days hd) ?_
    simp -implicitDefEqProofs
    refine go_draw 39 f_mixed (by decide +kernel) ?_
    by_cases h1 : h' < 0
    · simp -implicitDefEqProofs [h1]
      exact hW _
    · by_cases h2 : 24 ≤ h'
      · simp -implicitDefEqProofs [h1, h2]
        exact hW _
      · by_cases m1 : mi < 0
        · simp -implicitDefEqProofs [h1, h2, m1]
          exact hW _
        · by_cases m2 : 60 ≤ mi
          · simp -implicitDefEqProofs [h1, h2, m1, m2]
            exact hW _
          · by_cases s1 : s < 0
            · simp -implicitDefEqProofs [h1, h2, m1, m2, s1]
              exact hW _
            · by_cases s2 : 60 ≤ s
              · simp -implicitDefEqProofs [h1, h2, m1, m2, s1, s2]
                exact hW _
              · simp -implicitDefEqProofs [h1, h2, m1, m2, s1, s2]
                have hlt := (clk_mom (h := 0) (mi := 0) (s := 0) hd (by omega) (by omega) (by omega)).1
                unfold momC at hlt
                refine AQS.eq (c_ref4Weekday (daysN Y M D) (by omega)) ?_
                have hw : ¬ w = (((daysN Y M D + 4) % 7 : Nat) : Int) := fun e => by
                  have e2 : w = wdayC ⟨Y, M, D, h', mi, s, w⟩ := e
                  have : mayC ⟨Y, M, D, h', mi, s, w⟩ = true := by
                    simp only [mayC, Bool.and_eq_true, decide_eq_true_eq]
                    exact ⟨⟨⟨⟨⟨⟨⟨by omega, by omega⟩, by omega⟩, by omega⟩, by omega⟩, by omega⟩, hd⟩, e2⟩
                  rw [this] at h; cases h
                generalize (((daysN Y M D + 4) % 7 : Nat) : Int) = wd at hw ⊢
                simp -implicitDefEqProofs [hw]
                exact hW _
theorem c_join_ok {y m d h mi s : Nat} (hd : mayD (y : Int) (m : Int) (d : Int) = true) (hh : h ≤ 23) (hm : mi ≤ 59) (hs : s ≤ 59) :
    AOk Tryz.prog 37 [cAV ⟨y, m, d, h, mi, s, (((daysN y m d + 4) % 7 : Nat) : Int)⟩] H (.tup [.sc (.int .i64 (momC y m d h mi s)), .sc (.int .i64 0)]) H := by
  have hlt := (clk_mom (h := 0) (mi := 0) (s := 0) hd (by omega) (by omega) (by omega)).1
  unfold momC at *
  have hdays := c_ref4Days (H := H) hd
  obtain ⟨n, hn⟩ : ∃ x, daysN y m d = x := ⟨_, rfl⟩
  rw [hn] at hlt ⊢
  obtain ⟨wd, hwd⟩ : ∃ x, (n + 4) % 7 = x := ⟨_, rfl⟩
  rw [hwd]
  obtain ⟨a1, ha1⟩ : ∃ x, n * 24 = x := ⟨_, rfl⟩
  obtain ⟨a2, ha2⟩ : ∃ x, a1 + h = x := ⟨_, rfl⟩
  obtain ⟨a3, ha3⟩ : ∃ x, a2 * 60 = x := ⟨_, rfl⟩
  obtain ⟨a4, ha4⟩ : ∃ x, a3 + mi = x := ⟨_, rfl⟩
  obtain ⟨a5, ha5⟩ : ∃ x, a4 * 60 = x := ⟨_, rfl⟩
  obtain ⟨a6, ha6⟩ : ∃ x, a5 + s = x := ⟨_, rfl⟩
  have w1 : IntKind.i64.wrap ((n : Int) * 24) = (a1 : Int) := wmul (b := 24) ha1 (by omega)
  have w2 : IntKind.i64.wrap ((a1 : Int) + (h : Int)) = (a2 : Int) := wadd ha2 (by omega)
  have w3 : IntKind.i64.wrap ((a2 : Int) * 60) = (a3 : Int) := wmul (b := 60) ha3 (by omega)
  have w4 : IntKind.i64.wrap ((a3 : Int) + (mi : Int)) = (a4 : Int) := wadd ha4 (by omega)
  have w5 : IntKind.i64.wrap ((a4 : Int) * 60) = (a5 : Int) := wmul (b := 60) ha5 (by omega)
  have w6 : IntKind.i64.wrap ((a5 : Int) + (s : Int)) = (a6 : Int) := wadd ha6 (by omega)
  have wn : IntKind.i64.wrap (n : Int) = (n : Int) := wrap_i64 (by omega) (by omega)
  have wh : IntKind.i64.wrap (h : Int) = (h : Int) := wrap_i64 (by omega) (by omega)
  have wm : IntKind.i64.wrap (mi : Int) = (mi : Int) := wrap_i64 (by omega) (by omega)
  have ws : IntKind.i64.wrap (s : Int) = (s : Int) := wrap_i64 (by omega) (by omega)
  have eq : n * 86400 + h * 3600 + mi * 60 + s = a6 := by omega
  rw [eq]
  have h2 : ¬ (24 : Int) ≤ (h : Int) := by omega
  have h2' : ¬ 24 ≤ h := by omega
  have m2 : ¬ (60 : Int) ≤ (mi : Int) := by omega
  have m2' : ¬ 60 ≤ mi := by omega
  have s2 : ¬ (60 : Int) ≤ (s : Int) := by omega
  have s2' : ¬ 60 ≤ s := by omega
  refine ACalls.into Tryz.func37 rfl Tryz.ntmps37 Tryz.results37 (by simp) ?_
  simp -implicitDefEqProofs
  refine AAlloc.intro fun b hb => ?_
  simp -implicitDefEqProofs
  refine ACall.eq (v := .tup [.sc (.int .i64 n), .sc (.int .i64 0)]) (by rw [← hn]; exact c_ref4Days hd) ?_
  simp -implicitDefEqProofs
  refine go_draw 39 f_mixed (by decide +kernel) ?_
  simp -implicitDefEqProofs [h2, h2', m2, m2', s2, s2']
  refine AQS.eq (v := .sc (.int .i64 wd)) (by rw [← hwd]; exact c_ref4Weekday n (by omega)) ?_
  simp -implicitDefEqProofs [w1, w2, w3, w4, w5, w6, wn, wh, wm, ws]
  exact HWk.new hb (HWk.refl _)
theorem c_join_any (c : Clk) : ∃ v : Int, AOk Tryz.prog 37 [cAV c] H (.tup [.sc (.int .i64 v), .sc (.int .i64 (if mayC c = true then 0 else 2))]) H := by
  cases h : mayC c with
  | false => exact ⟨0, c_join_bad h⟩
  | true =>
    obtain ⟨y, m, d, h', mi, s, w⟩ := c
    simp only [mayC, Bool.and_eq_true, decide_eq_true_eq] at h
    obtain ⟨⟨⟨⟨⟨⟨⟨h1, h2⟩, h3⟩, h4⟩, h5⟩, h6⟩, hd⟩, hw⟩ := h
    obtain ⟨i, dd, hi, hdd, e1, e2, e3⟩ := mayD_in hd
    generalize 1970 + i / 12 = Y at e1
    generalize i % 12 + 1 = M at e2
    generalize dd + 1 = D at e3
    subst e1 e2 e3
    obtain ⟨h', rfl⟩ := Int.eq_ofNat_of_zero_le h1
    obtain ⟨mi, rfl⟩ := Int.eq_ofNat_of_zero_le h3
    obtain ⟨s, rfl⟩ := Int.eq_ofNat_of_zero_le h5
    have ew : w = (((daysN Y M D + 4) % 7 : Nat) : Int) := hw
    subst ew
    exact ⟨_, c_join_ok hd (by omega) (by omega) (by omega)⟩
theorem c_ref7DayFits (x : Ex) (hx : x.ok) (c : Clk) : AOk Tryz.prog 112 [exAV x, cAV c] H (.sc (.bool (dayFitsX x c))) H := by
  refine ACalls.into Tryz.func112 rfl Tryz.ntmps112 Tryz.results112 (by simp) ?_
  simp -implicitDefEqProofs
  refine AAlloc.intro fun b2 h2 => ?_
  simp -implicitDefEqProofs
  refine AAlloc.intro fun b3 h3 => ?_
  have n32 : b3 ≠ b2 := by intro e; subst e; simp [Heap.set] at h3
  have n23 := n32.symm
  have e3 : H b3 = none := (HLe.set_fresh h2).none h3
  simp -implicitDefEqProofs [n32, n23]
  generalize hK : Heap.set _ b3 _ = K
  have k2 : K b2 = some (.cells (exC x) 42) := by rw [← hK]; simp [Heap.set, n23]
  have k3 : K b3 = some (.cells [.sc (.int .i64 c.y), .sc (.int .i64 c.m), .sc (.int .i64 c.d), .sc (.int .i64 c.h), .sc (.int .i64 c.mi), .sc (.int .i64 c.s), .sc (.int .i64 c.w)] 48) := by rw [← hK]; simp [Heap.set]
  have kW : HWk H K := by rw [← hK]; exact HWk.new e3 (HWk.new h2 (HWk.refl _))
  clear hK
  obtain ⟨v, hj⟩ := c_join_any (H := K) c
  unfold dayFitsX
  cases hc : mayC c with
  | false =>
    rw [hc] at hj
    refine ACall.eq hj ?_
    simp -implicitDefEqProofs
    exact kW
  | true =>
    rw [hc] at hj
    refine ACall.eq hj ?_
    simp -implicitDefEqProofs [k2]
    refine ACall.eq (c_ref7May x hx) ?_
    cases hm : mayX x with
    | false => simp -implicitDefEqProofs; exact kW
    | true =>
      obtain ⟨day, hday⟩ : ∃ z, hasB x.c.bits c.d = z := ⟨_, rfl⟩
      obtain ⟨week, hweek⟩ : ∃ z, hasB x.e.bits c.w = z := ⟨_, rfl⟩
      obtain ⟨mon, hmon⟩ : ∃ z, hasB x.d.bits c.m = z := ⟨_, rfl⟩
      have p1 := c_refHas (H := K) x.d c.m hx.d
      have p2 := c_refHas (H := K) x.c c.d hx.c
      have p3 := c_refHas (H := K) x.e c.w hx.e
      rw [hmon] at p1
      rw [hday] at p2
      rw [hweek] at p3
      rw [hday, hweek, hmon]
      simp -implicitDefEqProofs [k2, k3]
      refine ACall.eq p1 ?_
      cases mon with
      | false => simp -implicitDefEqProofs; exact kW
      | true =>
        simp -implicitDefEqProofs [k2, k3]
        refine ACall.eq p2 ?_
        simp -implicitDefEqProofs [k2, k3]
        refine ACall.eq p3 ?_
        cases hsc : x.c.star with
        | true =>
          simp -implicitDefEqProofs [k2, hsc]
          cases day <;> cases week <;> simp -implicitDefEqProofs <;> exact kW
        | false =>
          cases hse : x.e.star with
          | true =>
            simp -implicitDefEqProofs [k2, hsc, hse]
            cases day <;> cases week <;> simp -implicitDefEqProofs <;> exact kW
          | false =>
            simp -implicitDefEqProofs [k2, hsc, hse]
            cases day <;> cases week <;> simp -implicitDefEqProofs <;> exact kW
theorem c_ref7Fits (x : Ex) (hx : x.ok) (c : Clk) : AOk Tryz.prog 44 [exAV x, cAV c] H (.sc (.bool (fitsX x c))) H := by
  refine ACalls.into Tryz.func44 rfl Tryz.ntmps44 Tryz.results44 (by simp) ?_
  simp -implicitDefEqProofs
  refine AAlloc.intro fun b2 h2 => ?_
  simp -implicitDefEqProofs
  refine AAlloc.intro fun b3 h3 => ?_
  have n32 : b3 ≠ b2 := by intro e; subst e; simp [Heap.set] at h3
  have n23 := n32.symm
  have e3 : H b3 = none := (HLe.set_fresh h2).none h3
  simp -implicitDefEqProofs [n32, n23]
  generalize hK : Heap.set _ b3 _ = K
  have k2 : K b2 = some (.cells (exC x) 42) := by rw [← hK]; simp [Heap.set, n23]
  have k3 : K b3 = some (.cells [.sc (.int .i64 c.y), .sc (.int .i64 c.m), .sc (.int .i64 c.d), .sc (.int .i64 c.h), .sc (.int .i64 c.mi), .sc (.int .i64 c.s), .sc (.int .i64 c.w)] 48) := by rw [← hK]; simp [Heap.set]
  have kW : HWk H K := by rw [← hK]; exact HWk.new e3 (HWk.new h2 (HWk.refl _))
  clear hK
  refine ACall.eq (c_ref7DayFits x hx c) ?_
  unfold fitsX
  cases hd : dayFitsX x c with
  | false => simp -implicitDefEqProofs; exact kW
  | true =>
    simp -implicitDefEqProofs [k2, k3]
    refine ACall.eq (c_refHas x.a c.mi hx.a) ?_
    cases hm : hasB x.a.bits c.mi with
    | false => simp -implicitDefEqProofs; exact kW
    | true =>
      simp -implicitDefEqProofs [k2, k3]
      refine ACall.eq (c_refHas x.b c.h hx.b) ?_
      simp -implicitDefEqProofs
      exact kW
end Go.Proofs.YtmoncokklkiikaaGreatDoor
namespace Go.Proofs.YtmoncokklkiikaaGreatDoor
open Rg Go
theorem byc {p : Prop} [Decidable p] (h : ¬p → False) : p := Decidable.byContradiction h
theorem false_of {x : Ex} {k : Nat} (h : fireB x k = true → False) : fireB x k = false := by
  cases e : fireB x k with
  | false => rfl
  | true => exact absurd (h e) id
theorem bits_ok {x : Ex} (hx : x.ok) (hm : mayX x = true) : (∀ j, x.a.bits.testBit j = true → j ≤ 59) ∧ (∀ j, x.b.bits.testBit j = true → j ≤ 23) := by
  simp only [mayX, Bool.and_eq_true] at hm
  obtain ⟨⟨⟨⟨h0, h1⟩, h2⟩, h3⟩, h4⟩ := hm
  refine ⟨fun j hj => ?_, fun j hj => ?_⟩
  · have := (may_bits hx.a h0).2.2 j hj; simp [mostK] at this; omega
  · have := (may_bits hx.b h1).2.2 j hj; simp [mostK] at this; omega
theorem has_bit {b : Nat} {n : Nat} (h : n ≤ 63) : hasB b (n : Int) = b.testBit n := hasB_nat2 b n h
section
variable {x : Ex} {t n mm h m D : Nat}
end
def OutN (x : Ex) (t n mm : Nat) : Prop := mm ≤ 1439 ∧ n ≤ 157054 ∧ t < n * 86400 + mm * 60 ∧ ∀ k, t < k → k < n * 86400 + mm * 60 → fireB x k = false
def InN (x : Ex) (t n h mm : Nat) : Prop := mm ≤ 59 ∧ h ≤ 24 ∧ n < 157054 ∧ dayB x n = true ∧ t < n * 86400 + min (h * 3600 + mm * 60) 86400 ∧ ∀ k, t < k → k < n * 86400 + h * 3600 + mm * 60 → fireB x k = false
section
variable {x : Ex} {t n mm h m D : Nat}
theorem outN_init (ht : t < 13569465600) : OutN x t ((t / 60 * 60 + 60) / 86400) ((t / 60 * 60 + 60) % 86400 / 60) :=
  ⟨byc fun _ => by omega, byc fun _ => by omega, byc fun _ => by omega, fun k h1 h2 => false_of fun hf => by
    obtain ⟨n, h, m, g1, g2, g3, rfl, _⟩ := fire_inv (byc fun _ => by omega) hf
    omega⟩
theorem outN_end (hO : OutN x t 157054 mm) : IsNext x t none := fun k h1 h2 => hO.2.2.2 k h1 (byc fun _ => by omega)
theorem outN_month (hO : OutN x t n mm) (hn : n < 157054) (hb : hasB x.d.bits ((civ n).2.1 : Int) = false) : OutN x t (n + (mLong (civ n).1 (civ n).2.1 - (civ n).2.2) + 1) 0 := by
  obtain ⟨h1, h2, h3, h4⟩ := hO
  obtain ⟨c1, c2, c3, c4, c5, c6, c7, c8⟩ := civ_month (n := n) (byc fun _ => by omega)
  have c9 := (civ_same (n := n) (k := n + (mLong (civ n).1 (civ n).2.1 - (civ n).2.2)) (byc fun _ => by omega) (byc fun _ => by omega) (byc fun _ => by omega)).1
  refine ⟨byc fun _ => by omega, byc fun _ => by omega, byc fun _ => by omega, fun k g1 g2 => ?_⟩
  by_cases hk : k < n * 86400 + mm * 60
  · exact h4 k g1 hk
  · refine false_of fun hf => ?_
    obtain ⟨q, h, m, q1, q2, q3, rfl, q4, q5, _⟩ := fire_inv (byc fun _ => by omega) hf
    have := civ_same (n := n) (k := q) (byc fun _ => by omega) (byc fun _ => by omega) (byc fun _ => by omega)
    unfold dayB at q5
    rw [this.2, hb] at q5
    simp at q5
theorem outN_day (hO : OutN x t n mm) (hn : n < 157054) (hb : dayB x n = false) : OutN x t (n + 1) 0 := by
  obtain ⟨h1, h2, h3, h4⟩ := hO
  refine ⟨byc fun _ => by omega, byc fun _ => by omega, byc fun _ => by omega, fun k g1 g2 => ?_⟩
  by_cases hk : k < n * 86400 + mm * 60
  · exact h4 k g1 hk
  · refine false_of fun hf => ?_
    obtain ⟨q, h, m, q1, q2, q3, rfl, q4, q5, _⟩ := fire_inv (byc fun _ => by omega) hf
    obtain rfl : q = n := byc fun _ => by omega
    rw [hb] at q5; cases q5
theorem inN_init (hO : OutN x t n mm) (hn : n < 157054) (hb : dayB x n = true) : InN x t n (mm / 60) (mm % 60) := by
  obtain ⟨h1, h2, h3, h4⟩ := hO
  exact ⟨byc fun _ => by omega, byc fun _ => by omega, hn, hb, byc fun _ => by omega, fun k g1 g2 => h4 k g1 (byc fun _ => by omega)⟩
theorem inN_none (hI : InN x t n h mm) (hb : ∀ j : Nat, h ≤ j → hasB x.b.bits (j : Int) = false) : OutN x t (n + 1) 0 := by
  obtain ⟨h1, h2, h3, h4, h5, h6⟩ := hI
  refine ⟨byc fun _ => by omega, byc fun _ => by omega, byc fun _ => by omega, fun k g1 g2 => ?_⟩
  by_cases hk : k < n * 86400 + h * 3600 + mm * 60
  · exact h6 k g1 hk
  · refine false_of fun hf => ?_
    obtain ⟨q, h', m, q1, q2, q3, rfl, q4, q5, q6, q7⟩ := fire_inv (byc fun _ => by omega) hf
    rw [hb h' (byc fun _ => by omega)] at q7; cases q7
theorem inN_up {h' : Nat} (hI : InN x t n h mm) (hh : h < h') (hh' : h' ≤ 24) (hb : ∀ j : Nat, h ≤ j → j < h' → hasB x.b.bits (j : Int) = false) : InN x t n h' 0 := by
  obtain ⟨h1, h2, h3, h4, h5, h6⟩ := hI
  refine ⟨byc fun _ => by omega, byc fun _ => by omega, byc fun _ => by omega, h4, byc fun _ => by omega, fun k g1 g2 => ?_⟩
  by_cases hk : k < n * 86400 + h * 3600 + mm * 60
  · exact h6 k g1 hk
  · refine false_of fun hf => ?_
    obtain ⟨q, h'', m, q1, q2, q3, rfl, q4, q5, q6, q7⟩ := fire_inv (byc fun _ => by omega) hf
    rw [hb h'' (byc fun _ => by omega) (byc fun _ => by omega)] at q7; cases q7
theorem inN_found (hx : mayX x = true) (hI : InN x t n h mm) (hh : h < 24) (hb : hasB x.b.bits (h : Int) = true) (ha : hasB x.a.bits (m : Int) = true) (hm : mm ≤ m) (hm2 : m < 60) (hn : ∀ j : Nat, mm ≤ j → j < m → hasB x.a.bits (j : Int) = false) :
    IsNext x t (some (n * 86400 + h * 3600 + m * 60)) := by
  obtain ⟨h1, h2, h3, h4, h5, h6⟩ := hI
  refine ⟨byc fun _ => by omega, byc fun _ => by omega, fire_mk h3 (byc fun _ => by omega) (byc fun _ => by omega) hx h4 ha hb, fun k g1 g2 => ?_⟩
  by_cases hk : k < n * 86400 + h * 3600 + mm * 60
  · exact h6 k g1 hk
  · refine false_of fun hf => ?_
    obtain ⟨q, h'', m', q1, q2, q3, rfl, q4, q5, q6, q7⟩ := fire_inv (byc fun _ => by omega) hf
    rw [hn m' (byc fun _ => by omega) (byc fun _ => by omega)] at q6; cases q6
theorem inN_min (hI : InN x t n h mm) (hh : h < 24) (hn : ∀ j : Nat, mm ≤ j → hasB x.a.bits (j : Int) = false) : InN x t n (h + 1) 0 := by
  obtain ⟨h1, h2, h3, h4, h5, h6⟩ := hI
  refine ⟨byc fun _ => by omega, byc fun _ => by omega, byc fun _ => by omega, h4, byc fun _ => by omega, fun k g1 g2 => ?_⟩
  by_cases hk : k < n * 86400 + h * 3600 + mm * 60
  · exact h6 k g1 hk
  · refine false_of fun hf => ?_
    obtain ⟨q, h'', m', q1, q2, q3, rfl, q4, q5, q6, q7⟩ := fire_inv (byc fun _ => by omega) hf
    rw [hn m' (byc fun _ => by omega)] at q6; cases q6
end
end Go.Proofs.YtmoncokklkiikaaGreatDoor
namespace Go.Proofs.YtmoncokklkiikaaGreatDoor
open Rg Go
variable {H : Heap}
def badE (x : Ex) (t : Int) : Int := if mayX x = false then 2 else if t < 0 ∨ 13569465600 ≤ t then 50 else 0
theorem c_floor_bad {t : Int} (h : t < 0 ∨ 13569465600 ≤ t) : AOk Tryz.prog 84 [.sc (.int .i64 t)] H (.tup [.sc (.int .i64 0), .sc (.int .i64 50)]) H := by
  refine ACalls.into Tryz.func84 rfl Tryz.ntmps84 Tryz.results84 (by simp) ?_
  simp -implicitDefEqProofs
  refine ACall.eq (c_is_s t) ?_
  have e : (decide (0 ≤ t) && decide (t < 13569465600)) = false := by simp; omega
  simp -implicitDefEqProofs [e]
theorem c_floor {t : Nat} (h : t < 13569465600) : AOk Tryz.prog 84 [.sc (.int .i64 t)] H (.tup [.sc (.int .i64 ((t / 60 * 60 : Nat) : Int)), .sc (.int .i64 0)]) H := by
  obtain ⟨q, hq⟩ : ∃ q, t % 60 = q := ⟨_, rfl⟩
  obtain ⟨z, hz⟩ : ∃ z, t / 60 * 60 = z := ⟨_, rfl⟩
  rw [hz]
  refine ACalls.into Tryz.func84 rfl Tryz.ntmps84 Tryz.results84 (by simp) ?_
  simp -implicitDefEqProofs
  refine ACall.eq (c_is_s t) ?_
  have e : (t : Int) < 13569465600 := by omega
  have w1 : (t : Int).tmod 60 = (q : Int) := wmod (b := 60) hq
  have w2 : IntKind.i64.wrap ((t : Int) - (q : Int)) = (z : Int) := wsub (by omega) (by omega) (by omega)
  simp -implicitDefEqProofs [e, w1, w2]
theorem c_nmay (x : Ex) (hx : x.ok) (t : Int) : AOk Tryz.prog 103 [exAV x, .sc (.int .i64 t)] H (.sc (.int .i64 (badE x t))) H := by
  refine ACalls.into Tryz.func103 rfl Tryz.ntmps103 Tryz.results103 (by simp) ?_
  simp -implicitDefEqProofs
  refine AAlloc.intro fun b2 h2 => ?_
  have hW : ∀ o, HWk H (H.set b2 o) := fun o => HWk.new h2 (HWk.refl _)
  simp -implicitDefEqProofs
  refine ACall.eq (c_cronMay x hx) ?_
  unfold badE
  cases hm : mayX x with
  | false =>
    simp -implicitDefEqProofs
    exact hW _
  | true =>
    simp -implicitDefEqProofs
    by_cases h : t < 0 ∨ 13569465600 ≤ t
    · rw [if_pos h]
      refine ACall.eq (c_floor_bad h) ?_
      simp -implicitDefEqProofs
      exact hW _
    · rw [if_neg h]
      obtain ⟨u, rfl⟩ := Int.eq_ofNat_of_zero_le (a := t) (by omega)
      refine ACall.eq (c_floor (t := u) (by omega)) ?_
      simp -implicitDefEqProofs
      exact hW _
theorem c_nfits (x : Ex) (hx : x.ok) {n : Nat} (hn : n < 157054) : AOk Tryz.prog 136 [exAV x, .sc (.int .i64 n)] H (.sc (.bool (mayX x && dayB x n))) H := by
  refine ACalls.into Tryz.func136 rfl Tryz.ntmps136 Tryz.results136 (by simp) ?_
  simp -implicitDefEqProofs
  refine AAlloc.intro fun b2 h2 => ?_
  obtain ⟨t, ht⟩ : ∃ t, n * 86400 = t := ⟨_, rfl⟩
  have w1 : IntKind.i64.wrap ((n : Int) * 86400) = (t : Int) := wmul (b := 86400) ht (by omega)
  have hdn := day_n x hn
  rw [ht] at hdn
  simp -implicitDefEqProofs [w1]
  refine ACall.eq (c_split_s (t := t) (by omega)) ?_
  simp -implicitDefEqProofs
  refine AAlloc.intro fun b5 h5 => ?_
  have n52 : b5 ≠ b2 := by intro e; subst e; simp [Heap.set] at h5
  have n25 := n52.symm
  have e5 : H b5 = none := (HLe.set_fresh h2).none h5
  simp -implicitDefEqProofs [n25]
  refine ACall.eq (c_dayFits x hx (clk t)) ?_
  rw [hdn]
  simp -implicitDefEqProofs
  exact HWk.new e5 (HWk.new h2 (HWk.refl _))
def outAV (r : Option Nat) : AV := .tup [.sc (.int .i64 (optN r : Int)), .sc (.int .i64 (errN r : Int))]
end Go.Proofs.YtmoncokklkiikaaGreatDoor
namespace Go.Proofs.YtmoncokklkiikaaGreatDoor
open Rg Go Go.RowKit
variable {W0 w : World} {C : Com} {H : Heap}
def GlobT (H : Heap) : Prop := ∃ us, H 0 = some (.ro us) ∧ ∀ j, j < Lib.deBruijn64tab.length → us[j]? = some (.int .u8 (Lib.deBruijn64tab.getD j 0))
theorem GlobT.wk {H K : Heap} (h : GlobT H) (hk : HLe H K) : GlobT K := by
  obtain ⟨us, h1, h2⟩ := h
  exact ⟨us, hk _ _ h1, h2⟩
theorem GlobT.new {H : Heap} {b : Nat} {o : AObj} (h : GlobT H) (hb : H b = none) : GlobT (H.set b o) := h.wk (HLe.set_fresh hb)
theorem GlobT.tab (h : GlobT H) (hi : Inv W0 C H w) : TabAt 0 Lib.deBruijn64tab w := by
  obtain ⟨u, h1, g1⟩ := h
  exact fun j hj => hi.ro h1 (g1 j hj)
theorem c_ctz64T (hG : GlobT H) (x : Nat) (hx : x < 18446744073709551616) : AOk Tryz.prog 191 [.sc (.int .u64 x)] H (.sc (.int .i64 (Lib.ctz 64 x))) H :=
  AOk.kit (vs := [.int .u64 x]) (r := .int .i64 (Lib.ctz 64 x)) fun W0 C w hi => (Any7.bits_TrailingZeros64 Tryz.lays7x29 x hx w (fun _ => hG.tab hi)).mono fun e w' ⟨h1, h2⟩ => ⟨h1, h2 ▸ Below.refl _ _⟩
theorem c_firstT (hG : GlobT H) (f : Fld) (n : Int) (hf : f.bits < 18446744073709551616) : AOk Tryz.prog 152 [fAV f, .sc (.int .i64 n)] H (optAV (firstB f.bits n)) H := by
  rw [firstB_eq]
  have hmax : (if 0 < n then n else 0) = (n.toNat : Int) := by split <;> omega
  generalize n.toNat = m at *
  refine ACalls.into Tryz.func152 rfl Tryz.ntmps152 Tryz.results152 (by simp) ?_
  simp -implicitDefEqProofs [fAV]
  refine AAlloc.intro fun b hb => ?_
  by_cases h1 : 63 < m
  · have h1' : (63 : Int) < m := by omega
    simp -implicitDefEqProofs [hmax, h1, h1', optAV]
    exact HWk.new hb (HWk.refl _)
  · have h1' : ¬ (63 : Int) < m := by omega
    have hm : min m 64 = m := by omega
    have hsh := shr_lt m hf
    by_cases h2 : shr f.bits m = 0
    · simp -implicitDefEqProofs [hmax, h1, h1', hm, shr_nat, h2, optAV]
      exact HWk.new hb (HWk.refl _)
    · simp -implicitDefEqProofs [hmax, h1, h1', hm, shr_nat, h2]
      refine ACall.eq (c_ctz64T (hG.new hb) _ hsh) ?_
      have hc := ctz_le _ hsh
      have hw : IntKind.i64.wrap ((m : Int) + (Lib.ctz 64 (shr f.bits m) : Nat)) = ((m + Lib.ctz 64 (shr f.bits m) : Nat) : Int) := by rw [wrap_i64 (by omega) (by omega)]; push_cast; rfl
      simp -implicitDefEqProofs [hw, optAV]
      exact HWk.new hb (HWk.refl _)
def fromAV : Option Nat → AV
  | some n => .tup [.sc (.int .i64 (n : Int)), .sc (.bool true)]
  | none => .tup [.sc (.int .i64 0), .sc (.bool false)]
set_option maxHeartbeats 2000000 in
theorem c_from (hG : GlobT H) {x : Ex} (hx : x.ok) (hm : mayX x = true) {t T : Nat} (ht : t < 13569465600) (hT : t / 60 * 60 + 60 = T) {r : Option Nat} (hr : IsNext x t r) : AOk Tryz.prog 104 [exAV x, .sc (.int .i64 T)] H (fromAV r) H := by
  obtain ⟨n0, hn0⟩ : ∃ d, T / 86400 = d := ⟨_, rfl⟩
  obtain ⟨m0, hm0⟩ : ∃ d, T % 86400 = d := ⟨_, rfl⟩
  obtain ⟨m1, hm1⟩ : ∃ d, m0 / 60 = d := ⟨_, rfl⟩
  have hO := outN_init (x := x) ht
  rw [hT, hn0, hm0, hm1] at hO
  have hT2 : T < 13569465661 := by omega
  clear hT
  obtain ⟨hba, hbb⟩ := bits_ok hx hm
  have w1 : IntKind.i64.wrap ((T : Int) / 86400) = (n0 : Int) := wdiv (b := 86400) hn0 (by omega)
  have w2 : (T : Int).tmod 86400 = (m0 : Int) := wmod (b := 86400) hm0
  have w3 : IntKind.i64.wrap ((m0 : Int) / 60) = (m1 : Int) := wdiv (b := 60) hm1 (by omega)
  refine ACalls.into Tryz.func104 rfl Tryz.ntmps104 Tryz.results104 (by simp) ?_
  simp -implicitDefEqProofs
  refine AAlloc.intro fun b2 h2 => ?_
  simp -implicitDefEqProofs
  generalize hK : Heap.set _ b2 _ = K0
  have k2 : K0 b2 = some (.cells (exC x) 42) := by rw [← hK]; simp [Heap.set]
  have kG : GlobT K0 := by rw [← hK]; exact hG.new h2
  have kW : HWk H K0 := by rw [← hK]; exact HWk.new h2 (HWk.refl _)
  clear hK
  simp -implicitDefEqProofs [w1, w2, w3]
  refine AGo.rounds (fun m ρ K => ∃ (n mm : Nat), m = 157054 - n ∧ OutN x t n mm ∧ ρ 2 = .sc (.pointer (some ⟨b2, 0, none⟩)) ∧ ρ 6 = .sc (.int .i64 n) ∧ ρ 7 = .sc (.int .i64 mm) ∧ K b2 = some (.cells (exC x) 42) ∧ GlobT K ∧ HWk H K) ?_ (m := 157054 - n0) (HLe.refl _)
    ⟨n0, m1, rfl, hO, by simp, by simp, by simp, k2, kG, kW⟩
  clear kG kW k2 hO
  rintro m ρ K ih ⟨n, mm, rfl, hO, r2, r6, r7, k2, kG, kW⟩
  by_cases hn : n < 157054
  · have hnI : (n : Int) < 157054 := by omega
    have hmm : mm ≤ 1439 := hO.1
    have hoM := fun h => outN_month hO hn h
    have hcm := civ_month hn
    simp -implicitDefEqProofs [r6, hn, hnI]
    refine ACall.eq (c_of hn) ?_
    generalize civ n = cv at *
    obtain ⟨Y, M, Dd⟩ := cv
    simp only at hcm hoM
    simp -implicitDefEqProofs
    refine AAlloc.intro fun b9 h9 => ?_
    have n29 : b2 ≠ b9 := by intro e; subst e; rw [k2] at h9; cases h9
    have n92 := n29.symm
    simp -implicitDefEqProofs [r2, n29, n92, k2]
    generalize hK : Heap.set K b9 _ = K1
    have k21 : K1 b2 = some (.cells (exC x) 42) := by rw [← hK]; simp [Heap.set, n29, k2]
    have k9 : K1 b9 = some (.cells [.sc (.int .i64 Y), .sc (.int .i64 M), .sc (.int .i64 Dd)] 46) := by rw [← hK]; simp [Heap.set]
    have kG1 : GlobT K1 := by rw [← hK]; exact kG.new h9
    have kW1 : HWk H K1 := by rw [← hK]; exact HWk.new (kW.none h9) kW
    clear hK
    obtain ⟨nn, hnn⟩ : ∃ q, n + 1 = q := ⟨_, rfl⟩
    have w7 : IntKind.i64.wrap ((n : Int) + 1) = (nn : Int) := wadd (b := 1) hnn (by omega)
    refine ACall.eq (c_has x.d M hx.d) ?_
    cases hM : hasB x.d.bits M with
    | false =>
      have hlong : longI (Y : Int) (M : Int) = (mLong Y M : Int) := long_nat Y (by omega) (by omega)
      have hO' := hoM hM
      generalize mLong Y M = L at *
      obtain ⟨q1, hq1⟩ : ∃ q, L - Dd = q := ⟨_, rfl⟩
      obtain ⟨q2, hq2⟩ : ∃ q, n + q1 = q := ⟨_, rfl⟩
      obtain ⟨q3, hq3⟩ : ∃ q, q2 + 1 = q := ⟨_, rfl⟩
      have w4 : IntKind.i64.wrap ((L : Int) - (Dd : Int)) = (q1 : Int) := wsub hq1 (by omega) (by omega)
      have w5 : IntKind.i64.wrap ((n : Int) + (q1 : Int)) = (q2 : Int) := wadd hq2 (by omega)
      have w6 : IntKind.i64.wrap ((q2 : Int) + 1) = (q3 : Int) := wadd (b := 1) hq3 (by omega)
      rw [hq1, hq2, hq3] at hO'
      simp -implicitDefEqProofs
      refine go_draw 11 f_mixed (by decide +kernel) ?_
      simp -implicitDefEqProofs [r6, k9]
      refine AQS.eq (c_long (Y : Int) (M : Int)) ?_
      rw [hlong]
      simp -implicitDefEqProofs [r6, k9, w4, w5, w6]
      exact AGo.again ih (m' := 157054 - q3) (by omega) (HLe.refl _) ⟨q3, 0, rfl, hO', by simp [r2], by simp, by simp, k21, kG1, kW1⟩
    | true =>
      simp -implicitDefEqProofs [r2, r6, k21]
      refine ACall.eq (c_nfits x hx hn) ?_
      rw [hm]
      cases hdb : dayB x n with
      | false =>
        have hO' := outN_day hO hn hdb
        rw [hnn] at hO'
        simp -implicitDefEqProofs [r6, w7]
        exact AGo.again ih (m' := 157054 - nn) (by omega) (HLe.refl _) ⟨nn, 0, rfl, hO', by simp [r2], by simp, by simp, k21, kG1, kW1⟩
      | true =>
        obtain ⟨hh, hhh⟩ : ∃ q, mm / 60 = q := ⟨_, rfl⟩
        have w8 : IntKind.i64.wrap ((mm : Int) / 60) = (hh : Int) := wdiv (b := 60) hhh (by omega)
        have hI := inN_init hO hn hdb
        rw [hhh] at hI
        simp -implicitDefEqProofs [r7, w8]
        refine AGo.rounds (fun m ρ K => ∃ (h m2 : Nat), m = 25 - h ∧ InN x t n h (m2 % 60) ∧ m2 ≤ 1439 ∧ ρ 2 = .sc (.pointer (some ⟨b2, 0, none⟩)) ∧ ρ 6 = .sc (.int .i64 n) ∧ ρ 7 = .sc (.int .i64 m2) ∧ ρ 10 = .sc (.int .i64 h) ∧ K = K1) ?_ (m := 25 - hh) (HLe.refl _)
          ⟨hh, mm, rfl, hI, hmm, by simp [r2], by simp [r6], by simp [r7], by simp, rfl⟩
        clear hI hmm hO r2 r6 r7 hoM
        rintro m' ρ' K ih2 ⟨h, m2, rfl, hI, hm2, r2, r6, r7, r10, rfl⟩
        simp -implicitDefEqProofs [r10, r2, k21]
        refine ACall.eq (c_firstT kG1 x.b h hx.b) ?_
        cases htb : firstB x.b.bits (h : Int) with
        | none =>
          have hno := firstB_none hx.b htb
          have hO' := inN_none hI (fun j hj => by
            by_cases j64 : j ≤ 63
            · rw [has_bit j64]; exact hno j (by simpa using hj)
            · unfold hasB; rw [decide_eq_false (by omega : ¬ (j : Int) ≤ 63)]; simp)
          rw [hnn] at hO'
          simp -implicitDefEqProofs [optAV, r6, w7]
          exact AGo.again ih (m' := 157054 - nn) (by omega) (HLe.refl _) ⟨nn, 0, rfl, hO', by simp [r2], by simp, by simp, k21, kG1, kW1⟩
        | some h' =>
          obtain ⟨g1, g0, g2, g3⟩ := firstB_some hx.b htb
          simp only [Int.toNat_natCast] at g1 g3
          have g4 := hbb h' g2
          have g2' : hasB x.b.bits (h' : Int) = true := by rw [has_bit g0]; exact g2
          simp -implicitDefEqProofs [optAV, r10]
          refine ABr.join (fun ρ K' => K' = K ∧ ∃ m3 : Nat, m3 ≤ 1439 ∧ InN x t n h' (m3 % 60) ∧ ρ 2 = .sc (.pointer (some ⟨b2, 0, none⟩)) ∧ ρ 6 = .sc (.int .i64 n) ∧ ρ 7 = .sc (.int .i64 m3) ∧ ρ 10 = .sc (.int .i64 h')) (fun k' hk' => ?_) ?_
          · by_cases hlt : h < h'
            · have hlt' : (h : Int) < (h' : Int) := by omega
              simp -implicitDefEqProofs [hlt, hlt']
              exact hk' _ _ ⟨rfl, 0, by omega, inN_up hI hlt (by omega) (fun j j1 j2 => by rw [has_bit (by omega)]; exact g3 j j1 j2), by simp [r2], by simp [r6], by simp, by simp⟩
            · obtain rfl : h' = h := by omega
              simp -implicitDefEqProofs
              exact hk' _ _ ⟨rfl, m2, hm2, hI, by simp [r2], by simp [r6], by simp [r7], by simp [r10]⟩
          · clear r2 r6 r7 r10
            rintro ρ2 K' ⟨rfl, m3, hm3, hI3, r2, r6, r7, r10⟩
            obtain ⟨m4, hm4⟩ : ∃ q, m3 % 60 = q := ⟨_, rfl⟩
            have w9 : (m3 : Int).tmod 60 = (m4 : Int) := wmod (b := 60) hm4
            rw [hm4] at hI3
            have hm59 : m4 ≤ 59 := hI3.1
            simp -implicitDefEqProofs [r2, r7, k21, w9]
            refine ACall.eq (c_firstT kG1 x.a m4 hx.a) ?_
            cases hta : firstB x.a.bits (m4 : Int) with
            | none =>
              have hno := firstB_none hx.a hta
              obtain ⟨h2, hh2⟩ : ∃ q, h' + 1 = q := ⟨_, rfl⟩
              have w10 : IntKind.i64.wrap ((h' : Int) + 1) = (h2 : Int) := wadd (b := 1) hh2 (by omega)
              have hI' := inN_min hI3 (by omega) (fun j hj => by
                by_cases j64 : j ≤ 63
                · rw [has_bit j64]; exact hno j (by simpa using hj)
                · unfold hasB; rw [decide_eq_false (by omega : ¬ (j : Int) ≤ 63)]; simp)
              rw [hh2] at hI'
              simp -implicitDefEqProofs [optAV, r10, w10]
              exact AGo.again ih2 (m' := 25 - h2) (by omega) (HLe.refl _) ⟨h2, 0, rfl, hI', by omega, by simp [r2], by simp [r6], by simp, by simp, rfl⟩
            | some m5 =>
              obtain ⟨f1, f0, f2, f3⟩ := firstB_some hx.a hta
              simp only [Int.toNat_natCast] at f1 f3
              have f4 := hba m5 f2
              have f2' : hasB x.a.bits (m5 : Int) = true := by rw [has_bit f0]; exact f2
              obtain rfl := next_one hr (inN_found hm hI3 (by omega) g2' f2' f1 (by omega) (fun j j1 j2 => by rw [has_bit (by omega)]; exact f3 j j1 j2))
              obtain ⟨P1, hP1⟩ : ∃ q, n * 86400 = q := ⟨_, rfl⟩
              obtain ⟨P2, hP2⟩ : ∃ q, h' * 3600 = q := ⟨_, rfl⟩
              obtain ⟨P3, hP3⟩ : ∃ q, P1 + P2 = q := ⟨_, rfl⟩
              obtain ⟨P4, hP4⟩ : ∃ q, m5 * 60 = q := ⟨_, rfl⟩
              obtain ⟨P5, hP5⟩ : ∃ q, P3 + P4 = q := ⟨_, rfl⟩
              have v1 : IntKind.i64.wrap ((n : Int) * 86400) = (P1 : Int) := wmul (b := 86400) hP1 (by omega)
              have v2 : IntKind.i64.wrap ((h' : Int) * 3600) = (P2 : Int) := wmul (b := 3600) hP2 (by omega)
              have v3 : IntKind.i64.wrap ((P1 : Int) + (P2 : Int)) = (P3 : Int) := wadd hP3 (by omega)
              have v4 : IntKind.i64.wrap ((m5 : Int) * 60) = (P4 : Int) := wmul (b := 60) hP4 (by omega)
              have v5 : IntKind.i64.wrap ((P3 : Int) + (P4 : Int)) = (P5 : Int) := wadd hP5 (by omega)
              rw [hP1, hP2, hP3, hP4, hP5]
              simp -implicitDefEqProofs [optAV, r6, r10, v1, v2, v3, v4, v5, fromAV]
              exact kW1
  · obtain rfl : n = 157054 := by have := hO.2.1; omega
    obtain rfl := next_one hr (outN_end hO)
    simp -implicitDefEqProofs [r6, fromAV]
    exact kW
theorem badE_ok {x : Ex} (hm : mayX x = true) {t : Nat} (ht : t < 13569465600) : badE x (t : Int) = 0 := by
  unfold badE
  rw [if_neg (by simp [hm]), if_neg (by omega)]
theorem c_after (hG : GlobT H) {x : Ex} (hx : x.ok) (hm : mayX x = true) {t : Nat} (ht : t < 13569465600) {r : Option Nat} (hr : IsNext x t r) : AOk Tryz.prog 32 [exAV x, .sc (.int .i64 t)] H (outAV r) H := by
  obtain ⟨q, hq⟩ : ∃ q, t % 60 = q := ⟨_, rfl⟩
  obtain ⟨z, hz⟩ : ∃ q, t / 60 * 60 = q := ⟨_, rfl⟩
  obtain ⟨T, hT⟩ : ∃ q, z + 60 = q := ⟨_, rfl⟩
  have w1 : (t : Int).tmod 60 = (q : Int) := wmod (b := 60) hq
  have w2 : IntKind.i64.wrap ((t : Int) - (q : Int)) = (z : Int) := wsub (by omega) (by omega) (by omega)
  have w3 : IntKind.i64.wrap ((z : Int) + 60) = (T : Int) := wadd (b := 60) hT (by omega)
  have hf := fun (K : Heap) (kG : GlobT K) => c_from kG hx hm ht (T := T) (by omega) hr
  refine ACalls.into Tryz.func32 rfl Tryz.ntmps32 Tryz.results32 (by simp) ?_
  simp -implicitDefEqProofs
  refine AAlloc.intro fun b2 h2 => ?_
  have kG := fun o => hG.new (o := o) h2
  simp -implicitDefEqProofs
  refine ACall.eq (c_nmay x hx t) ?_
  rw [badE_ok hm ht]
  simp -implicitDefEqProofs [w1, w2, w3]
  refine ACall.eq (hf _ (kG _)) ?_
  cases r with
  | none =>
    simp -implicitDefEqProofs [fromAV, outAV, optN, errN]
    exact HWk.new h2 (HWk.refl _)
  | some n =>
    simp -implicitDefEqProofs [fromAV, outAV, optN, errN]
    exact HWk.new h2 (HWk.refl _)
end Go.Proofs.YtmoncokklkiikaaGreatDoor
namespace Go.Proofs.YtmoncokklkiikaaGreatDoor
open Rg Go
theorem i64_lies (z : Int) : (i64 z).lies = true := rfl
theorem i64_cells (z : Int) : (i64 z).cells = [i64 z] := rfl
variable {H : Heap}
def Turned (L M : List Int) (i : Nat) : Prop :=
  M.length = L.length ∧ ∀ k, k < L.length → M[k]? = if k < i ∨ L.length ≤ k + i then L[L.length - 1 - k]? else L[k]?
theorem Turned.zero (L : List Int) : Turned L L 0 := ⟨rfl, fun k hk => by rw [if_neg (by omega)]⟩
theorem Turned.step {L M : List Int} {i j : Nat} (h : Turned L M i) (hij : i < j) (hj : i + j + 1 = L.length) {x y : Int} (hx : M[i]? = some x) (hy : M[j]? = some y) : Turned L ((M.set i y).set j x) (i + 1) := by
  refine ⟨by simp [h.1], fun k hk => ?_⟩
  have hM := h.1
  have hi := h.2 i (by omega)
  have hj' := h.2 j (by omega)
  rw [if_neg (by omega), hx] at hi
  rw [if_neg (by omega), hy] at hj'
  by_cases k1 : k = j
  · subst k1
    rw [List.getElem?_set_self (by simp; omega), if_pos (by omega), show L.length - 1 - k = i by omega, hi]
  · rw [List.getElem?_set_ne (by omega)]
    by_cases k2 : k = i
    · subst k2
      rw [List.getElem?_set_self (by omega), if_pos (by omega), show L.length - 1 - k = j by omega, hj']
    · rw [List.getElem?_set_ne (by omega), h.2 k hk]
      by_cases k3 : k < i ∨ L.length ≤ k + i
      · rw [if_pos k3, if_pos (by omega)]
      · rw [if_neg k3, if_neg (by omega)]
theorem Turned.fin {L M : List Int} {i : Nat} (h : Turned L M i) (hi : L.length ≤ 2 * i + 1) : M = L.reverse := by
  apply List.ext_getElem?
  intro k
  by_cases hk : k < L.length
  · rw [h.2 k hk, List.getElem?_reverse hk]
    by_cases h2 : k < i ∨ L.length ≤ k + i
    · rw [if_pos h2]
    · rw [if_neg h2, show L.length - 1 - k = k by omega]
  · rw [List.getElem?_eq_none (by rw [h.1]; omega), List.getElem?_eq_none (by simp; omega)]
end Go.Proofs.YtmoncokklkiikaaGreatDoor
namespace Go.Proofs.YtmoncokklkiikaaGreatDoor
open Rg Go
variable {H : Heap}
end Go.Proofs.YtmoncokklkiikaaGreatDoor
namespace Go.Proofs.YtmoncokklkiikaaGreatDoor
open Rg Go
variable {H : Heap}
theorem getAt {α : Type} {L : List α} {i : Nat} (h : i < L.length) : ∃ e, L[i] = e ∧ L[i]? = some e := ⟨_, rfl, List.getElem?_eq_getElem h⟩
end Go.Proofs.YtmoncokklkiikaaGreatDoor
