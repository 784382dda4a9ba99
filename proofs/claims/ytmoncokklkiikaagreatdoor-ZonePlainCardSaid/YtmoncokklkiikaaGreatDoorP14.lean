/- Dates, in plain words: the days of the months one behind the other. Dates and clocks: what civil and stamp give. civil.Days, civil.Weekday. civil.Of. Moments and clocks: what stamp gives. The document's dates and clocks. The document's clock of a moment. -/
import Derived.Test.YtmoncokklkiikaaGreatDoorP13
set_option linter.unusedSimpArgs false
set_option linter.unusedVariables false
set_option linter.unnecessarySimpa false
namespace Go.Proofs.YtmoncokklkiikaaGreatDoor
open Rg Go
def leapN (y : Nat) : Bool := (y % 4 == 0 && !(y % 100 == 0)) || y % 400 == 0
def mLong (y m : Nat) : Nat := if m = 2 ∧ leapN y = true then 29 else [0, 31, 28, 31, 30, 31, 30, 31, 31, 30, 31, 30, 31].getD m 0
def gD (x : Nat) : Nat := x - x / 1460 + x / 36524 - x / 146096
def eraN (n : Nat) : Nat := (n + 719468) / 146097
def yoeN (n : Nat) : Nat := gD ((n + 719468) % 146097) / 365
def doyN (n : Nat) : Nat := (n + 719468) % 146097 - (365 * yoeN n + yoeN n / 4 - yoeN n / 100)
def mpN (n : Nat) : Nat := (5 * doyN n + 2) / 153
def civ (n : Nat) : Nat × Nat × Nat :=
  (if 12 < mpN n + 3 then eraN n * 400 + yoeN n + 1 else eraN n * 400 + yoeN n, if 12 < mpN n + 3 then mpN n + 3 - 12 else mpN n + 3, doyN n - (153 * mpN n + 2) / 5 + 1)
def daysN (y m d : Nat) : Nat :=
  if m ≤ 2 then 365 * (y - 1) + (y - 1) / 4 - (y - 1) / 100 + (y - 1) / 400 + (153 * (m + 12 - 3) + 2) / 5 + d - 719469
  else 365 * y + y / 4 - y / 100 + y / 400 + (153 * (m - 3) + 2) / 5 + d - 719469
def mFirst (i : Nat) : Nat := daysN (1970 + i / 12) (i % 12 + 1) 1
def mLen (i : Nat) : Nat := mLong (1970 + i / 12) (i % 12 + 1)
def okM (i : Nat) : Bool :=
  decide (mFirst (i + 1) = mFirst i + mLen i) && decide (1 ≤ mLen i) && decide (civ (mFirst i) = (1970 + i / 12, i % 12 + 1, 1)) &&
  decide (eraN (mFirst i + mLen i - 1) = eraN (mFirst i)) && decide (yoeN (mFirst i + mLen i - 1) = yoeN (mFirst i)) && decide (mpN (mFirst i + mLen i - 1) = mpN (mFirst i)) &&
  decide (365 * yoeN (mFirst i) + yoeN (mFirst i) / 4 - yoeN (mFirst i) / 100 ≤ (mFirst i + 719468) % 146097) && decide ((153 * mpN (mFirst i) + 2) / 5 ≤ doyN (mFirst i))
def okAll : Nat → Bool
  | 0 => true
  | i + 1 => okM i && okAll i
set_option maxRecDepth 100000 in
theorem okAll_true : okAll 5160 = true := by decide +kernel
theorem okAll_at : ∀ {k i : Nat}, okAll k = true → i < k → okM i = true
  | 0, i, _, h => by omega
  | k + 1, i, h, hi => by
    simp only [okAll, Bool.and_eq_true] at h
    by_cases he : i = k
    · subst he; exact h.1
    · exact okAll_at h.2 (by omega)
theorem gD_step {x : Nat} (h : x + 1 < 146097) : gD x ≤ gD (x + 1) := by unfold gD; omega
theorem gD_mono {a : Nat} : ∀ (k : Nat), a + k < 146097 → gD a ≤ gD (a + k)
  | 0, _ => Nat.le_refl _
  | k + 1, h => Nat.le_trans (gD_mono k (by omega)) (gD_step (x := a + k) (by omega))
theorem mFirst_succ {i : Nat} (hi : i < 5160) : mFirst (i + 1) = mFirst i + mLen i := by
  have h := okAll_at okAll_true hi
  simp only [okM, Bool.and_eq_true, decide_eq_true_eq] at h
  exact h.1.1.1.1.1.1.1
theorem civ_raw {i d : Nat} (hi : i < 5160) (hd : d < mLen i) : eraN (mFirst i + d) = eraN (mFirst i) ∧ (mFirst i + d + 719468) % 146097 = (mFirst i + 719468) % 146097 + d ∧ yoeN (mFirst i + d) = yoeN (mFirst i) ∧
    doyN (mFirst i + d) = doyN (mFirst i) + d ∧ mpN (mFirst i + d) = mpN (mFirst i) ∧ civ (mFirst i) = (1970 + i / 12, i % 12 + 1, 1) ∧ 365 * yoeN (mFirst i) + yoeN (mFirst i) / 4 - yoeN (mFirst i) / 100 ≤ (mFirst i + 719468) % 146097 ∧ (153 * mpN (mFirst i) + 2) / 5 ≤ doyN (mFirst i) := by
  have h := okAll_at okAll_true hi
  simp only [okM, Bool.and_eq_true, decide_eq_true_eq] at h
  obtain ⟨⟨⟨⟨⟨⟨⟨_, h1⟩, h2⟩, h3⟩, h4⟩, h5⟩, h6⟩, h7⟩ := h
  generalize mFirst i = s at *
  generalize mLen i = l at *
  have hera : eraN (s + d) = eraN s := by unfold eraN at *; omega
  have hday : (s + d + 719468) % 146097 = (s + 719468) % 146097 + d := by unfold eraN at *; omega
  have hdayl : (s + l - 1 + 719468) % 146097 = (s + 719468) % 146097 + (l - 1) := by unfold eraN at *; omega
  have hlt : (s + l - 1 + 719468) % 146097 < 146097 := Nat.mod_lt _ (by decide)
  have hyoe : yoeN (s + d) = yoeN s := by
    have m1 := gD_mono (a := (s + 719468) % 146097) d (by omega)
    have m2 := gD_mono (a := (s + 719468) % 146097 + d) (l - 1 - d) (by omega)
    rw [show (s + 719468) % 146097 + d + (l - 1 - d) = (s + 719468) % 146097 + (l - 1) by omega] at m2
    unfold yoeN at *
    rw [hday]
    rw [hdayl] at h4
    have q1 := Nat.div_le_div_right (c := 365) m1
    have q2 := Nat.div_le_div_right (c := 365) m2
    omega
  have hdoy : doyN (s + d) = doyN s + d := by
    unfold doyN
    rw [hyoe, hday]
    omega
  have hdoyl : doyN (s + l - 1) = doyN s + (l - 1) := by
    unfold doyN
    rw [h4, hdayl]
    omega
  have hmp : mpN (s + d) = mpN s := by
    unfold mpN at *
    rw [hdoyl] at h5
    rw [hdoy]
    omega
  exact ⟨hera, hday, hyoe, hdoy, hmp, h2, h6, h7⟩
theorem civ_at {i d : Nat} (hi : i < 5160) (hd : d < mLen i) : civ (mFirst i + d) = (1970 + i / 12, i % 12 + 1, d + 1) := by
  obtain ⟨hera, _, hyoe, hdoy, hmp, h2, _, _⟩ := civ_raw hi hd
  unfold civ at *
  rw [hera, hyoe, hmp, hdoy]
  simp only [Prod.mk.injEq] at h2 ⊢
  refine ⟨h2.1, h2.2.1, ?_⟩
  have := h2.2.2
  omega
theorem mFirst_zero : mFirst 0 = 0 := by decide
theorem mFirst_end : mFirst 5160 = 157054 := by decide
theorem day_in : ∀ {k n : Nat}, k ≤ 5160 → n < mFirst k → ∃ i d, i < k ∧ d < mLen i ∧ n = mFirst i + d
  | 0, n, _, h => by rw [mFirst_zero] at h; omega
  | k + 1, n, hk, h => by
    by_cases hn : n < mFirst k
    · obtain ⟨i, d, h1, h2, h3⟩ := day_in (by omega) hn
      exact ⟨i, d, by omega, h2, h3⟩
    · rw [mFirst_succ (by omega)] at h
      exact ⟨k, n - mFirst k, by omega, by omega, by omega⟩
theorem day_of {n : Nat} (h : n < 157054) : ∃ i d, i < 5160 ∧ d < mLen i ∧ n = mFirst i + d := day_in (Nat.le_refl _) (by rw [mFirst_end]; exact h)
theorem civ_ok {n : Nat} (h : n < 157054) : 365 * yoeN n + yoeN n / 4 - yoeN n / 100 ≤ (n + 719468) % 146097 ∧ (153 * mpN n + 2) / 5 ≤ doyN n := by
  obtain ⟨i, d, hi, hd, rfl⟩ := day_of h
  obtain ⟨_, hday, hyoe, hdoy, hmp, _, h6, h7⟩ := civ_raw hi hd
  rw [hday, hyoe, hdoy, hmp]
  omega
theorem mFirst_mono : ∀ {i j : Nat}, i ≤ j → j ≤ 5160 → mFirst i ≤ mFirst j
  | i, 0, h, _ => by obtain rfl : i = 0 := by omega
                     exact Nat.le_refl _
  | i, j + 1, h, hj => by
    by_cases he : i = j + 1
    · subst he; exact Nat.le_refl _
    · rw [mFirst_succ (by omega)]
      exact Nat.le_trans (mFirst_mono (i := i) (j := j) (by omega) (by omega)) (by omega)
theorem mLen_le (i : Nat) : mLen i ≤ 31 := by
  unfold mLen mLong
  split
  · omega
  · have h : ∀ m, m < 13 → ([0, 31, 28, 31, 30, 31, 30, 31, 31, 30, 31, 30, 31] : List Nat).getD m 0 ≤ 31 := by decide
    exact h _ (by omega)
theorem daysN_lin (y m d : Nat) (hy : 1970 ≤ y) (hm : 1 ≤ m) : daysN y m (d + 1) = daysN y m 1 + d := by
  unfold daysN
  split
  · have a1 : (y - 1) / 100 + 473 ≤ (y - 1) / 4 := by omega
    have a2 : 4 ≤ (y - 1) / 400 := by omega
    have a3 : 306 ≤ (153 * (m + 12 - 3) + 2) / 5 := by omega
    omega
  · have a1 : y / 100 + 473 ≤ y / 4 := by omega
    omega
end Go.Proofs.YtmoncokklkiikaaGreatDoor
namespace Go.Proofs.YtmoncokklkiikaaGreatDoor
open Rg Go
variable {H : Heap}
def i64 (n : Int) : AV := .sc (.int .i64 n)
structure Clk where
  y : Int
  m : Int
  d : Int
  h : Int
  mi : Int
  s : Int
  w : Int
deriving DecidableEq
abbrev dAV (y m d : Int) : AV := .agg [.sc (.int .i64 y), .sc (.int .i64 m), .sc (.int .i64 d)]
abbrev cAV (c : Clk) : AV := .agg [.sc (.int .i64 c.y), .sc (.int .i64 c.m), .sc (.int .i64 c.d), .sc (.int .i64 c.h), .sc (.int .i64 c.mi), .sc (.int .i64 c.s), .sc (.int .i64 c.w)]
def leapI (y : Int) : Bool := (decide (y.tmod 4 = 0) && !decide (y.tmod 100 = 0)) || decide (y.tmod 400 = 0)
def longI (y m : Int) : Int := if m < 1 ∨ 12 < m then 0 else if m = 2 ∧ leapI y = true then 29 else [0, 31, 28, 31, 30, 31, 30, 31, 31, 30, 31, 30, 31].getD m.toNat 0
def mayD (y m d : Int) : Bool := decide (1970 ≤ y) && decide (y ≤ 2399) && decide (1 ≤ d) && decide (d ≤ longI y m)
theorem leap_nat (y : Nat) : leapI (y : Int) = leapN y := by
  have e : ∀ n : Nat, ((y : Int).tmod (n : Int) = 0) = (y % n = 0) := fun n => by
    apply propext
    have : (y : Int).tmod (n : Int) = ((y % n : Nat) : Int) := rfl
    rw [this]; omega
  unfold leapI leapN
  have e4 := e 4
  have e100 := e 100
  have e400 := e 400
  simp only [show ((4 : Nat) : Int) = 4 from rfl, show ((100 : Nat) : Int) = 100 from rfl, show ((400 : Nat) : Int) = 400 from rfl] at e4 e100 e400
  simp only [e4, e100, e400]
  rfl
theorem long_nat {m : Nat} (y : Nat) (h1 : 1 ≤ m) (h2 : m ≤ 12) : longI (y : Int) (m : Int) = (mLong y m : Int) := by
  unfold longI mLong
  rw [if_neg (by omega), leap_nat]
  by_cases h : m = 2 ∧ leapN y = true
  · rw [if_pos ⟨by omega, h.2⟩, if_pos h]; rfl
  · rw [if_neg (fun e => h ⟨by omega, e.2⟩), if_neg h]
    have hh : ∀ m : Nat, m < 13 → (([0, 31, 28, 31, 30, 31, 30, 31, 31, 30, 31, 30, 31] : List Int).getD ((m : Int).toNat) 0) = ((([0, 31, 28, 31, 30, 31, 30, 31, 31, 30, 31, 30, 31] : List Nat).getD m 0 : Nat) : Int) := by decide
    exact hh m (by omega)
theorem mayD_out {y m d : Int} (h : m < 1 ∨ 12 < m) : mayD y m d = false := by
  unfold mayD longI
  rw [if_pos h]
  simp
  omega
theorem mayD_in {y m d : Int} (h : mayD y m d = true) : ∃ i dd : Nat, i < 5160 ∧ dd < mLen i ∧ y = ((1970 + i / 12 : Nat) : Int) ∧ m = ((i % 12 + 1 : Nat) : Int) ∧ d = ((dd + 1 : Nat) : Int) := by
  have hm : 1 ≤ m ∧ m ≤ 12 := by
    by_cases hm : m < 1 ∨ 12 < m
    · rw [mayD_out hm] at h; cases h
    · omega
  simp only [mayD, Bool.and_eq_true, decide_eq_true_eq] at h
  obtain ⟨⟨⟨h1, h2⟩, h3⟩, h4⟩ := h
  obtain ⟨Y, rfl⟩ := Int.eq_ofNat_of_zero_le (a := y) (by omega)
  obtain ⟨M, rfl⟩ := Int.eq_ofNat_of_zero_le (a := m) (by omega)
  obtain ⟨D, rfl⟩ := Int.eq_ofNat_of_zero_le (a := d) (by omega)
  rw [long_nat Y (by omega) (by omega)] at h4
  have e1 : 1970 + ((Y - 1970) * 12 + (M - 1)) / 12 = Y := by omega
  have e2 : ((Y - 1970) * 12 + (M - 1)) % 12 + 1 = M := by omega
  refine ⟨(Y - 1970) * 12 + (M - 1), D - 1, by omega, ?_, by rw [e1], by rw [e2], by omega⟩
  unfold mLen
  rw [e1, e2]
  omega
theorem mayD_of {i dd : Nat} (hi : i < 5160) (hd : dd < mLen i) : mayD ((1970 + i / 12 : Nat) : Int) ((i % 12 + 1 : Nat) : Int) ((dd + 1 : Nat) : Int) = true := by
  unfold mLen at hd
  have h := long_nat (1970 + i / 12) (m := i % 12 + 1) (by omega) (by omega)
  simp only [mayD, Bool.and_eq_true, decide_eq_true_eq]
  rw [h]
  refine ⟨⟨⟨by omega, by omega⟩, by omega⟩, by omega⟩
theorem days_of (i dd : Nat) : daysN (1970 + i / 12) (i % 12 + 1) (dd + 1) = mFirst i + dd := daysN_lin _ _ _ (by omega) (by omega)
theorem wadd {a b c : Nat} (h : a + b = c) (hc : c ≤ 9223372036854775807) : IntKind.i64.wrap ((a : Int) + (b : Int)) = (c : Int) := by rw [wrap_i64 (by omega) (by omega)]; omega
theorem wsub {a b c : Nat} (h : a - b = c) (hb : b ≤ a) (ha : a ≤ 9223372036854775807) : IntKind.i64.wrap ((a : Int) - (b : Int)) = (c : Int) := by rw [wrap_i64 (by omega) (by omega)]; omega
theorem wmul {a b c : Nat} (h : a * b = c) (hc : c ≤ 9223372036854775807) : IntKind.i64.wrap ((a : Int) * (b : Int)) = (c : Int) := by
  have e : (a : Int) * (b : Int) = (c : Int) := by rw [← h]; push_cast; rfl
  rw [e]; exact wrap_i64 (by omega) (by omega)
theorem wdiv {a b c : Nat} (h : a / b = c) (ha : a ≤ 9223372036854775807) : IntKind.i64.wrap ((a : Int) / (b : Int)) = (c : Int) := by
  have e : (a : Int) / (b : Int) = (c : Int) := by rw [← h]; push_cast; rfl
  have hc : c ≤ a := by rw [← h]; exact Nat.div_le_self _ _
  rw [e]; exact wrap_i64 (by omega) (by omega)
theorem wmod {a b c : Nat} (h : a % b = c) : (a : Int).tmod (b : Int) = (c : Int) := by rw [← h]; rfl
theorem c_leapBy {b : Nat} {y : Int} (hb : H b = some (.cells [.sc (.int .i64 y)] 3)) {n : Int} (hn : n ≠ 0) : AOk Tryz.prog 222 [.sc (.int .i64 n), .sc (.pointer (some ⟨b, 0, none⟩))] H (.sc (.bool (decide (y.tmod n = 0)))) H := by
  refine ACalls.into Tryz.func222 rfl Tryz.ntmps222 Tryz.results222 (by simp) ?_
  simp -implicitDefEqProofs [hb, hn]
theorem c_leap (y : Int) : AOk Tryz.prog 190 [.sc (.int .i64 y)] H (.sc (.bool (leapI y))) H := by
  refine ACalls.into Tryz.func190 rfl Tryz.ntmps190 Tryz.results190 (by simp) ?_
  simp -implicitDefEqProofs
  refine AAlloc.intro fun b hb => ?_
  have hW : ∀ o, HWk H (H.set b o) := fun o => HWk.new hb (HWk.refl _)
  have k : (H.set b (.cells [.sc (.int .i64 y)] 3)) b = some (.cells [.sc (.int .i64 y)] 3) := by simp [Heap.set]
  unfold leapI
  simp -implicitDefEqProofs
  refine ACall.eq (c_leapBy k (by decide)) ?_
  by_cases h4 : y.tmod 4 = 0
  · simp -implicitDefEqProofs [h4]
    refine ACall.eq (c_leapBy k (by decide)) ?_
    by_cases h100 : y.tmod 100 = 0
    · simp -implicitDefEqProofs [h100]
      refine ACall.eq (c_leapBy k (by decide)) ?_
      simp -implicitDefEqProofs
      exact hW _
    · simp -implicitDefEqProofs [h100]
      exact hW _
  · simp -implicitDefEqProofs [h4]
    refine ACall.eq (c_leapBy k (by decide)) ?_
    simp -implicitDefEqProofs
    exact hW _
theorem c_long (y m : Int) : AOk Tryz.prog 151 [.sc (.int .i64 y), .sc (.int .i64 m)] H (.sc (.int .i64 (longI y m))) H := by
  refine ACalls.into Tryz.func151 rfl Tryz.ntmps151 Tryz.results151 (by simp) ?_
  simp -implicitDefEqProofs
  refine AAlloc.intro fun b hb => ?_
  have hW : ∀ o, HWk H (H.set b o) := fun o => HWk.new hb (HWk.refl _)
  have hW2 : ∀ o o', HWk H ((H.set b o).set b o') := fun o o' => by rw [Heap.set_set]; exact hW _
  unfold longI
  by_cases h1 : m < 1
  · rw [if_pos (.inl h1)]
    simp -implicitDefEqProofs [h1]
    exact hW _
  · by_cases h12 : 12 < m
    · rw [if_pos (.inr h12)]
      simp -implicitDefEqProofs [h1, h12]
      exact hW _
    · rw [if_neg (by omega)]
      by_cases h2 : m = 2
      · subst h2
        simp -implicitDefEqProofs
        refine ACall.eq (c_leap y) ?_
        cases hl : leapI y with
        | true => simp -implicitDefEqProofs; exact hW _
        | false => simp -implicitDefEqProofs; exact hW _
      · rw [if_neg (fun e => h2 e.1)]
        have hc : m = 1 ∨ m = 3 ∨ m = 4 ∨ m = 5 ∨ m = 6 ∨ m = 7 ∨ m = 8 ∨ m = 9 ∨ m = 10 ∨ m = 11 ∨ m = 12 := by omega
        rcases hc with rfl | rfl | rfl | rfl | rfl | rfl | rfl | rfl | rfl | rfl | rfl <;> simp -implicitDefEqProofs <;> exact hW _
theorem c_cmay (y m d : Int) : AOk Tryz.prog 188 [dAV y m d] H (.sc (.bool (mayD y m d))) H := by
  refine ACalls.into Tryz.func188 rfl Tryz.ntmps188 Tryz.results188 (by simp) ?_
  simp -implicitDefEqProofs
  refine AAlloc.intro fun b hb => ?_
  have hW : ∀ o, HWk H (H.set b o) := fun o => HWk.new hb (HWk.refl _)
  unfold mayD
  simp -implicitDefEqProofs
  refine go_draw 24 f_mixed (by decide +kernel) ?_
  by_cases h1 : 1970 ≤ y
  · by_cases h2 : y ≤ 2399
    · by_cases h3 : 1 ≤ d
      · simp -implicitDefEqProofs [h1, h2, h3]
        refine AQS.eq (c_long y m) ?_
        simp -implicitDefEqProofs
        exact hW _
      · simp -implicitDefEqProofs [h1, h2, h3]
        exact hW _
    · simp -implicitDefEqProofs [h1, h2]
      exact hW _
  · simp -implicitDefEqProofs [h1]
    exact hW _
end Go.Proofs.YtmoncokklkiikaaGreatDoor
namespace Go.Proofs.YtmoncokklkiikaaGreatDoor
open Rg Go
variable {H : Heap}
theorem y_gap {y : Nat} (h : 1969 ≤ y) : y / 100 + 473 ≤ y / 4 := by omega
set_option maxHeartbeats 2000000 in
theorem c_days {y m d : Nat} (h : mayD (y : Int) (m : Int) (d : Int) = true) : AOk Tryz.prog 192 [dAV y m d] H (.tup [.sc (.int .i64 (daysN y m d)), .sc (.int .i64 0)]) H := by
  obtain ⟨i, dd, hi, hdd, h1, h2, h3⟩ := mayD_in h
  have hl := mLen_le i
  have hy1 : 1970 ≤ y := by omega
  have hy2 : y ≤ 2399 := by omega
  have hm1 : 1 ≤ m := by omega
  have hm2 : m ≤ 12 := by omega
  have hd1 : 1 ≤ d := by omega
  have hd2 : d ≤ 31 := by omega
  clear h1 h2 h3 hl hdd hi
  refine ACalls.into Tryz.func192 rfl Tryz.ntmps192 Tryz.results192 (by simp) ?_
  simp -implicitDefEqProofs
  refine AAlloc.intro fun b hb => ?_
  have hW : ∀ o, HWk H (H.set b o) := fun o => HWk.new hb (HWk.refl _)
  simp -implicitDefEqProofs
  refine ACall.eq (c_cmay y m d) ?_
  simp -implicitDefEqProofs [h]
  refine go_draw 6 f_mixed (by decide +kernel) ?_
  clear h i dd
  by_cases c2 : m ≤ 2
  · have c2' : (m : Int) ≤ 2 := by omega
    obtain ⟨Y, hY⟩ : ∃ x, y - 1 = x := ⟨_, rfl⟩
    obtain ⟨M, hM⟩ : ∃ x, m + 12 = x := ⟨_, rfl⟩
    have wY : IntKind.i64.wrap ((y : Int) - 1) = (Y : Int) := wsub (b := 1) hY (by omega) (by omega)
    have wM : IntKind.i64.wrap ((m : Int) + 12) = (M : Int) := wadd (b := 12) hM (by omega)
    have hY1 : 1969 ≤ Y := by omega
    have hY2 : Y ≤ 2399 := by omega
    have hM1 : 13 ≤ M := by omega
    have hM2 : M ≤ 14 := by omega
    obtain ⟨a1, ha1⟩ : ∃ x, 365 * Y = x := ⟨_, rfl⟩
    obtain ⟨q1, hq1⟩ : ∃ x, Y / 4 = x := ⟨_, rfl⟩
    obtain ⟨a2, ha2⟩ : ∃ x, a1 + q1 = x := ⟨_, rfl⟩
    obtain ⟨q2, hq2⟩ : ∃ x, Y / 100 = x := ⟨_, rfl⟩
    obtain ⟨a3, ha3⟩ : ∃ x, a2 - q2 = x := ⟨_, rfl⟩
    obtain ⟨q3, hq3⟩ : ∃ x, Y / 400 = x := ⟨_, rfl⟩
    obtain ⟨a4, ha4⟩ : ∃ x, a3 + q3 = x := ⟨_, rfl⟩
    obtain ⟨b1, hb1⟩ : ∃ x, M - 3 = x := ⟨_, rfl⟩
    obtain ⟨b2, hb2⟩ : ∃ x, 153 * b1 = x := ⟨_, rfl⟩
    obtain ⟨b3, hb3⟩ : ∃ x, b2 + 2 = x := ⟨_, rfl⟩
    obtain ⟨b4, hb4⟩ : ∃ x, b3 / 5 = x := ⟨_, rfl⟩
    obtain ⟨a5, ha5⟩ : ∃ x, a4 + b4 = x := ⟨_, rfl⟩
    obtain ⟨a6, ha6⟩ : ∃ x, a5 + d = x := ⟨_, rfl⟩
    obtain ⟨a7, ha7⟩ : ∃ x, a6 - 719469 = x := ⟨_, rfl⟩
    have g1 : q2 + 473 ≤ q1 := by rw [← hq2, ← hq1]; exact y_gap hY1
    have ga : 718685 ≤ a1 := by omega
    have gb : 306 ≤ b4 := by omega
    have gc : 4 ≤ q3 := by omega
    have g2 : 719468 ≤ a4 + b4 := by omega
    have wa1 : IntKind.i64.wrap (365 * (Y : Int)) = (a1 : Int) := wmul (a := 365) ha1 (by omega)
    have wq1 : IntKind.i64.wrap ((Y : Int) / 4) = (q1 : Int) := wdiv (b := 4) hq1 (by omega)
    have wa2 : IntKind.i64.wrap ((a1 : Int) + (q1 : Int)) = (a2 : Int) := wadd ha2 (by omega)
    have wq2 : IntKind.i64.wrap ((Y : Int) / 100) = (q2 : Int) := wdiv (b := 100) hq2 (by omega)
    have wa3 : IntKind.i64.wrap ((a2 : Int) - (q2 : Int)) = (a3 : Int) := wsub ha3 (by omega) (by omega)
    have wq3 : IntKind.i64.wrap ((Y : Int) / 400) = (q3 : Int) := wdiv (b := 400) hq3 (by omega)
    have wa4 : IntKind.i64.wrap ((a3 : Int) + (q3 : Int)) = (a4 : Int) := wadd ha4 (by omega)
    have wb1 : IntKind.i64.wrap ((M : Int) - 3) = (b1 : Int) := wsub (b := 3) hb1 (by omega) (by omega)
    have wb2 : IntKind.i64.wrap (153 * (b1 : Int)) = (b2 : Int) := wmul (a := 153) hb2 (by omega)
    have wb3 : IntKind.i64.wrap ((b2 : Int) + 2) = (b3 : Int) := wadd (b := 2) hb3 (by omega)
    have wb4 : IntKind.i64.wrap ((b3 : Int) / 5) = (b4 : Int) := wdiv (b := 5) hb4 (by omega)
    have wa5 : IntKind.i64.wrap ((a4 : Int) + (b4 : Int)) = (a5 : Int) := wadd ha5 (by omega)
    have wa6 : IntKind.i64.wrap ((a5 : Int) + (d : Int)) = (a6 : Int) := wadd ha6 (by omega)
    have wa7 : IntKind.i64.wrap ((a6 : Int) - 719469) = (a7 : Int) := wsub (b := 719469) ha7 (by omega) (by omega)
    have e : daysN y m d = a7 := by unfold daysN; rw [if_pos c2, hY, hM, ha1, hq1, hq2, hq3, hb1, hb2, hb3, hb4, ha2, ha3, ha4, ha5, ha6, ha7]
    rw [e]
    simp -implicitDefEqProofs [c2', wY, wM, wa1, wq1, wa2, wq2, wa3, wq3, wa4, wb1, wb2, wb3, wb4, wa5, wa6, wa7]
    exact hW _
  · have c2' : ¬ (m : Int) ≤ 2 := by omega
    obtain ⟨a1, ha1⟩ : ∃ x, 365 * y = x := ⟨_, rfl⟩
    obtain ⟨q1, hq1⟩ : ∃ x, y / 4 = x := ⟨_, rfl⟩
    obtain ⟨a2, ha2⟩ : ∃ x, a1 + q1 = x := ⟨_, rfl⟩
    obtain ⟨q2, hq2⟩ : ∃ x, y / 100 = x := ⟨_, rfl⟩
    obtain ⟨a3, ha3⟩ : ∃ x, a2 - q2 = x := ⟨_, rfl⟩
    obtain ⟨q3, hq3⟩ : ∃ x, y / 400 = x := ⟨_, rfl⟩
    obtain ⟨a4, ha4⟩ : ∃ x, a3 + q3 = x := ⟨_, rfl⟩
    obtain ⟨b1, hb1⟩ : ∃ x, m - 3 = x := ⟨_, rfl⟩
    obtain ⟨b2, hb2⟩ : ∃ x, 153 * b1 = x := ⟨_, rfl⟩
    obtain ⟨b3, hb3⟩ : ∃ x, b2 + 2 = x := ⟨_, rfl⟩
    obtain ⟨b4, hb4⟩ : ∃ x, b3 / 5 = x := ⟨_, rfl⟩
    obtain ⟨a5, ha5⟩ : ∃ x, a4 + b4 = x := ⟨_, rfl⟩
    obtain ⟨a6, ha6⟩ : ∃ x, a5 + d = x := ⟨_, rfl⟩
    obtain ⟨a7, ha7⟩ : ∃ x, a6 - 719469 = x := ⟨_, rfl⟩
    have g1 : q2 + 473 ≤ q1 := by rw [← hq2, ← hq1]; exact y_gap (by omega)
    have ga : 719050 ≤ a1 := by omega
    have g2 : 719469 ≤ a4 := by omega
    have wa1 : IntKind.i64.wrap (365 * (y : Int)) = (a1 : Int) := wmul (a := 365) ha1 (by omega)
    have wq1 : IntKind.i64.wrap ((y : Int) / 4) = (q1 : Int) := wdiv (b := 4) hq1 (by omega)
    have wa2 : IntKind.i64.wrap ((a1 : Int) + (q1 : Int)) = (a2 : Int) := wadd ha2 (by omega)
    have wq2 : IntKind.i64.wrap ((y : Int) / 100) = (q2 : Int) := wdiv (b := 100) hq2 (by omega)
    have wa3 : IntKind.i64.wrap ((a2 : Int) - (q2 : Int)) = (a3 : Int) := wsub ha3 (by omega) (by omega)
    have wq3 : IntKind.i64.wrap ((y : Int) / 400) = (q3 : Int) := wdiv (b := 400) hq3 (by omega)
    have wa4 : IntKind.i64.wrap ((a3 : Int) + (q3 : Int)) = (a4 : Int) := wadd ha4 (by omega)
    have wb1 : IntKind.i64.wrap ((m : Int) - 3) = (b1 : Int) := wsub (b := 3) hb1 (by omega) (by omega)
    have wb2 : IntKind.i64.wrap (153 * (b1 : Int)) = (b2 : Int) := wmul (a := 153) hb2 (by omega)
    have wb3 : IntKind.i64.wrap ((b2 : Int) + 2) = (b3 : Int) := wadd (b := 2) hb3 (by omega)
    have wb4 : IntKind.i64.wrap ((b3 : Int) / 5) = (b4 : Int) := wdiv (b := 5) hb4 (by omega)
    have wa5 : IntKind.i64.wrap ((a4 : Int) + (b4 : Int)) = (a5 : Int) := wadd ha5 (by omega)
    have wa6 : IntKind.i64.wrap ((a5 : Int) + (d : Int)) = (a6 : Int) := wadd ha6 (by omega)
    have wa7 : IntKind.i64.wrap ((a6 : Int) - 719469) = (a7 : Int) := wsub (b := 719469) ha7 (by omega) (by omega)
    have e : daysN y m d = a7 := by unfold daysN; rw [if_neg c2, ha1, hq1, hq2, hq3, hb1, hb2, hb3, hb4, ha2, ha3, ha4, ha5, ha6, ha7]
    rw [e]
    simp -implicitDefEqProofs [c2', wa1, wq1, wa2, wq2, wa3, wq3, wa4, wb1, wb2, wb3, wb4, wa5, wa6, wa7]
    exact hW _
theorem c_weekday (n : Nat) (hn : n < 1000000000) : AOk Tryz.prog 92 [.sc (.int .i64 n)] H (.sc (.int .i64 ((n + 4) % 7 : Nat))) H := by
  refine ACalls.into Tryz.func92 rfl Tryz.ntmps92 Tryz.results92 (by simp) ?_
  obtain ⟨r, hr⟩ : ∃ r, n % 7 = r := ⟨_, rfl⟩
  obtain ⟨r', hr'⟩ : ∃ x, r + 11 = x := ⟨_, rfl⟩
  obtain ⟨q, hq⟩ : ∃ x, (n + 4) % 7 = x := ⟨_, rfl⟩
  rw [hq]
  have e1 : (n : Int).tmod 7 = (r : Int) := wmod (b := 7) hr
  have e2 : IntKind.i64.wrap ((r : Int) + 11) = (r' : Int) := wadd (b := 11) hr' (by omega)
  have e3 : (r' : Int).tmod 7 = (q : Int) := wmod (b := 7) (by omega)
  simp -implicitDefEqProofs [e1, e2, e3]
end Go.Proofs.YtmoncokklkiikaaGreatDoor
namespace Go.Proofs.YtmoncokklkiikaaGreatDoor
open Rg Go
variable {H : Heap}
set_option maxHeartbeats 2000000 in
theorem of_facts {n k era day : Nat} (hn : n < 157054) (hk : n + 719468 = k) (hera : k / 146097 = era) (hday : k % 146097 = day) :
    IntKind.i64.wrap ((n : Int) + 719468) = (k : Int) ∧ IntKind.i64.wrap ((k : Int) / 146097) = (era : Int) ∧ (k : Int).tmod 146097 = (day : Int) ∧ day < 146097 ∧ era ≤ 5 := by
  have hbk : k ≤ 876521 := by omega
  exact ⟨wadd (b := 719468) hk (by omega), wdiv (b := 146097) hera (by omega), wmod (b := 146097) hday, by omega, by omega⟩
theorem c_of {n : Nat} (hn : n < 157054) : AOk Tryz.prog 91 [.sc (.int .i64 n)] H (.tup [dAV (civ n).1 (civ n).2.1 (civ n).2.2, .sc (.int .i64 0)]) H := by
  have hok := civ_ok hn
  have c0 : (n : Int) < 157054 := by omega
  have c1 : ¬ (157054 : Int) ≤ n := by omega
  have c1' : ¬ 157054 ≤ n := by omega
  unfold civ
  simp only [mpN, doyN, yoeN, eraN, gD] at hok ⊢
  obtain ⟨k, hk⟩ : ∃ k, n + 719468 = k := ⟨_, rfl⟩
  simp only [hk] at hok ⊢
  obtain ⟨era, hera⟩ : ∃ x, k / 146097 = x := ⟨_, rfl⟩
  obtain ⟨day, hday⟩ : ∃ x, k % 146097 = x := ⟨_, rfl⟩
  simp only [hera, hday] at hok ⊢
  obtain ⟨q1, hq1⟩ : ∃ x, day / 1460 = x := ⟨_, rfl⟩
  obtain ⟨q2, hq2⟩ : ∃ x, day / 36524 = x := ⟨_, rfl⟩
  obtain ⟨q3, hq3⟩ : ∃ x, day / 146096 = x := ⟨_, rfl⟩
  simp only [hq1, hq2, hq3] at hok ⊢
  obtain ⟨a1, ha1⟩ : ∃ x, day - q1 = x := ⟨_, rfl⟩
  simp only [ha1] at hok ⊢
  obtain ⟨a2, ha2⟩ : ∃ x, a1 + q2 = x := ⟨_, rfl⟩
  simp only [ha2] at hok ⊢
  obtain ⟨a3, ha3⟩ : ∃ x, a2 - q3 = x := ⟨_, rfl⟩
  simp only [ha3] at hok ⊢
  obtain ⟨yr, hyr⟩ : ∃ x, a3 / 365 = x := ⟨_, rfl⟩
  simp only [hyr] at hok ⊢
  obtain ⟨q4, hq4⟩ : ∃ x, yr / 4 = x := ⟨_, rfl⟩
  obtain ⟨q5, hq5⟩ : ∃ x, yr / 100 = x := ⟨_, rfl⟩
  simp only [hq4, hq5] at hok ⊢
  obtain ⟨p1, hp1⟩ : ∃ x, 365 * yr = x := ⟨_, rfl⟩
  simp only [hp1] at hok ⊢
  obtain ⟨p2, hp2⟩ : ∃ x, p1 + q4 = x := ⟨_, rfl⟩
  simp only [hp2] at hok ⊢
  obtain ⟨p3, hp3⟩ : ∃ x, p2 - q5 = x := ⟨_, rfl⟩
  simp only [hp3] at hok ⊢
  obtain ⟨doy, hdoy⟩ : ∃ x, day - p3 = x := ⟨_, rfl⟩
  simp only [hdoy] at hok ⊢
  obtain ⟨r1, hr1⟩ : ∃ x, 5 * doy = x := ⟨_, rfl⟩
  simp only [hr1] at hok ⊢
  obtain ⟨r2, hr2⟩ : ∃ x, r1 + 2 = x := ⟨_, rfl⟩
  simp only [hr2] at hok ⊢
  obtain ⟨mp, hmp⟩ : ∃ x, r2 / 153 = x := ⟨_, rfl⟩
  simp only [hmp] at hok ⊢
  obtain ⟨e1, he1⟩ : ∃ x, era * 400 = x := ⟨_, rfl⟩
  simp only [he1] at hok ⊢
  obtain ⟨e2, he2⟩ : ∃ x, e1 + yr = x := ⟨_, rfl⟩
  simp only [he2] at hok ⊢
  obtain ⟨m3, hm3⟩ : ∃ x, mp + 3 = x := ⟨_, rfl⟩
  simp only [hm3] at hok ⊢
  obtain ⟨s1, hs1⟩ : ∃ x, 153 * mp = x := ⟨_, rfl⟩
  simp only [hs1] at hok ⊢
  obtain ⟨s2, hs2⟩ : ∃ x, s1 + 2 = x := ⟨_, rfl⟩
  simp only [hs2] at hok ⊢
  obtain ⟨s3, hs3⟩ : ∃ x, s2 / 5 = x := ⟨_, rfl⟩
  simp only [hs3] at hok ⊢
  obtain ⟨s4, hs4⟩ : ∃ x, doy - s3 = x := ⟨_, rfl⟩
  simp only [hs4] at hok ⊢
  obtain ⟨w1, w2, w3, hb1, hb2⟩ := of_facts hn hk hera hday
  clear hk hera hday hn
  have w4 : IntKind.i64.wrap ((day : Int) / 1460) = (q1 : Int) := wdiv (b := 1460) hq1 (by omega)
  have w5 : IntKind.i64.wrap ((day : Int) - (q1 : Int)) = (a1 : Int) := wsub ha1 (by omega) (by omega)
  have w6 : IntKind.i64.wrap ((day : Int) / 36524) = (q2 : Int) := wdiv (b := 36524) hq2 (by omega)
  have w7 : IntKind.i64.wrap ((a1 : Int) + (q2 : Int)) = (a2 : Int) := wadd ha2 (by omega)
  have w8 : IntKind.i64.wrap ((day : Int) / 146096) = (q3 : Int) := wdiv (b := 146096) hq3 (by omega)
  have w9 : IntKind.i64.wrap ((a2 : Int) - (q3 : Int)) = (a3 : Int) := wsub ha3 (by omega) (by omega)
  have hb3 : a3 ≤ 146500 := by omega
  clear hq1 hq2 hq3 ha1 ha2 ha3
  have w10 : IntKind.i64.wrap ((a3 : Int) / 365) = (yr : Int) := wdiv (b := 365) hyr (by omega)
  have hb4 : yr ≤ 500 := by omega
  clear hyr hb3
  have w11 : IntKind.i64.wrap (365 * (yr : Int)) = (p1 : Int) := wmul (a := 365) hp1 (by omega)
  have w12 : IntKind.i64.wrap ((yr : Int) / 4) = (q4 : Int) := wdiv (b := 4) hq4 (by omega)
  have w13 : IntKind.i64.wrap ((p1 : Int) + (q4 : Int)) = (p2 : Int) := wadd hp2 (by omega)
  have w14 : IntKind.i64.wrap ((yr : Int) / 100) = (q5 : Int) := wdiv (b := 100) hq5 (by omega)
  have w15 : IntKind.i64.wrap ((p2 : Int) - (q5 : Int)) = (p3 : Int) := wsub hp3 (by omega) (by omega)
  have w16 : IntKind.i64.wrap ((day : Int) - (p3 : Int)) = (doy : Int) := wsub hdoy hok.1 (by omega)
  have hb5 : doy ≤ 146097 := by omega
  clear hp1 hq4 hp2 hq5 hp3 hdoy
  have w17 : IntKind.i64.wrap (5 * (doy : Int)) = (r1 : Int) := wmul (a := 5) hr1 (by omega)
  have w18 : IntKind.i64.wrap ((r1 : Int) + 2) = (r2 : Int) := wadd (b := 2) hr2 (by omega)
  have w19 : IntKind.i64.wrap ((r2 : Int) / 153) = (mp : Int) := wdiv (b := 153) hmp (by omega)
  have hb6 : mp ≤ 5000 := by omega
  have w20 : IntKind.i64.wrap ((era : Int) * 400) = (e1 : Int) := wmul (b := 400) he1 (by omega)
  have w21 : IntKind.i64.wrap ((e1 : Int) + (yr : Int)) = (e2 : Int) := wadd he2 (by omega)
  have hb7 : e2 ≤ 5000 := by omega
  have w22 : IntKind.i64.wrap ((mp : Int) + 3) = (m3 : Int) := wadd (b := 3) hm3 (by omega)
  have w23 : IntKind.i64.wrap (153 * (mp : Int)) = (s1 : Int) := wmul (a := 153) hs1 (by omega)
  have w24 : IntKind.i64.wrap ((s1 : Int) + 2) = (s2 : Int) := wadd (b := 2) hs2 (by omega)
  have w25 : IntKind.i64.wrap ((s2 : Int) / 5) = (s3 : Int) := wdiv (b := 5) hs3 (by omega)
  have w26 : IntKind.i64.wrap ((doy : Int) - (s3 : Int)) = (s4 : Int) := wsub hs4 hok.2 (by omega)
  have w27 : IntKind.i64.wrap ((s4 : Int) + 1) = ((s4 + 1 : Nat) : Int) := wadd (b := 1) rfl (by omega)
  have hb8 : m3 ≤ 5003 := by omega
  clear hr1 hr2 hmp he1 he2 hm3 hs1 hs2 hs3 hs4 hok
  have w28 : IntKind.i64.wrap ((e2 : Int) + 1) = ((e2 + 1 : Nat) : Int) := wadd (b := 1) rfl (by omega)
  refine ACalls.into Tryz.func91 rfl Tryz.ntmps91 Tryz.results91 (by simp) ?_
  simp -implicitDefEqProofs
  refine AAlloc.intro fun b2 h2 => ?_
  simp -implicitDefEqProofs [c1, w1, w2, w3, w4, w5, w6, w7, w8, w9, w10, w11, w12, w13, w14, w15, w16, w17, w18, w19, w20, w21, w22, w23, w24, w25, w26, w27]
  refine AAlloc.intro fun b8 h8 => ?_
  have n82 : b8 ≠ b2 := by intro e; subst e; simp [Heap.set] at h8
  have n28 := n82.symm
  have e8 : H b8 = none := (HLe.set_fresh h2).none h8
  by_cases c12 : 12 < m3
  · have c12' : (12 : Int) < m3 := by omega
    have w29 : IntKind.i64.wrap ((m3 : Int) - 12) = ((m3 - 12 : Nat) : Int) := wsub (b := 12) rfl (by omega) (by omega)
    simp -implicitDefEqProofs [c12, c12', n28, w28, w29]
    repeat (first | exact HWk.refl _ | refine HWk.new (by assumption) ?_)
  · have c12' : ¬ (12 : Int) < m3 := by omega
    simp -implicitDefEqProofs [c12, c12', n28]
    repeat (first | exact HWk.refl _ | refine HWk.new (by assumption) ?_)
end Go.Proofs.YtmoncokklkiikaaGreatDoor
namespace Go.Proofs.YtmoncokklkiikaaGreatDoor
open Rg Go
variable {H : Heap}
def clk (t : Nat) : Clk := ⟨((civ (t / 86400)).1 : Nat), ((civ (t / 86400)).2.1 : Nat), ((civ (t / 86400)).2.2 : Nat), ((t % 86400 / 3600 : Nat) : Int), ((t % 3600 / 60 : Nat) : Int), ((t % 60 : Nat) : Int), (((t / 86400 + 4) % 7 : Nat) : Int)⟩
def wdayC (c : Clk) : Int := (((daysN c.y.toNat c.m.toNat c.d.toNat + 4) % 7 : Nat) : Int)
def mayC (c : Clk) : Bool := decide (0 ≤ c.h) && decide (c.h ≤ 23) && decide (0 ≤ c.mi) && decide (c.mi ≤ 59) && decide (0 ≤ c.s) && decide (c.s ≤ 59) && mayD c.y c.m c.d && decide (c.w = wdayC c)
theorem c_is_s (t : Int) : AOk Tryz.prog 90 [.sc (.int .i64 t)] H (.sc (.bool (decide (0 ≤ t) && decide (t < 13569465600)))) H := by
  refine ACalls.into Tryz.func90 rfl Tryz.ntmps90 Tryz.results90 (by simp) ?_
  by_cases h : 0 ≤ t <;> simp -implicitDefEqProofs [h]
theorem c_split_s {t : Nat} (ht : t < 13569465600) : AOk Tryz.prog 23 [.sc (.int .i64 t)] H (.tup [cAV (clk t), .sc (.int .i64 0)]) H := by
  have e : (decide (0 ≤ (t : Int)) && decide ((t : Int) < 13569465600)) = true := by simp; omega
  obtain ⟨n, hn⟩ : ∃ x, t / 86400 = x := ⟨_, rfl⟩
  obtain ⟨s, hs⟩ : ∃ x, t % 86400 = x := ⟨_, rfl⟩
  obtain ⟨h, hh⟩ : ∃ x, s / 3600 = x := ⟨_, rfl⟩
  obtain ⟨s2, hs2⟩ : ∃ x, s % 3600 = x := ⟨_, rfl⟩
  obtain ⟨m, hm⟩ : ∃ x, s2 / 60 = x := ⟨_, rfl⟩
  obtain ⟨s3, hs3⟩ : ∃ x, s % 60 = x := ⟨_, rfl⟩
  have hn2 : n < 157054 := by omega
  have e1 : t % 3600 / 60 = m := by omega
  have e2 : t % 60 = s3 := by omega
  have w1 : IntKind.i64.wrap ((t : Int) / 86400) = (n : Int) := wdiv (b := 86400) hn (by omega)
  have w2 : (t : Int).tmod 86400 = (s : Int) := wmod (b := 86400) hs
  have w3 : IntKind.i64.wrap ((s : Int) / 3600) = (h : Int) := wdiv (b := 3600) hh (by omega)
  have w4 : (s : Int).tmod 3600 = (s2 : Int) := wmod (b := 3600) hs2
  have w5 : IntKind.i64.wrap ((s2 : Int) / 60) = (m : Int) := wdiv (b := 60) hm (by omega)
  have w6 : (s : Int).tmod 60 = (s3 : Int) := wmod (b := 60) hs3
  have wn : IntKind.i64.wrap (n : Int) = (n : Int) := wrap_i64 (by omega) (by omega)
  have ws : IntKind.i64.wrap (s : Int) = (s : Int) := wrap_i64 (by omega) (by omega)
  unfold clk
  rw [hn, hs, hh, e1, e2]
  refine ACalls.into Tryz.func23 rfl Tryz.ntmps23 Tryz.results23 (by simp) ?_
  simp -implicitDefEqProofs
  refine AAlloc.intro fun b2 h2 => ?_
  simp -implicitDefEqProofs
  refine ACall.eq (c_is_s t) ?_
  rw [e]
  simp -implicitDefEqProofs [w1, w2]
  refine ACall.eq (c_of hn2) ?_
  simp -implicitDefEqProofs
  refine AAlloc.intro fun b6 h6 => ?_
  have n62 : b6 ≠ b2 := by intro e; subst e; simp [Heap.set] at h6
  have n26 := n62.symm
  have e6 : H b6 = none := (HLe.set_fresh h2).none h6
  simp -implicitDefEqProofs
  refine go_draw 11 f_mixed (by decide +kernel) ?_
  simp -implicitDefEqProofs [w3, w4, w5, w6]
  refine AQS.eq (c_weekday n (by omega)) ?_
  simp -implicitDefEqProofs [n26]
  repeat (first | exact HWk.refl _ | refine HWk.new (by assumption) ?_)
def momC (y m d h mi s : Nat) : Nat := daysN y m d * 86400 + h * 3600 + mi * 60 + s
theorem c_moment {y m d h mi s : Nat} {w : Int} (hd : mayD (y : Int) (m : Int) (d : Int) = true) (hh : h ≤ 23) (hm : mi ≤ 59) (hs : s ≤ 59) :
    AOk Tryz.prog 153 [cAV ⟨y, m, d, h, mi, s, w⟩] H (.sc (.int .i64 (momC y m d h mi s))) H := by
  have hlt : daysN y m d < 157054 := by
    obtain ⟨i, dd, hi, hdd, h1, h2, h3⟩ := mayD_in hd
    have e : daysN y m d = mFirst i + dd := by rw [← days_of i dd]; congr 1 <;> omega
    have h4 := mFirst_mono (i := i + 1) (j := 5160) (by omega) (Nat.le_refl _)
    rw [mFirst_succ hi, mFirst_end] at h4
    omega
  obtain ⟨n, hn⟩ : ∃ x, daysN y m d = x := ⟨_, rfl⟩
  unfold momC
  rw [hn] at hlt ⊢
  obtain ⟨a1, ha1⟩ : ∃ x, n * 86400 = x := ⟨_, rfl⟩
  obtain ⟨a2, ha2⟩ : ∃ x, h * 3600 = x := ⟨_, rfl⟩
  obtain ⟨a3, ha3⟩ : ∃ x, a1 + a2 = x := ⟨_, rfl⟩
  obtain ⟨a4, ha4⟩ : ∃ x, mi * 60 = x := ⟨_, rfl⟩
  obtain ⟨a5, ha5⟩ : ∃ x, a3 + a4 = x := ⟨_, rfl⟩
  obtain ⟨a6, ha6⟩ : ∃ x, a5 + s = x := ⟨_, rfl⟩
  have w1 : IntKind.i64.wrap ((n : Int) * 86400) = (a1 : Int) := wmul (b := 86400) ha1 (by omega)
  have w2 : IntKind.i64.wrap ((h : Int) * 3600) = (a2 : Int) := wmul (b := 3600) ha2 (by omega)
  have w3 : IntKind.i64.wrap ((a1 : Int) + (a2 : Int)) = (a3 : Int) := wadd ha3 (by omega)
  have w4 : IntKind.i64.wrap ((mi : Int) * 60) = (a4 : Int) := wmul (b := 60) ha4 (by omega)
  have w5 : IntKind.i64.wrap ((a3 : Int) + (a4 : Int)) = (a5 : Int) := wadd ha5 (by omega)
  have w6 : IntKind.i64.wrap ((a5 : Int) + (s : Int)) = (a6 : Int) := wadd ha6 (by omega)
  have wn : IntKind.i64.wrap (n : Int) = (n : Int) := wrap_i64 (by omega) (by omega)
  have wh : IntKind.i64.wrap (h : Int) = (h : Int) := wrap_i64 (by omega) (by omega)
  have wm : IntKind.i64.wrap (mi : Int) = (mi : Int) := wrap_i64 (by omega) (by omega)
  have ws : IntKind.i64.wrap (s : Int) = (s : Int) := wrap_i64 (by omega) (by omega)
  rw [ha1, ha2, ha3, ha4, ha5, ha6]
  refine ACalls.into Tryz.func153 rfl Tryz.ntmps153 Tryz.results153 (by simp) ?_
  simp -implicitDefEqProofs
  refine AAlloc.intro fun b hb => ?_
  simp -implicitDefEqProofs
  refine ACall.eq (v := .tup [.sc (.int .i64 n), .sc (.int .i64 0)]) (by rw [← hn]; exact c_days hd) ?_
  simp -implicitDefEqProofs [w1, w2, w3, w4, w5, w6]
  exact HWk.new hb (HWk.refl _)
theorem clk_mom {y m d h mi s : Nat} (hd : mayD (y : Int) (m : Int) (d : Int) = true) (hh : h ≤ 23) (hm : mi ≤ 59) (hs : s ≤ 59) :
    momC y m d h mi s < 13569465600 ∧ clk (momC y m d h mi s) = ⟨y, m, d, h, mi, s, (((daysN y m d + 4) % 7 : Nat) : Int)⟩ := by
  obtain ⟨i, dd, hi, hdd, h1, h2, h3⟩ := mayD_in hd
  have e : daysN y m d = mFirst i + dd := by rw [← days_of i dd]; congr 1 <;> omega
  have h4 := mFirst_mono (i := i + 1) (j := 5160) (by omega) (Nat.le_refl _)
  rw [mFirst_succ hi, mFirst_end] at h4
  have hc := civ_at hi hdd
  rw [← e] at hc
  unfold momC
  obtain ⟨n, hn⟩ : ∃ x, daysN y m d = x := ⟨_, rfl⟩
  rw [hn] at e hc ⊢
  have q1 : (n * 86400 + h * 3600 + mi * 60 + s) / 86400 = n := by omega
  have q2 : (n * 86400 + h * 3600 + mi * 60 + s) % 86400 / 3600 = h := by omega
  have q3 : (n * 86400 + h * 3600 + mi * 60 + s) % 3600 / 60 = mi := by omega
  have q4 : (n * 86400 + h * 3600 + mi * 60 + s) % 60 = s := by omega
  refine ⟨by omega, ?_⟩
  unfold clk
  rw [q1, q2, q3, q4, hc]
  simp only [Clk.mk.injEq, and_true]
  omega
theorem c_smay (c : Clk) : AOk Tryz.prog 144 [cAV c] H (.sc (.bool (mayC c))) H := by
  obtain ⟨y, m, d, h, mi, s, w⟩ := c
  refine ACalls.into Tryz.func144 rfl Tryz.ntmps144 Tryz.results144 (by simp) ?_
  simp -implicitDefEqProofs
  refine AAlloc.intro fun b hb => ?_
  have hW : ∀ o, HWk H (H.set b o) := fun o => HWk.new hb (HWk.refl _)
  unfold mayC
  simp only
  by_cases y1 : y < 1970
  · have e : mayD y m d = false := by simp [mayD]; omega
    simp -implicitDefEqProofs [y1, e]
    exact hW _
  · by_cases h1 : h < 0
    · have e : ¬ 0 ≤ h := by omega
      simp -implicitDefEqProofs [y1, h1, e]
      exact hW _
    · by_cases h2 : 23 < h
      · have e : ¬ h ≤ 23 := by omega
        simp -implicitDefEqProofs [y1, h1, h2, e]
        exact hW _
      · by_cases m1 : mi < 0
        · have e : ¬ 0 ≤ mi := by omega
          simp -implicitDefEqProofs [y1, h1, h2, m1, e]
          exact hW _
        · by_cases m2 : 59 < mi
          · have e : ¬ mi ≤ 59 := by omega
            simp -implicitDefEqProofs [y1, h1, h2, m1, m2, e]
            exact hW _
          · by_cases s1 : s < 0
            · have e : ¬ 0 ≤ s := by omega
              simp -implicitDefEqProofs [y1, h1, h2, m1, m2, s1, e]
              exact hW _
            · by_cases s2 : 59 < s
              · have e : ¬ s ≤ 59 := by omega
                simp -implicitDefEqProofs [y1, h1, h2, m1, m2, s1, s2, e]
                exact hW _
              · simp -implicitDefEqProofs [y1, h1, h2, m1, m2, s1, s2]
                refine ACall.eq (c_cmay y m d) ?_
                cases hd : mayD y m d with
                | false =>
                  simp -implicitDefEqProofs
                  exact hW _
                | true =>
                  simp -implicitDefEqProofs
                  obtain ⟨i, dd, hi, hdd, e1, e2, e3⟩ := mayD_in hd
                  generalize 1970 + i / 12 = Y at e1
                  generalize i % 12 + 1 = M at e2
                  generalize dd + 1 = D at e3
                  subst e1 e2 e3
                  obtain ⟨h, rfl⟩ := Int.eq_ofNat_of_zero_le (a := h) (by omega)
                  obtain ⟨mi, rfl⟩ := Int.eq_ofNat_of_zero_le (a := mi) (by omega)
                  obtain ⟨s, rfl⟩ := Int.eq_ofNat_of_zero_le (a := s) (by omega)
                  obtain ⟨hlt, hclk⟩ := clk_mom (h := h) (mi := mi) (s := s) hd (by omega) (by omega) (by omega)
                  refine ACall.eq (c_moment hd (by omega) (by omega) (by omega)) ?_
                  simp -implicitDefEqProofs
                  refine ACall.eq (c_split_s hlt) ?_
                  rw [hclk]
                  simp -implicitDefEqProofs
                  refine AAlloc.intro fun b3 h3 => ?_
                  have n31 : b3 ≠ b := by intro e; subst e; simp [Heap.set] at h3
                  have n13 := n31.symm
                  have e3 : H b3 = none := (HLe.set_fresh hb).none h3
                  simp -implicitDefEqProofs [n13]
                  refine ⟨?_, by repeat (first | exact HWk.refl _ | refine HWk.new (by assumption) ?_)⟩
                  have b1 : (h : Int) ≤ 23 := by omega
                  have b2 : (mi : Int) ≤ 59 := by omega
                  have b3' : (s : Int) ≤ 59 := by omega
                  have ew : wdayC ⟨Y, M, D, h, mi, s, w⟩ = (((daysN Y M D + 4) % 7 : Nat) : Int) := rfl
                  have e7 : ((daysN Y M D : Int) + 4) % 7 = (((daysN Y M D + 4) % 7 : Nat) : Int) := by push_cast; rfl
                  rw [ew, e7, Bool.eq_iff_iff]
                  generalize (((daysN Y M D + 4) % 7 : Nat) : Int) = z
                  simp only [b1, b2, b3', decide_true, Bool.true_and, beq_iff_eq, decide_eq_true_eq]
                  exact eq_comm
end Go.Proofs.YtmoncokklkiikaaGreatDoor
namespace Go.Proofs.YtmoncokklkiikaaGreatDoor
open Rg Go
variable {H : Heap}
theorem leap_bits (y : Nat) : leapN y = (decide (y % 400 = 0) || (!decide (y % 100 = 0) && decide (y % 4 = 0))) := by
  unfold leapN
  rw [Bool.eq_iff_iff]
  simp
  omega
theorem c_ref4Leap (y : Nat) : AOk Tryz.prog 158 [.sc (.int .i64 y)] H (.sc (.bool (leapN y))) H := by
  obtain ⟨a, ha⟩ : ∃ x, y % 400 = x := ⟨_, rfl⟩
  obtain ⟨b, hb⟩ : ∃ x, y % 100 = x := ⟨_, rfl⟩
  obtain ⟨c, hc⟩ : ∃ x, y % 4 = x := ⟨_, rfl⟩
  have e1 : (y : Int).tmod 400 = (a : Int) := wmod (b := 400) ha
  have e2 : (y : Int).tmod 100 = (b : Int) := wmod (b := 100) hb
  have e3 : (y : Int).tmod 4 = (c : Int) := wmod (b := 4) hc
  rw [leap_bits, ha, hb, hc]
  refine ACalls.into Tryz.func158 rfl Tryz.ntmps158 Tryz.results158 (by simp) ?_
  by_cases h1 : a = 0
  · simp -implicitDefEqProofs [e1, h1]
  · by_cases h2 : b = 0
    · simp -implicitDefEqProofs [e1, e2, h1, h2]
    · simp -implicitDefEqProofs [e1, e2, e3, h1, h2]
theorem c_ref4Long {y m : Nat} (h1 : 1 ≤ m) (h2 : m ≤ 12) : AOk Tryz.prog 159 [.sc (.int .i64 y), .sc (.int .i64 m)] H (.sc (.int .i64 (mLong y m))) H := by
  refine ACalls.into Tryz.func159 rfl Tryz.ntmps159 Tryz.results159 (by simp) ?_
  have hc : m = 2 ∨ m = 1 ∨ m = 3 ∨ m = 4 ∨ m = 5 ∨ m = 6 ∨ m = 7 ∨ m = 8 ∨ m = 9 ∨ m = 10 ∨ m = 11 ∨ m = 12 := by omega
  rcases hc with rfl | hc
  · simp -implicitDefEqProofs
    refine ACall.eq (c_ref4Leap y) ?_
    cases hl : leapN y <;> simp -implicitDefEqProofs [mLong, hl]
  · rcases hc with rfl | rfl | rfl | rfl | rfl | rfl | rfl | rfl | rfl | rfl | rfl <;> simp -implicitDefEqProofs [mLong]
theorem c_ref4Weekday (n : Nat) (hn : n < 1000000000) : AOk Tryz.prog 110 [.sc (.int .i64 n)] H (.sc (.int .i64 ((n + 4) % 7 : Nat))) H := by
  refine ACalls.into Tryz.func110 rfl Tryz.ntmps110 Tryz.results110 (by simp) ?_
  obtain ⟨r, hr⟩ : ∃ r, n % 7 = r := ⟨_, rfl⟩
  obtain ⟨r', hr'⟩ : ∃ x, r + 4 = x := ⟨_, rfl⟩
  obtain ⟨q, hq⟩ : ∃ x, (n + 4) % 7 = x := ⟨_, rfl⟩
  rw [hq]
  have e1 : (n : Int).tmod 7 = (r : Int) := wmod (b := 7) hr
  have e2 : IntKind.i64.wrap ((r : Int) + 4) = (r' : Int) := wadd (b := 4) hr' (by omega)
  have e3 : (r' : Int).tmod 7 = (q : Int) := wmod (b := 7) (by omega)
  simp -implicitDefEqProofs [e1, e2, e3]
def yearLen (y : Nat) : Nat := if leapN y = true then 366 else 365
def okY (j : Nat) : Bool := decide (mFirst (12 * (j + 1)) = mFirst (12 * j) + yearLen (1970 + j))
def okYs : Nat → Bool
  | 0 => true
  | j + 1 => okY j && okYs j
theorem okYs_true : okYs 430 = true := by decide +kernel
theorem okYs_at : ∀ {k j : Nat}, okYs k = true → j < k → okY j = true
  | 0, j, _, h => by omega
  | k + 1, j, h, hj => by
    simp only [okYs, Bool.and_eq_true] at h
    by_cases he : j = k
    · subst he; exact h.1
    · exact okYs_at h.2 (by omega)
theorem year_succ {j : Nat} (hj : j < 430) : mFirst (12 * (j + 1)) = mFirst (12 * j) + yearLen (1970 + j) := by simpa [okY] using okYs_at okYs_true hj
theorem c_ref4Of {n : Nat} (hn : n < 157054) : AOk Tryz.prog 111 [.sc (.int .i64 n)] H (.tup [dAV (civ n).1 (civ n).2.1 (civ n).2.2, .sc (.int .i64 0)]) H := by
  obtain ⟨i, d, hi, hd, hnd⟩ := day_of hn
  have hciv : civ n = (1970 + i / 12, i % 12 + 1, d + 1) := by rw [hnd]; exact civ_at hi hd
  rw [hciv]
  have hml := mLen_le i
  simp only
  obtain ⟨Y0, hY0⟩ : ∃ x, 1970 + i / 12 = x := ⟨_, rfl⟩
  obtain ⟨M0, hM0⟩ : ∃ x, i % 12 + 1 = x := ⟨_, rfl⟩
  obtain ⟨D0, hD0⟩ : ∃ x, d + 1 = x := ⟨_, rfl⟩
  rw [hY0, hM0, hD0]
  refine ACalls.into Tryz.func111 rfl Tryz.ntmps111 Tryz.results111 (by simp) ?_
  simp -implicitDefEqProofs
  refine AAlloc.intro fun b2 h2 => ?_
  have hW : ∀ o, HWk H (H.set b2 o) := fun o => HWk.new h2 (HWk.refl _)
  simp -implicitDefEqProofs
  generalize hK : Heap.set _ b2 _ = K0
  have k2 : K0 b2 = some (.cells [.sc (.int .i64 0), .sc (.int .i64 0), .sc (.int .i64 0)] 46) := by rw [← hK]; simp [Heap.set]
  have kW : HWk H K0 := by rw [← hK]; exact hW _
  clear hK
  obtain ⟨Z0, hZ0⟩ : ∃ x, n - mFirst (12 * (i / 12)) = x := ⟨_, rfl⟩
  refine AGo.joinLoop (fun ρ K => K = K0 ∧ ρ 2 = .sc (.pointer (some ⟨b2, 0, none⟩)) ∧ ρ 4 = .sc (.int .i64 Y0) ∧ ρ 0 = .sc (.int .i64 Z0)) (fun k' hk' => ?_) ?_
  · refine AGo.rounds (fun m ρ K => ∃ j Y Z : Nat, j ≤ i / 12 ∧ m = 430 - j ∧ Y = 1970 + j ∧ Z = n - mFirst (12 * j) ∧ ρ 2 = .sc (.pointer (some ⟨b2, 0, none⟩)) ∧ ρ 4 = .sc (.int .i64 Y) ∧ ρ 0 = .sc (.int .i64 Z) ∧ K = K0) ?_ (m := 430) (HLe.refl _)
      ⟨0, 1970, n, by omega, rfl, rfl, by rw [show 12 * 0 = 0 from rfl, mFirst_zero]; rfl, by simp, by simp, by simp, rfl⟩
    rintro m ρ K ih ⟨j, Y, Z, hj, rfl, hY, hZ, r2, r4, r0, rfl⟩
    have hj4 : j < 430 := by omega
    have hys := year_succ hj4
    have hb1 : mFirst (12 * j) ≤ mFirst i := mFirst_mono (by omega) (by omega)
    have hmx : mFirst i + d < 157054 := by omega
    rw [← hY] at hys
    have c1 : (Y : Int) ≤ 2399 := by omega
    obtain ⟨Y', hY'⟩ : ∃ x, x = 1970 + (j + 1) := ⟨_, rfl⟩
    obtain ⟨Z', hZ'⟩ : ∃ x, x = n - mFirst (12 * (j + 1)) := ⟨_, rfl⟩
    have hwY : IntKind.i64.wrap ((Y : Int) + 1) = (Y' : Int) := wadd (b := 1) (by omega) (by omega)
    obtain ⟨L, hL⟩ : ∃ x, yearLen Y = x := ⟨_, rfl⟩
    rw [hL] at hys
    simp -implicitDefEqProofs [r4, c1]
    refine ACall.eq (c_ref4Leap Y) ?_
    by_cases hlast : j = i / 12
    · have hup : n < mFirst (12 * (j + 1)) := by
        have h3 := mFirst_mono (i := i + 1) (j := 12 * (j + 1)) (by omega) (by omega)
        rw [mFirst_succ hi] at h3
        omega
      have hlt : (Z : Int) < (L : Int) := by omega
      have eY : Y = Y0 := by omega
      have eZ : Z = Z0 := by rw [hlast] at hZ; omega
      cases hl : leapN Y with
      | true =>
        have hL2 : L = 366 := by rw [← hL]; unfold yearLen; rw [if_pos hl]
        have hlt2 : (Z : Int) < 366 := by omega
        have hlt3 : Z < 366 := by omega
        simp -implicitDefEqProofs [r0, hlt2, hlt3]
        exact hk' _ _ ⟨rfl, by simp [r2], by simp [r4, eY], by simp [r0, eZ]⟩
      | false =>
        have hL2 : L = 365 := by rw [← hL]; unfold yearLen; rw [if_neg (by simp [hl])]
        have hlt2 : (Z : Int) < 365 := by omega
        have hlt3 : Z < 365 := by omega
        simp -implicitDefEqProofs [r0, hlt2, hlt3]
        exact hk' _ _ ⟨rfl, by simp [r2], by simp [r4, eY], by simp [r0, eZ]⟩
    · have hup : mFirst (12 * (j + 1)) ≤ mFirst i := mFirst_mono (by omega) (by omega)
      have hlt : ¬ (Z : Int) < (L : Int) := by omega
      have hwZ : IntKind.i64.wrap ((Z : Int) - (L : Int)) = (Z' : Int) := wsub (by omega) (by omega) (by omega)
      cases hl : leapN Y with
      | true =>
        have hL2 : L = 366 := by rw [← hL]; unfold yearLen; rw [if_pos hl]
        have hlt2 : ¬ (Z : Int) < 366 := by omega
        have hlt3 : ¬ Z < 366 := by omega
        have hwZ2 : IntKind.i64.wrap ((Z : Int) - 366) = (Z' : Int) := wsub (b := 366) (by omega) (by omega) (by omega)
        simp -implicitDefEqProofs [r0, r4, hlt2, hlt3, hwZ2, hwY]
        exact AGo.again ih (m' := 430 - (j + 1)) (by omega) (HLe.refl _) ⟨j + 1, Y', Z', by omega, rfl, hY', hZ', by simp [r2], by simp, by simp, rfl⟩
      | false =>
        have hL2 : L = 365 := by rw [← hL]; unfold yearLen; rw [if_neg (by simp [hl])]
        have hlt2 : ¬ (Z : Int) < 365 := by omega
        have hlt3 : ¬ Z < 365 := by omega
        have hwZ2 : IntKind.i64.wrap ((Z : Int) - 365) = (Z' : Int) := wsub (b := 365) (by omega) (by omega) (by omega)
        simp -implicitDefEqProofs [r0, r4, hlt2, hlt3, hwZ2, hwY]
        exact AGo.again ih (m' := 430 - (j + 1)) (by omega) (HLe.refl _) ⟨j + 1, Y', Z', by omega, rfl, hY', hZ', by simp [r2], by simp, by simp, rfl⟩
  · rintro ρ K ⟨rfl, r2, r4, r0⟩
    have c1 : ¬ (2399 : Int) < (Y0 : Int) := by omega
    have c1' : ¬ 2399 < Y0 := by omega
    simp -implicitDefEqProofs [r4, c1, c1']
    refine AGo.rounds (fun m ρ K2 => ∃ q Z : Nat, q ≤ i % 12 ∧ m = 12 - q ∧ Z = n - mFirst (12 * (i / 12) + q) ∧ ρ 2 = .sc (.pointer (some ⟨b2, 0, none⟩)) ∧ ρ 4 = .sc (.int .i64 Y0) ∧ ρ 6 = .sc (.int .i64 (q + 1 : Nat)) ∧ ρ 0 = .sc (.int .i64 Z) ∧ K2 = K) ?_ (m := 12) (HLe.refl _)
      ⟨0, Z0, by omega, rfl, hZ0.symm, by simp [r2], by simp [r4], by simp, by simp [r0], rfl⟩
    rintro m ρ K2 ih ⟨q, Z, hq, rfl, hZ, r2, r4, r6, r0, rfl⟩
    have hq12 : q < 12 := by omega
    have hil : 12 * (i / 12) + q < 5160 := by omega
    have hms := mFirst_succ hil
    have hlen : mLen (12 * (i / 12) + q) = mLong Y0 (q + 1) := by
      unfold mLen
      rw [show (12 * (i / 12) + q) / 12 = i / 12 by omega, show (12 * (i / 12) + q) % 12 = q by omega, hY0]
    rw [hlen] at hms
    have hb1 : mFirst (12 * (i / 12) + q) ≤ mFirst i := mFirst_mono (by omega) (by omega)
    obtain ⟨q1, hq1⟩ : ∃ x, q + 1 = x := ⟨_, rfl⟩
    rw [hq1] at r6 hms
    obtain ⟨L, hL⟩ : ∃ x, mLong Y0 q1 = x := ⟨_, rfl⟩
    rw [hL] at hms
    simp -implicitDefEqProofs [r0, r4, r6]
    refine ACall.eq (c_ref4Long (y := Y0) (m := q1) (by omega) (by omega)) ?_
    rw [hL]
    by_cases hlast : q = i % 12
    · have hii : 12 * (i / 12) + q = i := by omega
      have hZd : Z = d := by rw [hZ, hii]; omega
      have hLd : d < L := by rw [← hL, ← hq1, ← hlen, hii]; exact hd
      have hlt : ¬ (L : Int) ≤ (Z : Int) := by omega
      have hlt' : ¬ L ≤ Z := by omega
      have hw : IntKind.i64.wrap ((Z : Int) + 1) = (D0 : Int) := wadd (b := 1) (by omega) (by omega)
      have hq1' : M0 = q1 := by omega
      rw [hq1']
      simp -implicitDefEqProofs [r0, r2, r4, r6, hlt, hlt', hw, k2]
      exact HWk.new h2 kW
    · have hup : mFirst (12 * (i / 12) + q + 1) ≤ mFirst i := mFirst_mono (by omega) (by omega)
      have hlt : (L : Int) ≤ (Z : Int) := by omega
      have hlt' : L ≤ Z := by omega
      obtain ⟨Z', hZ'⟩ : ∃ x, x = n - mFirst (12 * (i / 12) + (q + 1)) := ⟨_, rfl⟩
      have hms' : mFirst (12 * (i / 12) + (q + 1)) = mFirst (12 * (i / 12) + q) + L := hms
      have hwZ : IntKind.i64.wrap ((Z : Int) - (L : Int)) = (Z' : Int) := wsub (by omega) (by omega) (by omega)
      have hw1 : IntKind.i64.wrap ((q1 : Int) + 1) = ((q1 + 1 : Nat) : Int) := wadd (b := 1) rfl (by omega)
      simp -implicitDefEqProofs [r0, r4, r6, hlt, hlt']
      refine ACall.eq (c_ref4Long (y := Y0) (m := q1) (by omega) (by omega)) ?_
      rw [hL]
      simp -implicitDefEqProofs [r0, r4, r6, hwZ, hw1]
      exact AGo.again ih (m' := 12 - (q + 1)) (by omega) (HLe.refl _) ⟨q + 1, Z', by omega, rfl, hZ', by simp [r2], by simp [r4], by simp [← hq1], by simp, rfl⟩
end Go.Proofs.YtmoncokklkiikaaGreatDoor
namespace Go.Proofs.YtmoncokklkiikaaGreatDoor
open Rg Go
variable {H : Heap}
theorem c_ref5Split {t : Nat} (ht : t < 13569465600) : AOk Tryz.prog 40 [.sc (.int .i64 t)] H (.tup [cAV (clk t), .sc (.int .i64 0)]) H := by
  obtain ⟨n, hn⟩ : ∃ x, t / 86400 = x := ⟨_, rfl⟩
  obtain ⟨s, hs⟩ : ∃ x, t % 60 = x := ⟨_, rfl⟩
  obtain ⟨a, ha⟩ : ∃ x, t / 60 = x := ⟨_, rfl⟩
  obtain ⟨m, hm⟩ : ∃ x, a % 60 = x := ⟨_, rfl⟩
  obtain ⟨b, hb⟩ : ∃ x, t / 3600 = x := ⟨_, rfl⟩
  obtain ⟨h, hh⟩ : ∃ x, b % 24 = x := ⟨_, rfl⟩
  have hn2 : n < 157054 := by omega
  have e1 : t % 3600 / 60 = m := by omega
  have e2 : t % 86400 / 3600 = h := by omega
  have w1 : IntKind.i64.wrap ((t : Int) / 86400) = (n : Int) := wdiv (b := 86400) hn (by omega)
  have w2 : (t : Int).tmod 60 = (s : Int) := wmod (b := 60) hs
  have w3 : IntKind.i64.wrap ((t : Int) / 60) = (a : Int) := wdiv (b := 60) ha (by omega)
  have w4 : (a : Int).tmod 60 = (m : Int) := wmod (b := 60) hm
  have w5 : IntKind.i64.wrap ((t : Int) / 3600) = (b : Int) := wdiv (b := 3600) hb (by omega)
  have w6 : (b : Int).tmod 24 = (h : Int) := wmod (b := 24) hh
  have wn : IntKind.i64.wrap (n : Int) = (n : Int) := wrap_i64 (by omega) (by omega)
  have c1 : ¬ (13569465600 : Int) ≤ (t : Int) := by omega
  have c1' : ¬ 13569465600 ≤ t := by omega
  have v1 : IntKind.i64.wrap (s : Int) = (s : Int) := wrap_i64 (by omega) (by omega)
  have v2 : IntKind.i64.wrap (m : Int) = (m : Int) := wrap_i64 (by omega) (by omega)
  have v3 : IntKind.i64.wrap (h : Int) = (h : Int) := wrap_i64 (by omega) (by omega)
  unfold clk
  rw [hn, e1, e2, hs]
  refine ACalls.into Tryz.func40 rfl Tryz.ntmps40 Tryz.results40 (by simp) ?_
  simp -implicitDefEqProofs
  refine AAlloc.intro fun b2 h2 => ?_
  simp -implicitDefEqProofs [w1, w2, w3, w4, w5, w6, wn, c1, c1', v1, v2, v3]
  refine AAlloc.intro fun b4 h4 => ?_
  have n42 : b4 ≠ b2 := by intro e; subst e; simp [Heap.set] at h4
  have n24 := n42.symm
  have e4 : H b4 = none := (HLe.set_fresh h2).none h4
  simp -implicitDefEqProofs [n42, n24, w1, wn]
  refine ACall.eq (c_ref4Of hn2) ?_
  simp -implicitDefEqProofs [n42, n24]
  refine AAlloc.intro fun b6 h6 => ?_
  have n62 : b6 ≠ b2 := by intro e; subst e; simp [Heap.set, n24] at h6
  have n64 : b6 ≠ b4 := by intro e; subst e; simp [Heap.set] at h6
  have n26 := n62.symm
  have n46 := n64.symm
  have e6 : H b6 = none := by simpa [Heap.set, n62, n64] using h6
  simp -implicitDefEqProofs [n42, n24, n62, n64, n26, n46]
  refine ACall.eq (c_ref4Weekday n (by omega)) ?_
  simp -implicitDefEqProofs [n42, n24, n62, n64, n26, n46]
  repeat (first | exact HWk.refl _ | refine HWk.new (by assumption) ?_)
end Go.Proofs.YtmoncokklkiikaaGreatDoor
