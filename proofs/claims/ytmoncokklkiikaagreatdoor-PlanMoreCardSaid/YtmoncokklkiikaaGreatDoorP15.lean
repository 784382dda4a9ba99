/- Split and Cut at one byte, in plain words. Fields: plain laws of what a text's items allow. Fields: a field's text, parsed, allows the same. Fields: a text told is parsed back; two texts, joined. Dates, in plain words: the days of the months one behind the other. Dates and clocks: what civil and stamp give. civil.Days, civil.Weekday. civil.Of. Moments and clocks: what stamp gives. -/
import Derived.Test.YtmoncokklkiikaaGreatDoorP14
import Derived.Lib.SplitLaws
set_option linter.unusedSimpArgs false
set_option linter.unusedVariables false
set_option linter.unnecessarySimpa false
namespace Go.Proofs.YtmoncokklkiikaaGreatDoor
open Rg Go
def sp (c : UInt8) : List UInt8 → List (List UInt8)
  | [] => [[]]
  | x :: r => if x = c then [] :: sp c r else match sp c r with
    | [] => [[x]]
    | h :: t => (x :: h) :: t
def ct (c : UInt8) : List UInt8 → List UInt8 × List UInt8 × Bool
  | [] => ([], [], false)
  | x :: r => if x = c then ([], r, true) else (x :: (ct c r).1, (ct c r).2)
theorem index_eq (c : UInt8) (l : List UInt8) : Lib.index (c :: l) [c] = 0 := by rw [Lib.index]; simp [List.isPrefixOf]
theorem index_ne {b c : UInt8} (l : List UInt8) (h : b ≠ c) : Lib.index (b :: l) [c] = if Lib.index l [c] == -1 then -1 else Lib.index l [c] + 1 := by
  rw [Lib.index]
  simp [List.isPrefixOf, Ne.symm h]
theorem split_sp (c : UInt8) : ∀ s : List UInt8, Lib.split s [c] = sp c s
  | [] => by simp [Lib.split, sp, Lib.count_one, Lib.splitK]
  | x :: r => by
    have ih := split_sp c r
    unfold Lib.split at ih ⊢
    by_cases hx : x = c
    · subst hx
      rw [Lib.count_cons_eq, Nat.add_comm 1]
      simp only [Lib.splitK, index_eq, sp, if_true]
      rw [if_neg (by decide)]
      simp [← ih]
    · rw [Lib.count_cons_ne _ _ _ hx]
      simp only [sp, if_neg hx, ← ih]
      cases hk : Lib.count r [c] with
      | zero => simp [Lib.splitK]
      | succ k =>
        have hi : Lib.index r [c] ≠ -1 := fun h => by rw [Lib.count_miss h] at hk; cases hk
        have hge := Lib.index_ge r [c]
        obtain ⟨j, hj⟩ : ∃ j : Nat, Lib.index r [c] = j := ⟨(Lib.index r [c]).toNat, by omega⟩
        have hne : ¬ ((j : Int) == -1) = true := by simp
        simp only [Lib.splitK, index_ne r hx, hj, if_neg hne]
        have hne2 : ¬ ((j : Int) + 1 == -1) = true := by simp; omega
        rw [if_neg hne2]
        have e : ((j : Int) + 1).toNat = j + 1 := by omega
        simp [e]
theorem cut_ct (c : UInt8) : ∀ s : List UInt8, Lib.cut s [c] = ct c s
  | [] => by simp [Lib.cut, ct, Lib.index]
  | x :: r => by
    have ih := cut_ct c r
    unfold Lib.cut at ih ⊢
    by_cases hx : x = c
    · subst hx
      simp [index_eq, ct]
    · simp only [ct, if_neg hx, ← ih, index_ne r hx]
      by_cases hi : Lib.index r [c] = -1
      · simp [hi]
      · have hge := Lib.index_ge r [c]
        obtain ⟨j, hj⟩ : ∃ j : Nat, Lib.index r [c] = j := ⟨(Lib.index r [c]).toNat, by omega⟩
        have hne : ¬ ((j : Int) == -1) = true := by simp
        rw [hj, if_neg hne, if_pos (by omega), if_pos (by omega)]
        have e : ((j : Int) + 1).toNat = j + 1 := by omega
        simp [e]
theorem ct_not {c : UInt8} : ∀ {s : List UInt8}, c ∉ s → ct c s = (s, [], false)
  | [], _ => rfl
  | x :: r, h => by
    simp only [List.mem_cons, not_or] at h
    simp [ct, if_neg (Ne.symm h.1), ct_not h.2]
theorem ct_app {c : UInt8} {b : List UInt8} : ∀ {a : List UInt8}, c ∉ a → ct c (a ++ c :: b) = (a, b, true)
  | [], _ => by simp [ct]
  | x :: r, h => by
    simp only [List.mem_cons, not_or] at h
    simp [ct, if_neg (Ne.symm h.1), ct_app h.2]
theorem sp_ne (c : UInt8) : ∀ s : List UInt8, sp c s ≠ []
  | [] => by simp [sp]
  | x :: r => by
    unfold sp
    split
    · simp
    · split <;> simp
theorem sp_app (c : UInt8) (b : List UInt8) : ∀ a : List UInt8, sp c (a ++ c :: b) = sp c a ++ sp c b
  | [] => by simp [sp]
  | x :: r => by
    have ih := sp_app c b r
    simp only [List.cons_append, sp, ih]
    split
    · rfl
    · cases h : sp c r with
      | nil => exact absurd h (sp_ne c r)
      | cons y t => rfl
theorem sp_not {c : UInt8} : ∀ {s : List UInt8}, c ∉ s → sp c s = [s]
  | [], _ => rfl
  | x :: r, h => by
    simp only [List.mem_cons, not_or] at h
    simp [sp, if_neg (Ne.symm h.1), sp_not h.2]
end Go.Proofs.YtmoncokklkiikaaGreatDoor
namespace Go.Proofs.YtmoncokklkiikaaGreatDoor
open Rg Go
def firstErr (k : Int) : List (List UInt8) → Int
  | [] => 0
  | x :: r => if (itemK k x).2 ≠ 0 then (itemK k x).2 else firstErr k r
def orAll (k : Int) : List (List UInt8) → Nat
  | [] => 0
  | x :: r => (itemK k x).1 ||| orAll k r
theorem parseGo_eq (k : Int) : ∀ (L : List (List UInt8)) (f : Fld), parseGo k L f = if firstErr k L ≠ 0 then (⟨0, false⟩, firstErr k L) else (⟨f.bits ||| orAll k L, f.star⟩, 0)
  | [], f => by simp [parseGo, firstErr, orAll]
  | x :: r, f => by
    unfold parseGo firstErr orAll
    by_cases h : (itemK k x).2 = 0
    · rw [if_neg (by simp [h]), parseGo_eq k r]
      simp only [h, ne_eq, not_true_eq_false, if_false, Nat.or_assoc]
    · simp [h]
theorem parse_eq {k : Int} (hk : isK k = true) {s : List UInt8} (hs : s.length ≤ 150) :
    parseK k s = if firstErr k (sp 44 s) ≠ 0 then (⟨0, false⟩, firstErr k (sp 44 s)) else (⟨orAll k (sp 44 s), Lib.hasPrefix s [42]⟩, 0) := by
  unfold parseK
  rw [if_neg (by simp [hk]), if_neg (by omega), parseGo_eq, split_sp]
  simp
theorem hasB_nat2 (b k : Nat) (hk : k ≤ 63) : hasB b (k : Int) = b.testBit k := by
  simp [hasB]; omega
theorem testBit_pow2 (i j : Nat) : (pow2 i).testBit j = decide (i = j) := by
  unfold pow2
  rw [Nat.testBit_two_pow]
theorem setFrom_mono {m step : Nat} {last : Int} : ∀ (f n set j : Nat), set.testBit j = true → (setFrom m step last f n set).testBit j = true
  | 0, n, set, j, h => h
  | f + 1, n, set, j, h => by
    unfold setFrom
    split
    · exact setFrom_mono f _ _ j (by rw [Nat.testBit_or, h]; rfl)
    · exact h
theorem setFrom_first {m step : Nat} {last : Int} (f n set : Nat) (h : (n : Int) ≤ last) : (setFrom m step last (f + 1) n set).testBit (n % m) = true := by
  unfold setFrom
  rw [if_pos h]
  refine setFrom_mono f _ _ _ ?_
  rw [Nat.testBit_or, testBit_pow2]
  simp [modN]
theorem setFrom_sub {m step : Nat} {last : Int} : ∀ (f n set j : Nat), (setFrom m step last f n set).testBit j = true → set.testBit j = true ∨ ∃ i, n ≤ i ∧ (i : Int) ≤ last ∧ j = i % m
  | 0, n, set, j, h => .inl h
  | f + 1, n, set, j, h => by
    unfold setFrom at h
    split at h
    · rename_i hn
      rcases setFrom_sub f _ _ j h with h | ⟨i, h1, h2, h3⟩
      · rw [Nat.testBit_or, testBit_pow2] at h
        simp only [Bool.or_eq_true, decide_eq_true_eq] at h
        rcases h with h | h
        · exact .inl h
        · exact .inr ⟨n, Nat.le_refl _, hn, h.symm⟩
      · exact .inr ⟨i, by omega, h2, h3⟩
    · exact .inl h
theorem body_ok {k : Int} (hk : isK k = true) {b : List UInt8} {st : Bool} {step : Int} (h : (bodyK k b st step).2 = 0) :
    ∃ first last : Nat, lowK k ≤ (first : Int) ∧ first ≤ last ∧ (last : Int) ≤ highK k ∧ (bodyK k b st step).1 = setFrom (mostK k + 1).toNat step.toNat last 200 first 0 := by
  have hb := bounds_le hk
  have fin : ∀ first last e : Int, (e = 0 → lowK k ≤ first ∧ last ≤ highK k) → (finK k first last step e).2 = 0 → ∃ f l : Nat, lowK k ≤ (f : Int) ∧ f ≤ l ∧ (l : Int) ≤ highK k ∧ (finK k first last step e).1 = setFrom (mostK k + 1).toNat step.toNat l 200 f 0 := by
    intro first last e he h
    unfold finK at h ⊢
    by_cases h0 : e = 0
    · rw [if_neg (by simp [h0])] at h ⊢
      obtain ⟨h1, h2⟩ := he h0
      by_cases h3 : last < first ∨ step < 1 ∨ 59 < step
      · rw [if_pos h3] at h; cases h
      · rw [if_neg h3] at h ⊢
        refine ⟨first.toNat, last.toNat, by omega, by omega, by omega, ?_⟩
        rw [Int.toNat_of_nonneg (a := last) (by omega)]
    · rw [if_pos h0] at h; exact absurd h h0
  unfold bodyK at h ⊢
  by_cases h1 : b = [42]
  · rw [if_pos h1] at h ⊢
    exact fin _ _ _ (fun _ => by omega) h
  · rw [if_neg h1] at h ⊢
    by_cases h2 : st = true ∧ (Lib.cut b [45]).2.2 = false
    · rw [if_pos h2] at h; cases h
    · rw [if_neg h2] at h ⊢
      by_cases h3 : (Lib.cut b [45]).2.2 = true
      · rw [if_pos h3] at h ⊢
        refine fin _ _ _ (fun h0 => ?_) h
        obtain ⟨h0, _, t1, t2⟩ := takeE_zero h0
        obtain ⟨_, _, t3, t4⟩ := takeE_zero h0
        omega
      · rw [if_neg h3] at h ⊢
        refine fin _ _ _ (fun h0 => ?_) h
        obtain ⟨h0, _, t1, t2⟩ := takeE_zero h0
        omega
theorem all_bits {k : Int} (hk : isK k = true) : ∀ j, j < 64 → ((18446744073709551615 - allK k).testBit j = true → ¬ (lowK k ≤ (j : Int) ∧ (j : Int) ≤ mostK k)) ∧ ((allK k).testBit j = (decide (lowK k ≤ (j : Int)) && decide ((j : Int) ≤ mostK k))) := by
  rcases isK_cases hk with rfl | rfl | rfl | rfl | rfl <;> decide +kernel
theorem mod_in {k : Int} (hk : isK k = true) {i : Nat} (h1 : lowK k ≤ (i : Int)) (h2 : (i : Int) ≤ highK k) : lowK k ≤ ((i % (mostK k + 1).toNat : Nat) : Int) ∧ ((i % (mostK k + 1).toNat : Nat) : Int) ≤ mostK k := by
  rcases isK_cases hk with rfl | rfl | rfl | rfl | rfl <;> simp [lowK, highK, mostK] at * <;> omega
theorem item_ok {k : Int} (hk : isK k = true) {x : List UInt8} (h : (itemK k x).2 = 0) : (itemK k x).1 ≠ 0 ∧ ∀ j, (itemK k x).1.testBit j = true → lowK k ≤ (j : Int) ∧ (j : Int) ≤ mostK k := by
  have key : ∀ b st step, (bodyK k b st step).2 = 0 → (bodyK k b st step).1 ≠ 0 ∧ ∀ j, (bodyK k b st step).1.testBit j = true → lowK k ≤ (j : Int) ∧ (j : Int) ≤ mostK k := by
    intro b st step hb
    obtain ⟨f, l, h1, h2, h3, h4⟩ := body_ok hk hb
    rw [h4]
    constructor
    · intro h0
      have := setFrom_first (m := (mostK k + 1).toNat) (step := step.toNat) (last := l) 199 f 0 (by omega)
      rw [show 199 + 1 = 200 from rfl, h0] at this
      simp at this
    · intro j hj
      rcases setFrom_sub _ _ _ _ hj with hj | ⟨i, i1, i2, rfl⟩
      · simp at hj
      · exact mod_in hk (by omega) (by omega)
  unfold itemK at h ⊢
  by_cases h1 : (Lib.cut x [47]).2.2 = true
  · rw [if_pos h1] at h ⊢
    by_cases h2 : (numK 0 (Lib.cut x [47]).2.1).2 = false
    · rw [if_pos h2] at h; cases h
    · rw [if_neg h2] at h ⊢; exact key _ _ _ h
  · rw [if_neg h1] at h ⊢; exact key _ _ _ h
theorem orAll_ok {k : Int} (hk : isK k = true) : ∀ {L : List (List UInt8)}, firstErr k L = 0 → (L ≠ [] → orAll k L ≠ 0) ∧ ∀ j, (orAll k L).testBit j = true → lowK k ≤ (j : Int) ∧ (j : Int) ≤ mostK k
  | [], _ => ⟨fun h => absurd rfl h, fun j h => by simp [orAll] at h⟩
  | x :: r, h => by
    have hx : (itemK k x).2 = 0 := by
      unfold firstErr at h
      by_cases h0 : (itemK k x).2 = 0
      · exact h0
      · rw [if_pos h0] at h; exact h
    have hr : firstErr k r = 0 := by unfold firstErr at h; rw [if_neg (by simp [hx])] at h; exact h
    obtain ⟨i1, i2⟩ := item_ok hk hx
    obtain ⟨_, r2⟩ := orAll_ok hk hr
    refine ⟨fun _ h0 => ?_, fun j hj => ?_⟩
    · unfold orAll at h0
      exact i1 (Nat.or_eq_zero_iff.1 h0).1
    · unfold orAll at hj
      rw [Nat.testBit_or, Bool.or_eq_true] at hj
      rcases hj with hj | hj
      · exact i2 j hj
      · exact r2 j hj
theorem may_of {k : Int} (hk : isK k = true) {b : Nat} (h0 : b ≠ 0) (h : ∀ j, b.testBit j = true → lowK k ≤ (j : Int) ∧ (j : Int) ≤ mostK k) : mayB k b = true := by
  have hb := bounds_le hk
  have hz : b &&& (18446744073709551615 - allK k) = 0 := by
    apply Nat.eq_of_testBit_eq
    intro j
    rw [Nat.testBit_and, Nat.zero_testBit]
    cases hj : b.testBit j with
    | false => rfl
    | true =>
      have h1 := h j hj
      cases h2 : (18446744073709551615 - allK k).testBit j with
      | false => rfl
      | true => exact absurd h1 ((all_bits hk j (by omega)).1 h2)
  simp [mayB, hk, h0, hz]
end Go.Proofs.YtmoncokklkiikaaGreatDoor
namespace Go.Proofs.YtmoncokklkiikaaGreatDoor
open Rg Go
end Go.Proofs.YtmoncokklkiikaaGreatDoor
namespace Go.Proofs.YtmoncokklkiikaaGreatDoor
open Rg Go
theorem comp_bits {k : Int} (hk : isK k = true) : ∀ j, j < 64 → (18446744073709551615 - allK k).testBit j = !(decide (lowK k ≤ (j : Int)) && decide ((j : Int) ≤ mostK k)) := by
  rcases isK_cases hk with rfl | rfl | rfl | rfl | rfl <;> decide +kernel
theorem may_bits {k : Int} {b : Nat} (hb : b < 18446744073709551616) (h : mayB k b = true) : isK k = true ∧ b ≠ 0 ∧ ∀ j, b.testBit j = true → lowK k ≤ (j : Int) ∧ (j : Int) ≤ mostK k := by
  simp only [mayB, Bool.and_eq_true, decide_eq_true_eq] at h
  obtain ⟨⟨hk, h0⟩, hz⟩ := h
  refine ⟨hk, h0, fun j hj => ?_⟩
  have h1 := congrArg (fun x => x.testBit j) hz
  simp only [Nat.testBit_and, hj, Bool.true_and, Nat.zero_testBit] at h1
  rw [comp_bits hk j (by have := testBit_high hb hj; omega)] at h1
  simpa using h1
theorem parse_lt (k : Int) (s : List UInt8) : (parseK k s).1.bits < 18446744073709551616 := by
  unfold parseK
  split
  · exact (by decide : (0 : Nat) < 18446744073709551616)
  · rename_i hk
    split
    · exact (by decide : (0 : Nat) < 18446744073709551616)
    · rw [parseGo_eq]
      split
      · exact (by decide : (0 : Nat) < 18446744073709551616)
      · have hk' : isK k = true := by simpa using hk
        have : ∀ L, orAll k L < 18446744073709551616 := by
          intro L
          induction L with
          | nil => exact (by decide : (0 : Nat) < 18446744073709551616)
          | cons x r ih => exact or_small (itemK_lt hk' x) ih
        exact or_small (a := 0) (by decide) (this _)
end Go.Proofs.YtmoncokklkiikaaGreatDoor
namespace Go.Proofs.YtmoncokklkiikaaGreatDoor
open Rg Go
def leapN (y : Nat) : Bool := (y % 4 == 0 && !(y % 100 == 0)) || y % 400 == 0
def mLong (y m : Nat) : Nat := if m = 2 ∧ leapN y = true then 29 else [0, 31, 28, 31, 30, 31, 30, 31, 31, 30, 31, 30, 31].getD m 0
def gD (x : Nat) : Nat := x - x / 1460 + x / 36524 - x / 146096
def eraN (n : Nat) : Nat := (n + 719468) / 146097
def yoeN (n : Nat) : Nat := gD ((n + 719468) % 146097) / 365
def doyN (n : Nat) : Nat := (n + 719468) % 146097 - (365 * yoeN n + yoeN n / 4 - yoeN n / 100)
def mpN (n : Nat) : Nat := (5 * doyN n + 2) / 153
def civ (n : Nat) : Nat × Nat × Nat :=
  (if 12 < mpN n + 3 then eraN n * 400 + yoeN n + 1 else eraN n * 400 + yoeN n, if 12 < mpN n + 3 then mpN n + 3 - 12 else mpN n + 3, doyN n - (153 * mpN n + 2) / 5 + 1)
def daysN (y m d : Nat) : Nat :=
  if m ≤ 2 then 365 * (y - 1) + (y - 1) / 4 - (y - 1) / 100 + (y - 1) / 400 + (153 * (m + 12 - 3) + 2) / 5 + d - 719469
  else 365 * y + y / 4 - y / 100 + y / 400 + (153 * (m - 3) + 2) / 5 + d - 719469
def mFirst (i : Nat) : Nat := daysN (1970 + i / 12) (i % 12 + 1) 1
def mLen (i : Nat) : Nat := mLong (1970 + i / 12) (i % 12 + 1)
def okM (i : Nat) : Bool :=
  decide (mFirst (i + 1) = mFirst i + mLen i) && decide (1 ≤ mLen i) && decide (civ (mFirst i) = (1970 + i / 12, i % 12 + 1, 1)) &&
  decide (eraN (mFirst i + mLen i - 1) = eraN (mFirst i)) && decide (yoeN (mFirst i + mLen i - 1) = yoeN (mFirst i)) && decide (mpN (mFirst i + mLen i - 1) = mpN (mFirst i)) &&
  decide (365 * yoeN (mFirst i) + yoeN (mFirst i) / 4 - yoeN (mFirst i) / 100 ≤ (mFirst i + 719468) % 146097) && decide ((153 * mpN (mFirst i) + 2) / 5 ≤ doyN (mFirst i))
def okAll : Nat → Bool
  | 0 => true
  | i + 1 => okM i && okAll i
set_option maxRecDepth 100000 in
theorem okAll_true : okAll 5160 = true := by decide +kernel
theorem okAll_at : ∀ {k i : Nat}, okAll k = true → i < k → okM i = true
  | 0, i, _, h => by omega
  | k + 1, i, h, hi => by
    simp only [okAll, Bool.and_eq_true] at h
    by_cases he : i = k
    · subst he; exact h.1
    · exact okAll_at h.2 (by omega)
theorem gD_step {x : Nat} (h : x + 1 < 146097) : gD x ≤ gD (x + 1) := by unfold gD; omega
theorem gD_mono {a : Nat} : ∀ (k : Nat), a + k < 146097 → gD a ≤ gD (a + k)
  | 0, _ => Nat.le_refl _
  | k + 1, h => Nat.le_trans (gD_mono k (by omega)) (gD_step (x := a + k) (by omega))
theorem mFirst_succ {i : Nat} (hi : i < 5160) : mFirst (i + 1) = mFirst i + mLen i := by
  have h := okAll_at okAll_true hi
  simp only [okM, Bool.and_eq_true, decide_eq_true_eq] at h
  exact h.1.1.1.1.1.1.1
theorem civ_raw {i d : Nat} (hi : i < 5160) (hd : d < mLen i) : eraN (mFirst i + d) = eraN (mFirst i) ∧ (mFirst i + d + 719468) % 146097 = (mFirst i + 719468) % 146097 + d ∧ yoeN (mFirst i + d) = yoeN (mFirst i) ∧
    doyN (mFirst i + d) = doyN (mFirst i) + d ∧ mpN (mFirst i + d) = mpN (mFirst i) ∧ civ (mFirst i) = (1970 + i / 12, i % 12 + 1, 1) ∧ 365 * yoeN (mFirst i) + yoeN (mFirst i) / 4 - yoeN (mFirst i) / 100 ≤ (mFirst i + 719468) % 146097 ∧ (153 * mpN (mFirst i) + 2) / 5 ≤ doyN (mFirst i) := by
  have h := okAll_at okAll_true hi
  simp only [okM, Bool.and_eq_true, decide_eq_true_eq] at h
  obtain ⟨⟨⟨⟨⟨⟨⟨_, h1⟩, h2⟩, h3⟩, h4⟩, h5⟩, h6⟩, h7⟩ := h
  generalize mFirst i = s at *
  generalize mLen i = l at *
  have hera : eraN (s + d) = eraN s := by unfold eraN at *; omega
  have hday : (s + d + 719468) % 146097 = (s + 719468) % 146097 + d := by unfold eraN at *; omega
  have hdayl : (s + l - 1 + 719468) % 146097 = (s + 719468) % 146097 + (l - 1) := by unfold eraN at *; omega
  have hlt : (s + l - 1 + 719468) % 146097 < 146097 := Nat.mod_lt _ (by decide)
  have hyoe : yoeN (s + d) = yoeN s := by
    have m1 := gD_mono (a := (s + 719468) % 146097) d (by omega)
    have m2 := gD_mono (a := (s + 719468) % 146097 + d) (l - 1 - d) (by omega)
    rw [show (s + 719468) % 146097 + d + (l - 1 - d) = (s + 719468) % 146097 + (l - 1) by omega] at m2
    unfold yoeN at *
    rw [hday]
    rw [hdayl] at h4
    have q1 := Nat.div_le_div_right (c := 365) m1
    have q2 := Nat.div_le_div_right (c := 365) m2
    omega
  have hdoy : doyN (s + d) = doyN s + d := by
    unfold doyN
    rw [hyoe, hday]
    omega
  have hdoyl : doyN (s + l - 1) = doyN s + (l - 1) := by
    unfold doyN
    rw [h4, hdayl]
    omega
  have hmp : mpN (s + d) = mpN s := by
    unfold mpN at *
    rw [hdoyl] at h5
    rw [hdoy]
    omega
  exact ⟨hera, hday, hyoe, hdoy, hmp, h2, h6, h7⟩
theorem civ_at {i d : Nat} (hi : i < 5160) (hd : d < mLen i) : civ (mFirst i + d) = (1970 + i / 12, i % 12 + 1, d + 1) := by
  obtain ⟨hera, _, hyoe, hdoy, hmp, h2, _, _⟩ := civ_raw hi hd
  unfold civ at *
  rw [hera, hyoe, hmp, hdoy]
  simp only [Prod.mk.injEq] at h2 ⊢
  refine ⟨h2.1, h2.2.1, ?_⟩
  have := h2.2.2
  omega
theorem mFirst_zero : mFirst 0 = 0 := by decide
theorem mFirst_end : mFirst 5160 = 157054 := by decide
theorem day_in : ∀ {k n : Nat}, k ≤ 5160 → n < mFirst k → ∃ i d, i < k ∧ d < mLen i ∧ n = mFirst i + d
  | 0, n, _, h => by rw [mFirst_zero] at h; omega
  | k + 1, n, hk, h => by
    by_cases hn : n < mFirst k
    · obtain ⟨i, d, h1, h2, h3⟩ := day_in (by omega) hn
      exact ⟨i, d, by omega, h2, h3⟩
    · rw [mFirst_succ (by omega)] at h
      exact ⟨k, n - mFirst k, by omega, by omega, by omega⟩
theorem day_of {n : Nat} (h : n < 157054) : ∃ i d, i < 5160 ∧ d < mLen i ∧ n = mFirst i + d := day_in (Nat.le_refl _) (by rw [mFirst_end]; exact h)
theorem civ_ok {n : Nat} (h : n < 157054) : 365 * yoeN n + yoeN n / 4 - yoeN n / 100 ≤ (n + 719468) % 146097 ∧ (153 * mpN n + 2) / 5 ≤ doyN n := by
  obtain ⟨i, d, hi, hd, rfl⟩ := day_of h
  obtain ⟨_, hday, hyoe, hdoy, hmp, _, h6, h7⟩ := civ_raw hi hd
  rw [hday, hyoe, hdoy, hmp]
  omega
theorem mFirst_mono : ∀ {i j : Nat}, i ≤ j → j ≤ 5160 → mFirst i ≤ mFirst j
  | i, 0, h, _ => by obtain rfl : i = 0 := by omega
                     exact Nat.le_refl _
  | i, j + 1, h, hj => by
    by_cases he : i = j + 1
    · subst he; exact Nat.le_refl _
    · rw [mFirst_succ (by omega)]
      exact Nat.le_trans (mFirst_mono (i := i) (j := j) (by omega) (by omega)) (by omega)
theorem mLen_le (i : Nat) : mLen i ≤ 31 := by
  unfold mLen mLong
  split
  · omega
  · have h : ∀ m, m < 13 → ([0, 31, 28, 31, 30, 31, 30, 31, 31, 30, 31, 30, 31] : List Nat).getD m 0 ≤ 31 := by decide
    exact h _ (by omega)
theorem daysN_lin (y m d : Nat) (hy : 1970 ≤ y) (hm : 1 ≤ m) : daysN y m (d + 1) = daysN y m 1 + d := by
  unfold daysN
  split
  · have a1 : (y - 1) / 100 + 473 ≤ (y - 1) / 4 := by omega
    have a2 : 4 ≤ (y - 1) / 400 := by omega
    have a3 : 306 ≤ (153 * (m + 12 - 3) + 2) / 5 := by omega
    omega
  · have a1 : y / 100 + 473 ≤ y / 4 := by omega
    omega
end Go.Proofs.YtmoncokklkiikaaGreatDoor
namespace Go.Proofs.YtmoncokklkiikaaGreatDoor
open Rg Go
variable {H : Heap}
def i64 (n : Int) : AV := .sc (.int .i64 n)
structure Clk where
  y : Int
  m : Int
  d : Int
  h : Int
  mi : Int
  s : Int
  w : Int
deriving DecidableEq
abbrev dAV (y m d : Int) : AV := .agg [.sc (.int .i64 y), .sc (.int .i64 m), .sc (.int .i64 d)]
abbrev cAV (c : Clk) : AV := .agg [.sc (.int .i64 c.y), .sc (.int .i64 c.m), .sc (.int .i64 c.d), .sc (.int .i64 c.h), .sc (.int .i64 c.mi), .sc (.int .i64 c.s), .sc (.int .i64 c.w)]
def leapI (y : Int) : Bool := (decide (y.tmod 4 = 0) && !decide (y.tmod 100 = 0)) || decide (y.tmod 400 = 0)
def longI (y m : Int) : Int := if m < 1 ∨ 12 < m then 0 else if m = 2 ∧ leapI y = true then 29 else [0, 31, 28, 31, 30, 31, 30, 31, 31, 30, 31, 30, 31].getD m.toNat 0
def mayD (y m d : Int) : Bool := decide (1970 ≤ y) && decide (y ≤ 2399) && decide (1 ≤ d) && decide (d ≤ longI y m)
theorem leap_nat (y : Nat) : leapI (y : Int) = leapN y := by
  have e : ∀ n : Nat, ((y : Int).tmod (n : Int) = 0) = (y % n = 0) := fun n => by
    apply propext
    have : (y : Int).tmod (n : Int) = ((y % n : Nat) : Int) := rfl
    rw [this]; omega
  unfold leapI leapN
  have e4 := e 4
  have e100 := e 100
  have e400 := e 400
  simp only [show ((4 : Nat) : Int) = 4 from rfl, show ((100 : Nat) : Int) = 100 from rfl, show ((400 : Nat) : Int) = 400 from rfl] at e4 e100 e400
  simp only [e4, e100, e400]
  rfl
theorem long_nat {m : Nat} (y : Nat) (h1 : 1 ≤ m) (h2 : m ≤ 12) : longI (y : Int) (m : Int) = (mLong y m : Int) := by
  unfold longI mLong
  rw [if_neg (by omega), leap_nat]
  by_cases h : m = 2 ∧ leapN y = true
  · rw [if_pos ⟨by omega, h.2⟩, if_pos h]; rfl
  · rw [if_neg (fun e => h ⟨by omega, e.2⟩), if_neg h]
    have hh : ∀ m : Nat, m < 13 → (([0, 31, 28, 31, 30, 31, 30, 31, 31, 30, 31, 30, 31] : List Int).getD ((m : Int).toNat) 0) = ((([0, 31, 28, 31, 30, 31, 30, 31, 31, 30, 31, 30, 31] : List Nat).getD m 0 : Nat) : Int) := by decide
    exact hh m (by omega)
theorem mayD_out {y m d : Int} (h : m < 1 ∨ 12 < m) : mayD y m d = false := by
  unfold mayD longI
  rw [if_pos h]
  simp
  omega
theorem mayD_in {y m d : Int} (h : mayD y m d = true) : ∃ i dd : Nat, i < 5160 ∧ dd < mLen i ∧ y = ((1970 + i / 12 : Nat) : Int) ∧ m = ((i % 12 + 1 : Nat) : Int) ∧ d = ((dd + 1 : Nat) : Int) := by
  have hm : 1 ≤ m ∧ m ≤ 12 := by
    by_cases hm : m < 1 ∨ 12 < m
    · rw [mayD_out hm] at h; cases h
    · omega
  simp only [mayD, Bool.and_eq_true, decide_eq_true_eq] at h
  obtain ⟨⟨⟨h1, h2⟩, h3⟩, h4⟩ := h
  obtain ⟨Y, rfl⟩ := Int.eq_ofNat_of_zero_le (a := y) (by omega)
  obtain ⟨M, rfl⟩ := Int.eq_ofNat_of_zero_le (a := m) (by omega)
  obtain ⟨D, rfl⟩ := Int.eq_ofNat_of_zero_le (a := d) (by omega)
  rw [long_nat Y (by omega) (by omega)] at h4
  have e1 : 1970 + ((Y - 1970) * 12 + (M - 1)) / 12 = Y := by omega
  have e2 : ((Y - 1970) * 12 + (M - 1)) % 12 + 1 = M := by omega
  refine ⟨(Y - 1970) * 12 + (M - 1), D - 1, by omega, ?_, by rw [e1], by rw [e2], by omega⟩
  unfold mLen
  rw [e1, e2]
  omega
theorem mayD_of {i dd : Nat} (hi : i < 5160) (hd : dd < mLen i) : mayD ((1970 + i / 12 : Nat) : Int) ((i % 12 + 1 : Nat) : Int) ((dd + 1 : Nat) : Int) = true := by
  unfold mLen at hd
  have h := long_nat (1970 + i / 12) (m := i % 12 + 1) (by omega) (by omega)
  simp only [mayD, Bool.and_eq_true, decide_eq_true_eq]
  rw [h]
  refine ⟨⟨⟨by omega, by omega⟩, by omega⟩, by omega⟩
theorem days_of (i dd : Nat) : daysN (1970 + i / 12) (i % 12 + 1) (dd + 1) = mFirst i + dd := daysN_lin _ _ _ (by omega) (by omega)
theorem wadd {a b c : Nat} (h : a + b = c) (hc : c ≤ 9223372036854775807) : IntKind.i64.wrap ((a : Int) + (b : Int)) = (c : Int) := by rw [wrap_i64 (by omega) (by omega)]; omega
theorem wsub {a b c : Nat} (h : a - b = c) (hb : b ≤ a) (ha : a ≤ 9223372036854775807) : IntKind.i64.wrap ((a : Int) - (b : Int)) = (c : Int) := by rw [wrap_i64 (by omega) (by omega)]; omega
theorem wmul {a b c : Nat} (h : a * b = c) (hc : c ≤ 9223372036854775807) : IntKind.i64.wrap ((a : Int) * (b : Int)) = (c : Int) := by
  have e : (a : Int) * (b : Int) = (c : Int) := by rw [← h]; push_cast; rfl
  rw [e]; exact wrap_i64 (by omega) (by omega)
theorem wdiv {a b c : Nat} (h : a / b = c) (ha : a ≤ 9223372036854775807) : IntKind.i64.wrap ((a : Int) / (b : Int)) = (c : Int) := by
  have e : (a : Int) / (b : Int) = (c : Int) := by rw [← h]; push_cast; rfl
  have hc : c ≤ a := by rw [← h]; exact Nat.div_le_self _ _
  rw [e]; exact wrap_i64 (by omega) (by omega)
theorem wmod {a b c : Nat} (h : a % b = c) : (a : Int).tmod (b : Int) = (c : Int) := by rw [← h]; rfl
theorem c_leapBy {b : Nat} {y : Int} (hb : H b = some (.cells [.sc (.int .i64 y)] 3)) {n : Int} (hn : n ≠ 0) : AOk Tryz.prog 222 [.sc (.int .i64 n), .sc (.pointer (some ⟨b, 0, none⟩))] H (.sc (.bool (decide (y.tmod n = 0)))) H := by
  refine ACalls.into Tryz.func222 rfl Tryz.ntmps222 Tryz.results222 (by simp) ?_
  simp -implicitDefEqProofs [hb, hn]
theorem c_leap (y : Int) : AOk Tryz.prog 190 [.sc (.int .i64 y)] H (.sc (.bool (leapI y))) H := by
  refine ACalls.into Tryz.func190 rfl Tryz.ntmps190 Tryz.results190 (by simp) ?_
  simp -implicitDefEqProofs
  refine AAlloc.intro fun b hb => ?_
  have hW : ∀ o, HWk H (H.set b o) := fun o => HWk.new hb (HWk.refl _)
  have k : (H.set b (.cells [.sc (.int .i64 y)] 3)) b = some (.cells [.sc (.int .i64 y)] 3) := by simp [Heap.set]
  unfold leapI
  simp -implicitDefEqProofs
  refine ACall.eq (c_leapBy k (by decide)) ?_
  by_cases h4 : y.tmod 4 = 0
  · simp -implicitDefEqProofs [h4]
    refine ACall.eq (c_leapBy k (by decide)) ?_
    by_cases h100 : y.tmod 100 = 0
    · simp -implicitDefEqProofs [h100]
      refine ACall.eq (c_leapBy k (by decide)) ?_
      simp -implicitDefEqProofs
      exact hW _
    · simp -implicitDefEqProofs [h100]
      exact hW _
  · simp -implicitDefEqProofs [h4]
    refine ACall.eq (c_leapBy k (by decide)) ?_
    simp -implicitDefEqProofs
    exact hW _
theorem c_long (y m : Int) : AOk Tryz.prog 151 [.sc (.int .i64 y), .sc (.int .i64 m)] H (.sc (.int .i64 (longI y m))) H := by
  refine ACalls.into Tryz.func151 rfl Tryz.ntmps151 Tryz.results151 (by simp) ?_
  simp -implicitDefEqProofs
  refine AAlloc.intro fun b hb => ?_
  have hW : ∀ o, HWk H (H.set b o) := fun o => HWk.new hb (HWk.refl _)
  have hW2 : ∀ o o', HWk H ((H.set b o).set b o') := fun o o' => by rw [Heap.set_set]; exact hW _
  unfold longI
  by_cases h1 : m < 1
  · rw [if_pos (.inl h1)]
    simp -implicitDefEqProofs [h1]
    exact hW _
  · by_cases h12 : 12 < m
    · rw [if_pos (.inr h12)]
      simp -implicitDefEqProofs [h1, h12]
      exact hW _
    · rw [if_neg (by omega)]
      by_cases h2 : m = 2
      · subst h2
        simp -implicitDefEqProofs
        refine ACall.eq (c_leap y) ?_
        cases hl : leapI y with
        | true => simp -implicitDefEqProofs; exact hW _
        | false => simp -implicitDefEqProofs; exact hW _
      · rw [if_neg (fun e => h2 e.1)]
        have hc : m = 1 ∨ m = 3 ∨ m = 4 ∨ m = 5 ∨ m = 6 ∨ m = 7 ∨ m = 8 ∨ m = 9 ∨ m = 10 ∨ m = 11 ∨ m = 12 := by omega
        rcases hc with rfl | rfl | rfl | rfl | rfl | rfl | rfl | rfl | rfl | rfl | rfl <;> simp -implicitDefEqProofs <;> exact hW _
theorem c_cmay (y m d : Int) : AOk Tryz.prog 188 [dAV y m d] H (.sc (.bool (mayD y m d))) H := by
  refine ACalls.into Tryz.func188 rfl Tryz.ntmps188 Tryz.results188 (by simp) ?_
  simp -implicitDefEqProofs
  refine AAlloc.intro fun b hb => ?_
  have hW : ∀ o, HWk H (H.set b o) := fun o => HWk.new hb (HWk.refl _)
  unfold mayD
  simp -implicitDefEqProofs
  refine go_draw 24 f_mixed (by decide +kernel) ?_
  by_cases h1 : 1970 ≤ y
  · by_cases h2 : y ≤ 2399
    · by_cases h3 : 1 ≤ d
      · simp -implicitDefEqProofs [h1, h2, h3]
        refine AQS.eq (c_long y m) ?_
        simp -implicitDefEqProofs
        exact hW _
      · simp -implicitDefEqProofs [h1, h2, h3]
        exact hW _
    · simp -implicitDefEqProofs [h1, h2]
      exact hW _
  · simp -implicitDefEqProofs [h1]
    exact hW _
end Go.Proofs.YtmoncokklkiikaaGreatDoor
namespace Go.Proofs.YtmoncokklkiikaaGreatDoor
open Rg Go
variable {H : Heap}
theorem y_gap {y : Nat} (h : 1969 ≤ y) : y / 100 + 473 ≤ y / 4 := by omega
set_option maxHeartbeats 2000000 in
theorem c_days {y m d : Nat} (h : mayD (y : Int) (m : Int) (d : Int) = true) : AOk Tryz.prog 192 [dAV y m d] H (.tup [.sc (.int .i64 (daysN y m d)), .sc (.int .i64 0)]) H := by
  obtain ⟨i, dd, hi, hdd, h1, h2, h3⟩ := mayD_in h
  have hl := mLen_le i
  have hy1 : 1970 ≤ y := by omega
  have hy2 : y ≤ 2399 := by omega
  have hm1 : 1 ≤ m := by omega
  have hm2 : m ≤ 12 := by omega
  have hd1 : 1 ≤ d := by omega
  have hd2 : d ≤ 31 := by omega
  clear h1 h2 h3 hl hdd hi
  refine ACalls.into Tryz.func192 rfl Tryz.ntmps192 Tryz.results192 (by simp) ?_
  simp -implicitDefEqProofs
  refine AAlloc.intro fun b hb => ?_
  have hW : ∀ o, HWk H (H.set b o) := fun o => HWk.new hb (HWk.refl _)
  simp -implicitDefEqProofs
  refine ACall.eq (c_cmay y m d) ?_
  simp -implicitDefEqProofs [h]
  refine go_draw 6 f_mixed (by decide +kernel) ?_
  clear h i dd
  by_cases c2 : m ≤ 2
  · have c2' : (m : Int) ≤ 2 := by omega
    obtain ⟨Y, hY⟩ : ∃ x, y - 1 = x := ⟨_, rfl⟩
    obtain ⟨M, hM⟩ : ∃ x, m + 12 = x := ⟨_, rfl⟩
    have wY : IntKind.i64.wrap ((y : Int) - 1) = (Y : Int) := wsub (b := 1) hY (by omega) (by omega)
    have wM : IntKind.i64.wrap ((m : Int) + 12) = (M : Int) := wadd (b := 12) hM (by omega)
    have hY1 : 1969 ≤ Y := by omega
    have hY2 : Y ≤ 2399 := by omega
    have hM1 : 13 ≤ M := by omega
    have hM2 : M ≤ 14 := by omega
    obtain ⟨a1, ha1⟩ : ∃ x, 365 * Y = x := ⟨_, rfl⟩
    obtain ⟨q1, hq1⟩ : ∃ x, Y / 4 = x := ⟨_, rfl⟩
    obtain ⟨a2, ha2⟩ : ∃ x, a1 + q1 = x := ⟨_, rfl⟩
    obtain ⟨q2, hq2⟩ : ∃ x, Y / 100 = x := ⟨_, rfl⟩
    obtain ⟨a3, ha3⟩ : ∃ x, a2 - q2 = x := ⟨_, rfl⟩
    obtain ⟨q3, hq3⟩ : ∃ x, Y / 400 = x := ⟨_, rfl⟩
    obtain ⟨a4, ha4⟩ : ∃ x, a3 + q3 = x := ⟨_, rfl⟩
    obtain ⟨b1, hb1⟩ : ∃ x, M - 3 = x := ⟨_, rfl⟩
    obtain ⟨b2, hb2⟩ : ∃ x, 153 * b1 = x := ⟨_, rfl⟩
    obtain ⟨b3, hb3⟩ : ∃ x, b2 + 2 = x := ⟨_, rfl⟩
    obtain ⟨b4, hb4⟩ : ∃ x, b3 / 5 = x := ⟨_, rfl⟩
    obtain ⟨a5, ha5⟩ : ∃ x, a4 + b4 = x := ⟨_, rfl⟩
    obtain ⟨a6, ha6⟩ : ∃ x, a5 + d = x := ⟨_, rfl⟩
    obtain ⟨a7, ha7⟩ : ∃ x, a6 - 719469 = x := ⟨_, rfl⟩
    have g1 : q2 + 473 ≤ q1 := by rw [← hq2, ← hq1]; exact y_gap hY1
    have ga : 718685 ≤ a1 := by omega
    have gb : 306 ≤ b4 := by omega
    have gc : 4 ≤ q3 := by omega
    have g2 : 719468 ≤ a4 + b4 := by omega
    have wa1 : IntKind.i64.wrap (365 * (Y : Int)) = (a1 : Int) := wmul (a := 365) ha1 (by omega)
    have wq1 : IntKind.i64.wrap ((Y : Int) / 4) = (q1 : Int) := wdiv (b := 4) hq1 (by omega)
    have wa2 : IntKind.i64.wrap ((a1 : Int) + (q1 : Int)) = (a2 : Int) := wadd ha2 (by omega)
    have wq2 : IntKind.i64.wrap ((Y : Int) / 100) = (q2 : Int) := wdiv (b := 100) hq2 (by omega)
    have wa3 : IntKind.i64.wrap ((a2 : Int) - (q2 : Int)) = (a3 : Int) := wsub ha3 (by omega) (by omega)
    have wq3 : IntKind.i64.wrap ((Y : Int) / 400) = (q3 : Int) := wdiv (b := 400) hq3 (by omega)
    have wa4 : IntKind.i64.wrap ((a3 : Int) + (q3 : Int)) = (a4 : Int) := wadd ha4 (by omega)
    have wb1 : IntKind.i64.wrap ((M : Int) - 3) = (b1 : Int) := wsub (b := 3) hb1 (by omega) (by omega)
    have wb2 : IntKind.i64.wrap (153 * (b1 : Int)) = (b2 : Int) := wmul (a := 153) hb2 (by omega)
    have wb3 : IntKind.i64.wrap ((b2 : Int) + 2) = (b3 : Int) := wadd (b := 2) hb3 (by omega)
    have wb4 : IntKind.i64.wrap ((b3 : Int) / 5) = (b4 : Int) := wdiv (b := 5) hb4 (by omega)
    have wa5 : IntKind.i64.wrap ((a4 : Int) + (b4 : Int)) = (a5 : Int) := wadd ha5 (by omega)
    have wa6 : IntKind.i64.wrap ((a5 : Int) + (d : Int)) = (a6 : Int) := wadd ha6 (by omega)
    have wa7 : IntKind.i64.wrap ((a6 : Int) - 719469) = (a7 : Int) := wsub (b := 719469) ha7 (by omega) (by omega)
    have e : daysN y m d = a7 := by unfold daysN; rw [if_pos c2, hY, hM, ha1, hq1, hq2, hq3, hb1, hb2, hb3, hb4, ha2, ha3, ha4, ha5, ha6, ha7]
    rw [e]
    simp -implicitDefEqProofs [c2', wY, wM, wa1, wq1, wa2, wq2, wa3, wq3, wa4, wb1, wb2, wb3, wb4, wa5, wa6, wa7]
    exact hW _
  · have c2' : ¬ (m : Int) ≤ 2 := by omega
    obtain ⟨a1, ha1⟩ : ∃ x, 365 * y = x := ⟨_, rfl⟩
    obtain ⟨q1, hq1⟩ : ∃ x, y / 4 = x := ⟨_, rfl⟩
    obtain ⟨a2, ha2⟩ : ∃ x, a1 + q1 = x := ⟨_, rfl⟩
    obtain ⟨q2, hq2⟩ : ∃ x, y / 100 = x := ⟨_, rfl⟩
    obtain ⟨a3, ha3⟩ : ∃ x, a2 - q2 = x := ⟨_, rfl⟩
    obtain ⟨q3, hq3⟩ : ∃ x, y / 400 = x := ⟨_, rfl⟩
    obtain ⟨a4, ha4⟩ : ∃ x, a3 + q3 = x := ⟨_, rfl⟩
    obtain ⟨b1, hb1⟩ : ∃ x, m - 3 = x := ⟨_, rfl⟩
    obtain ⟨b2, hb2⟩ : ∃ x, 153 * b1 = x := ⟨_, rfl⟩
    obtain ⟨b3, hb3⟩ : ∃ x, b2 + 2 = x := ⟨_, rfl⟩
    obtain ⟨b4, hb4⟩ : ∃ x, b3 / 5 = x := ⟨_, rfl⟩
    obtain ⟨a5, ha5⟩ : ∃ x, a4 + b4 = x := ⟨_, rfl⟩
    obtain ⟨a6, ha6⟩ : ∃ x, a5 + d = x := ⟨_, rfl⟩
    obtain ⟨a7, ha7⟩ : ∃ x, a6 - 719469 = x := ⟨_, rfl⟩
    have g1 : q2 + 473 ≤ q1 := by rw [← hq2, ← hq1]; exact y_gap (by omega)
    have ga : 719050 ≤ a1 := by omega
    have g2 : 719469 ≤ a4 := by omega
    have wa1 : IntKind.i64.wrap (365 * (y : Int)) = (a1 : Int) := wmul (a := 365) ha1 (by omega)
    have wq1 : IntKind.i64.wrap ((y : Int) / 4) = (q1 : Int) := wdiv (b := 4) hq1 (by omega)
    have wa2 : IntKind.i64.wrap ((a1 : Int) + (q1 : Int)) = (a2 : Int) := wadd ha2 (by omega)
    have wq2 : IntKind.i64.wrap ((y : Int) / 100) = (q2 : Int) := wdiv (b := 100) hq2 (by omega)
    have wa3 : IntKind.i64.wrap ((a2 : Int) - (q2 : Int)) = (a3 : Int) := wsub ha3 (by omega) (by omega)
    have wq3 : IntKind.i64.wrap ((y : Int) / 400) = (q3 : Int) := wdiv (b := 400) hq3 (by omega)
    have wa4 : IntKind.i64.wrap ((a3 : Int) + (q3 : Int)) = (a4 : Int) := wadd ha4 (by omega)
    have wb1 : IntKind.i64.wrap ((m : Int) - 3) = (b1 : Int) := wsub (b := 3) hb1 (by omega) (by omega)
    have wb2 : IntKind.i64.wrap (153 * (b1 : Int)) = (b2 : Int) := wmul (a := 153) hb2 (by omega)
    have wb3 : IntKind.i64.wrap ((b2 : Int) + 2) = (b3 : Int) := wadd (b := 2) hb3 (by omega)
    have wb4 : IntKind.i64.wrap ((b3 : Int) / 5) = (b4 : Int) := wdiv (b := 5) hb4 (by omega)
    have wa5 : IntKind.i64.wrap ((a4 : Int) + (b4 : Int)) = (a5 : Int) := wadd ha5 (by omega)
    have wa6 : IntKind.i64.wrap ((a5 : Int) + (d : Int)) = (a6 : Int) := wadd ha6 (by omega)
    have wa7 : IntKind.i64.wrap ((a6 : Int) - 719469) = (a7 : Int) := wsub (b := 719469) ha7 (by omega) (by omega)
    have e : daysN y m d = a7 := by unfold daysN; rw [if_neg c2, ha1, hq1, hq2, hq3, hb1, hb2, hb3, hb4, ha2, ha3, ha4, ha5, ha6, ha7]
    rw [e]
    simp -implicitDefEqProofs [c2', wa1, wq1, wa2, wq2, wa3, wq3, wa4, wb1, wb2, wb3, wb4, wa5, wa6, wa7]
    exact hW _
theorem c_weekday (n : Nat) (hn : n < 1000000000) : AOk Tryz.prog 92 [.sc (.int .i64 n)] H (.sc (.int .i64 ((n + 4) % 7 : Nat))) H := by
  refine ACalls.into Tryz.func92 rfl Tryz.ntmps92 Tryz.results92 (by simp) ?_
  obtain ⟨r, hr⟩ : ∃ r, n % 7 = r := ⟨_, rfl⟩
  obtain ⟨r', hr'⟩ : ∃ x, r + 11 = x := ⟨_, rfl⟩
  obtain ⟨q, hq⟩ : ∃ x, (n + 4) % 7 = x := ⟨_, rfl⟩
  rw [hq]
  have e1 : (n : Int).tmod 7 = (r : Int) := wmod (b := 7) hr
  have e2 : IntKind.i64.wrap ((r : Int) + 11) = (r' : Int) := wadd (b := 11) hr' (by omega)
  have e3 : (r' : Int).tmod 7 = (q : Int) := wmod (b := 7) (by omega)
  simp -implicitDefEqProofs [e1, e2, e3]
end Go.Proofs.YtmoncokklkiikaaGreatDoor
namespace Go.Proofs.YtmoncokklkiikaaGreatDoor
open Rg Go
variable {H : Heap}
set_option maxHeartbeats 2000000 in
theorem of_facts {n k era day : Nat} (hn : n < 157054) (hk : n + 719468 = k) (hera : k / 146097 = era) (hday : k % 146097 = day) :
    IntKind.i64.wrap ((n : Int) + 719468) = (k : Int) ∧ IntKind.i64.wrap ((k : Int) / 146097) = (era : Int) ∧ (k : Int).tmod 146097 = (day : Int) ∧ day < 146097 ∧ era ≤ 5 := by
  have hbk : k ≤ 876521 := by omega
  exact ⟨wadd (b := 719468) hk (by omega), wdiv (b := 146097) hera (by omega), wmod (b := 146097) hday, by omega, by omega⟩
theorem c_of {n : Nat} (hn : n < 157054) : AOk Tryz.prog 91 [.sc (.int .i64 n)] H (.tup [dAV (civ n).1 (civ n).2.1 (civ n).2.2, .sc (.int .i64 0)]) H := by
  have hok := civ_ok hn
  have c0 : (n : Int) < 157054 := by omega
  have c1 : ¬ (157054 : Int) ≤ n := by omega
  have c1' : ¬ 157054 ≤ n := by omega
  unfold civ
  simp only [mpN, doyN, yoeN, eraN, gD] at hok ⊢
  obtain ⟨k, hk⟩ : ∃ k, n + 719468 = k := ⟨_, rfl⟩
  simp only [hk] at hok ⊢
  obtain ⟨era, hera⟩ : ∃ x, k / 146097 = x := ⟨_, rfl⟩
  obtain ⟨day, hday⟩ : ∃ x, k % 146097 = x := ⟨_, rfl⟩
  simp only [hera, hday] at hok ⊢
  obtain ⟨q1, hq1⟩ : ∃ x, day / 1460 = x := ⟨_, rfl⟩
  obtain ⟨q2, hq2⟩ : ∃ x, day / 36524 = x := ⟨_, rfl⟩
  obtain ⟨q3, hq3⟩ : ∃ x, day / 146096 = x := ⟨_, rfl⟩
  simp only [hq1, hq2, hq3] at hok ⊢
  obtain ⟨a1, ha1⟩ : ∃ x, day - q1 = x := ⟨_, rfl⟩
  simp only [ha1] at hok ⊢
  obtain ⟨a2, ha2⟩ : ∃ x, a1 + q2 = x := ⟨_, rfl⟩
  simp only [ha2] at hok ⊢
  obtain ⟨a3, ha3⟩ : ∃ x, a2 - q3 = x := ⟨_, rfl⟩
  simp only [ha3] at hok ⊢
  obtain ⟨yr, hyr⟩ : ∃ x, a3 / 365 = x := ⟨_, rfl⟩
  simp only [hyr] at hok ⊢
  obtain ⟨q4, hq4⟩ : ∃ x, yr / 4 = x := ⟨_, rfl⟩
  obtain ⟨q5, hq5⟩ : ∃ x, yr / 100 = x := ⟨_, rfl⟩
  simp only [hq4, hq5] at hok ⊢
  obtain ⟨p1, hp1⟩ : ∃ x, 365 * yr = x := ⟨_, rfl⟩
  simp only [hp1] at hok ⊢
  obtain ⟨p2, hp2⟩ : ∃ x, p1 + q4 = x := ⟨_, rfl⟩
  simp only [hp2] at hok ⊢
  obtain ⟨p3, hp3⟩ : ∃ x, p2 - q5 = x := ⟨_, rfl⟩
  simp only [hp3] at hok ⊢
  obtain ⟨doy, hdoy⟩ : ∃ x, day - p3 = x := ⟨_, rfl⟩
  simp only [hdoy] at hok ⊢
  obtain ⟨r1, hr1⟩ : ∃ x, 5 * doy = x := ⟨_, rfl⟩
  simp only [hr1] at hok ⊢
  obtain ⟨r2, hr2⟩ : ∃ x, r1 + 2 = x := ⟨_, rfl⟩
  simp only [hr2] at hok ⊢
  obtain ⟨mp, hmp⟩ : ∃ x, r2 / 153 = x := ⟨_, rfl⟩
  simp only [hmp] at hok ⊢
  obtain ⟨e1, he1⟩ : ∃ x, era * 400 = x := ⟨_, rfl⟩
  simp only [he1] at hok ⊢
  obtain ⟨e2, he2⟩ : ∃ x, e1 + yr = x := ⟨_, rfl⟩
  simp only [he2] at hok ⊢
  obtain ⟨m3, hm3⟩ : ∃ x, mp + 3 = x := ⟨_, rfl⟩
  simp only [hm3] at hok ⊢
  obtain ⟨s1, hs1⟩ : ∃ x, 153 * mp = x := ⟨_, rfl⟩
  simp only [hs1] at hok ⊢
  obtain ⟨s2, hs2⟩ : ∃ x, s1 + 2 = x := ⟨_, rfl⟩
  simp only [hs2] at hok ⊢
  obtain ⟨s3, hs3⟩ : ∃ x, s2 / 5 = x := ⟨_, rfl⟩
  simp only [hs3] at hok ⊢
  obtain ⟨s4, hs4⟩ : ∃ x, doy - s3 = x := ⟨_, rfl⟩
  simp only [hs4] at hok ⊢
  obtain ⟨w1, w2, w3, hb1, hb2⟩ := of_facts hn hk hera hday
  clear hk hera hday hn
  have w4 : IntKind.i64.wrap ((day : Int) / 1460) = (q1 : Int) := wdiv (b := 1460) hq1 (by omega)
  have w5 : IntKind.i64.wrap ((day : Int) - (q1 : Int)) = (a1 : Int) := wsub ha1 (by omega) (by omega)
  have w6 : IntKind.i64.wrap ((day : Int) / 36524) = (q2 : Int) := wdiv (b := 36524) hq2 (by omega)
  have w7 : IntKind.i64.wrap ((a1 : Int) + (q2 : Int)) = (a2 : Int) := wadd ha2 (by omega)
  have w8 : IntKind.i64.wrap ((day : Int) / 146096) = (q3 : Int) := wdiv (b := 146096) hq3 (by omega)
  have w9 : IntKind.i64.wrap ((a2 : Int) - (q3 : Int)) = (a3 : Int) := wsub ha3 (by omega) (by omega)
  have hb3 : a3 ≤ 146500 := by omega
  clear hq1 hq2 hq3 ha1 ha2 ha3
  have w10 : IntKind.i64.wrap ((a3 : Int) / 365) = (yr : Int) := wdiv (b := 365) hyr (by omega)
  have hb4 : yr ≤ 500 := by omega
  clear hyr hb3
  have w11 : IntKind.i64.wrap (365 * (yr : Int)) = (p1 : Int) := wmul (a := 365) hp1 (by omega)
  have w12 : IntKind.i64.wrap ((yr : Int) / 4) = (q4 : Int) := wdiv (b := 4) hq4 (by omega)
  have w13 : IntKind.i64.wrap ((p1 : Int) + (q4 : Int)) = (p2 : Int) := wadd hp2 (by omega)
  have w14 : IntKind.i64.wrap ((yr : Int) / 100) = (q5 : Int) := wdiv (b := 100) hq5 (by omega)
  have w15 : IntKind.i64.wrap ((p2 : Int) - (q5 : Int)) = (p3 : Int) := wsub hp3 (by omega) (by omega)
  have w16 : IntKind.i64.wrap ((day : Int) - (p3 : Int)) = (doy : Int) := wsub hdoy hok.1 (by omega)
  have hb5 : doy ≤ 146097 := by omega
  clear hp1 hq4 hp2 hq5 hp3 hdoy
  have w17 : IntKind.i64.wrap (5 * (doy : Int)) = (r1 : Int) := wmul (a := 5) hr1 (by omega)
  have w18 : IntKind.i64.wrap ((r1 : Int) + 2) = (r2 : Int) := wadd (b := 2) hr2 (by omega)
  have w19 : IntKind.i64.wrap ((r2 : Int) / 153) = (mp : Int) := wdiv (b := 153) hmp (by omega)
  have hb6 : mp ≤ 5000 := by omega
  have w20 : IntKind.i64.wrap ((era : Int) * 400) = (e1 : Int) := wmul (b := 400) he1 (by omega)
  have w21 : IntKind.i64.wrap ((e1 : Int) + (yr : Int)) = (e2 : Int) := wadd he2 (by omega)
  have hb7 : e2 ≤ 5000 := by omega
  have w22 : IntKind.i64.wrap ((mp : Int) + 3) = (m3 : Int) := wadd (b := 3) hm3 (by omega)
  have w23 : IntKind.i64.wrap (153 * (mp : Int)) = (s1 : Int) := wmul (a := 153) hs1 (by omega)
  have w24 : IntKind.i64.wrap ((s1 : Int) + 2) = (s2 : Int) := wadd (b := 2) hs2 (by omega)
  have w25 : IntKind.i64.wrap ((s2 : Int) / 5) = (s3 : Int) := wdiv (b := 5) hs3 (by omega)
  have w26 : IntKind.i64.wrap ((doy : Int) - (s3 : Int)) = (s4 : Int) := wsub hs4 hok.2 (by omega)
  have w27 : IntKind.i64.wrap ((s4 : Int) + 1) = ((s4 + 1 : Nat) : Int) := wadd (b := 1) rfl (by omega)
  have hb8 : m3 ≤ 5003 := by omega
  clear hr1 hr2 hmp he1 he2 hm3 hs1 hs2 hs3 hs4 hok
  have w28 : IntKind.i64.wrap ((e2 : Int) + 1) = ((e2 + 1 : Nat) : Int) := wadd (b := 1) rfl (by omega)
  refine ACalls.into Tryz.func91 rfl Tryz.ntmps91 Tryz.results91 (by simp) ?_
  simp -implicitDefEqProofs
  refine AAlloc.intro fun b2 h2 => ?_
  simp -implicitDefEqProofs [c1, w1, w2, w3, w4, w5, w6, w7, w8, w9, w10, w11, w12, w13, w14, w15, w16, w17, w18, w19, w20, w21, w22, w23, w24, w25, w26, w27]
  refine AAlloc.intro fun b8 h8 => ?_
  have n82 : b8 ≠ b2 := by intro e; subst e; simp [Heap.set] at h8
  have n28 := n82.symm
  have e8 : H b8 = none := (HLe.set_fresh h2).none h8
  by_cases c12 : 12 < m3
  · have c12' : (12 : Int) < m3 := by omega
    have w29 : IntKind.i64.wrap ((m3 : Int) - 12) = ((m3 - 12 : Nat) : Int) := wsub (b := 12) rfl (by omega) (by omega)
    simp -implicitDefEqProofs [c12, c12', n28, w28, w29]
    repeat (first | exact HWk.refl _ | refine HWk.new (by assumption) ?_)
  · have c12' : ¬ (12 : Int) < m3 := by omega
    simp -implicitDefEqProofs [c12, c12', n28]
    repeat (first | exact HWk.refl _ | refine HWk.new (by assumption) ?_)
end Go.Proofs.YtmoncokklkiikaaGreatDoor
namespace Go.Proofs.YtmoncokklkiikaaGreatDoor
open Rg Go
variable {H : Heap}
def clk (t : Nat) : Clk := ⟨((civ (t / 86400)).1 : Nat), ((civ (t / 86400)).2.1 : Nat), ((civ (t / 86400)).2.2 : Nat), ((t % 86400 / 3600 : Nat) : Int), ((t % 3600 / 60 : Nat) : Int), ((t % 60 : Nat) : Int), (((t / 86400 + 4) % 7 : Nat) : Int)⟩
def wdayC (c : Clk) : Int := (((daysN c.y.toNat c.m.toNat c.d.toNat + 4) % 7 : Nat) : Int)
def mayC (c : Clk) : Bool := decide (0 ≤ c.h) && decide (c.h ≤ 23) && decide (0 ≤ c.mi) && decide (c.mi ≤ 59) && decide (0 ≤ c.s) && decide (c.s ≤ 59) && mayD c.y c.m c.d && decide (c.w = wdayC c)
theorem c_is_s (t : Int) : AOk Tryz.prog 90 [.sc (.int .i64 t)] H (.sc (.bool (decide (0 ≤ t) && decide (t < 13569465600)))) H := by
  refine ACalls.into Tryz.func90 rfl Tryz.ntmps90 Tryz.results90 (by simp) ?_
  by_cases h : 0 ≤ t <;> simp -implicitDefEqProofs [h]
theorem c_split_s {t : Nat} (ht : t < 13569465600) : AOk Tryz.prog 23 [.sc (.int .i64 t)] H (.tup [cAV (clk t), .sc (.int .i64 0)]) H := by
  have e : (decide (0 ≤ (t : Int)) && decide ((t : Int) < 13569465600)) = true := by simp; omega
  obtain ⟨n, hn⟩ : ∃ x, t / 86400 = x := ⟨_, rfl⟩
  obtain ⟨s, hs⟩ : ∃ x, t % 86400 = x := ⟨_, rfl⟩
  obtain ⟨h, hh⟩ : ∃ x, s / 3600 = x := ⟨_, rfl⟩
  obtain ⟨s2, hs2⟩ : ∃ x, s % 3600 = x := ⟨_, rfl⟩
  obtain ⟨m, hm⟩ : ∃ x, s2 / 60 = x := ⟨_, rfl⟩
  obtain ⟨s3, hs3⟩ : ∃ x, s % 60 = x := ⟨_, rfl⟩
  have hn2 : n < 157054 := by omega
  have e1 : t % 3600 / 60 = m := by omega
  have e2 : t % 60 = s3 := by omega
  have w1 : IntKind.i64.wrap ((t : Int) / 86400) = (n : Int) := wdiv (b := 86400) hn (by omega)
  have w2 : (t : Int).tmod 86400 = (s : Int) := wmod (b := 86400) hs
  have w3 : IntKind.i64.wrap ((s : Int) / 3600) = (h : Int) := wdiv (b := 3600) hh (by omega)
  have w4 : (s : Int).tmod 3600 = (s2 : Int) := wmod (b := 3600) hs2
  have w5 : IntKind.i64.wrap ((s2 : Int) / 60) = (m : Int) := wdiv (b := 60) hm (by omega)
  have w6 : (s : Int).tmod 60 = (s3 : Int) := wmod (b := 60) hs3
  have wn : IntKind.i64.wrap (n : Int) = (n : Int) := wrap_i64 (by omega) (by omega)
  have ws : IntKind.i64.wrap (s : Int) = (s : Int) := wrap_i64 (by omega) (by omega)
  unfold clk
  rw [hn, hs, hh, e1, e2]
  refine ACalls.into Tryz.func23 rfl Tryz.ntmps23 Tryz.results23 (by simp) ?_
  simp -implicitDefEqProofs
  refine AAlloc.intro fun b2 h2 => ?_
  simp -implicitDefEqProofs
  refine ACall.eq (c_is_s t) ?_
  rw [e]
  simp -implicitDefEqProofs [w1, w2]
  refine ACall.eq (c_of hn2) ?_
  simp -implicitDefEqProofs
  refine AAlloc.intro fun b6 h6 => ?_
  have n62 : b6 ≠ b2 := by intro e; subst e; simp [Heap.set] at h6
  have n26 := n62.symm
  have e6 : H b6 = none := (HLe.set_fresh h2).none h6
  simp -implicitDefEqProofs
  refine go_draw 11 f_mixed (by decide +kernel) ?_
  simp -implicitDefEqProofs [w3, w4, w5, w6]
  refine AQS.eq (c_weekday n (by omega)) ?_
  simp -implicitDefEqProofs [n26]
  repeat (first | exact HWk.refl _ | refine HWk.new (by assumption) ?_)
def momC (y m d h mi s : Nat) : Nat := daysN y m d * 86400 + h * 3600 + mi * 60 + s
theorem c_moment {y m d h mi s : Nat} {w : Int} (hd : mayD (y : Int) (m : Int) (d : Int) = true) (hh : h ≤ 23) (hm : mi ≤ 59) (hs : s ≤ 59) :
    AOk Tryz.prog 153 [cAV ⟨y, m, d, h, mi, s, w⟩] H (.sc (.int .i64 (momC y m d h mi s))) H := by
  have hlt : daysN y m d < 157054 := by
    obtain ⟨i, dd, hi, hdd, h1, h2, h3⟩ := mayD_in hd
    have e : daysN y m d = mFirst i + dd := by rw [← days_of i dd]; congr 1 <;> omega
    have h4 := mFirst_mono (i := i + 1) (j := 5160) (by omega) (Nat.le_refl _)
    rw [mFirst_succ hi, mFirst_end] at h4
    omega
  obtain ⟨n, hn⟩ : ∃ x, daysN y m d = x := ⟨_, rfl⟩
  unfold momC
  rw [hn] at hlt ⊢
  obtain ⟨a1, ha1⟩ : ∃ x, n * 86400 = x := ⟨_, rfl⟩
  obtain ⟨a2, ha2⟩ : ∃ x, h * 3600 = x := ⟨_, rfl⟩
  obtain ⟨a3, ha3⟩ : ∃ x, a1 + a2 = x := ⟨_, rfl⟩
  obtain ⟨a4, ha4⟩ : ∃ x, mi * 60 = x := ⟨_, rfl⟩
  obtain ⟨a5, ha5⟩ : ∃ x, a3 + a4 = x := ⟨_, rfl⟩
  obtain ⟨a6, ha6⟩ : ∃ x, a5 + s = x := ⟨_, rfl⟩
  have w1 : IntKind.i64.wrap ((n : Int) * 86400) = (a1 : Int) := wmul (b := 86400) ha1 (by omega)
  have w2 : IntKind.i64.wrap ((h : Int) * 3600) = (a2 : Int) := wmul (b := 3600) ha2 (by omega)
  have w3 : IntKind.i64.wrap ((a1 : Int) + (a2 : Int)) = (a3 : Int) := wadd ha3 (by omega)
  have w4 : IntKind.i64.wrap ((mi : Int) * 60) = (a4 : Int) := wmul (b := 60) ha4 (by omega)
  have w5 : IntKind.i64.wrap ((a3 : Int) + (a4 : Int)) = (a5 : Int) := wadd ha5 (by omega)
  have w6 : IntKind.i64.wrap ((a5 : Int) + (s : Int)) = (a6 : Int) := wadd ha6 (by omega)
  have wn : IntKind.i64.wrap (n : Int) = (n : Int) := wrap_i64 (by omega) (by omega)
  have wh : IntKind.i64.wrap (h : Int) = (h : Int) := wrap_i64 (by omega) (by omega)
  have wm : IntKind.i64.wrap (mi : Int) = (mi : Int) := wrap_i64 (by omega) (by omega)
  have ws : IntKind.i64.wrap (s : Int) = (s : Int) := wrap_i64 (by omega) (by omega)
  rw [ha1, ha2, ha3, ha4, ha5, ha6]
  refine ACalls.into Tryz.func153 rfl Tryz.ntmps153 Tryz.results153 (by simp) ?_
  simp -implicitDefEqProofs
  refine AAlloc.intro fun b hb => ?_
  simp -implicitDefEqProofs
  refine ACall.eq (v := .tup [.sc (.int .i64 n), .sc (.int .i64 0)]) (by rw [← hn]; exact c_days hd) ?_
  simp -implicitDefEqProofs [w1, w2, w3, w4, w5, w6]
  exact HWk.new hb (HWk.refl _)
theorem clk_mom {y m d h mi s : Nat} (hd : mayD (y : Int) (m : Int) (d : Int) = true) (hh : h ≤ 23) (hm : mi ≤ 59) (hs : s ≤ 59) :
    momC y m d h mi s < 13569465600 ∧ clk (momC y m d h mi s) = ⟨y, m, d, h, mi, s, (((daysN y m d + 4) % 7 : Nat) : Int)⟩ := by
  obtain ⟨i, dd, hi, hdd, h1, h2, h3⟩ := mayD_in hd
  have e : daysN y m d = mFirst i + dd := by rw [← days_of i dd]; congr 1 <;> omega
  have h4 := mFirst_mono (i := i + 1) (j := 5160) (by omega) (Nat.le_refl _)
  rw [mFirst_succ hi, mFirst_end] at h4
  have hc := civ_at hi hdd
  rw [← e] at hc
  unfold momC
  obtain ⟨n, hn⟩ : ∃ x, daysN y m d = x := ⟨_, rfl⟩
  rw [hn] at e hc ⊢
  have q1 : (n * 86400 + h * 3600 + mi * 60 + s) / 86400 = n := by omega
  have q2 : (n * 86400 + h * 3600 + mi * 60 + s) % 86400 / 3600 = h := by omega
  have q3 : (n * 86400 + h * 3600 + mi * 60 + s) % 3600 / 60 = mi := by omega
  have q4 : (n * 86400 + h * 3600 + mi * 60 + s) % 60 = s := by omega
  refine ⟨by omega, ?_⟩
  unfold clk
  rw [q1, q2, q3, q4, hc]
  simp only [Clk.mk.injEq, and_true]
  omega
theorem c_smay (c : Clk) : AOk Tryz.prog 144 [cAV c] H (.sc (.bool (mayC c))) H := by
  obtain ⟨y, m, d, h, mi, s, w⟩ := c
  refine ACalls.into Tryz.func144 rfl Tryz.ntmps144 Tryz.results144 (by simp) ?_
  simp -implicitDefEqProofs
  refine AAlloc.intro fun b hb => ?_
  have hW : ∀ o, HWk H (H.set b o) := fun o => HWk.new hb (HWk.refl _)
  unfold mayC
  simp only
  by_cases y1 : y < 1970
  · have e : mayD y m d = false := by simp [mayD]; omega
    simp -implicitDefEqProofs [y1, e]
    exact hW _
  · by_cases h1 : h < 0
    · have e : ¬ 0 ≤ h := by omega
      simp -implicitDefEqProofs [y1, h1, e]
      exact hW _
    · by_cases h2 : 23 < h
      · have e : ¬ h ≤ 23 := by omega
        simp -implicitDefEqProofs [y1, h1, h2, e]
        exact hW _
      · by_cases m1 : mi < 0
        · have e : ¬ 0 ≤ mi := by omega
          simp -implicitDefEqProofs [y1, h1, h2, m1, e]
          exact hW _
        · by_cases m2 : 59 < mi
          · have e : ¬ mi ≤ 59 := by omega
            simp -implicitDefEqProofs [y1, h1, h2, m1, m2, e]
            exact hW _
          · by_cases s1 : s < 0
            · have e : ¬ 0 ≤ s := by omega
              simp -implicitDefEqProofs [y1, h1, h2, m1, m2, s1, e]
              exact hW _
            · by_cases s2 : 59 < s
              · have e : ¬ s ≤ 59 := by omega
                simp -implicitDefEqProofs [y1, h1, h2, m1, m2, s1, s2, e]
                exact hW _
              · simp -implicitDefEqProofs [y1, h1, h2, m1, m2, s1, s2]
                refine ACall.eq (c_cmay y m d) ?_
                cases hd : mayD y m d with
                | false =>
                  simp -implicitDefEqProofs
                  exact hW _
                | true =>
                  simp -implicitDefEqProofs
                  obtain ⟨i, dd, hi, hdd, e1, e2, e3⟩ := mayD_in hd
                  generalize 1970 + i / 12 = Y at e1
                  generalize i % 12 + 1 = M at e2
                  generalize dd + 1 = D at e3
                  subst e1 e2 e3
                  obtain ⟨h, rfl⟩ := Int.eq_ofNat_of_zero_le (a := h) (by omega)
                  obtain ⟨mi, rfl⟩ := Int.eq_ofNat_of_zero_le (a := mi) (by omega)
                  obtain ⟨s, rfl⟩ := Int.eq_ofNat_of_zero_le (a := s) (by omega)
                  obtain ⟨hlt, hclk⟩ := clk_mom (h := h) (mi := mi) (s := s) hd (by omega) (by omega) (by omega)
                  refine ACall.eq (c_moment hd (by omega) (by omega) (by omega)) ?_
                  simp -implicitDefEqProofs
                  refine ACall.eq (c_split_s hlt) ?_
                  rw [hclk]
                  simp -implicitDefEqProofs
                  refine AAlloc.intro fun b3 h3 => ?_
                  have n31 : b3 ≠ b := by intro e; subst e; simp [Heap.set] at h3
                  have n13 := n31.symm
                  have e3 : H b3 = none := (HLe.set_fresh hb).none h3
                  simp -implicitDefEqProofs [n13]
                  refine ⟨?_, by repeat (first | exact HWk.refl _ | refine HWk.new (by assumption) ?_)⟩
                  have b1 : (h : Int) ≤ 23 := by omega
                  have b2 : (mi : Int) ≤ 59 := by omega
                  have b3' : (s : Int) ≤ 59 := by omega
                  have ew : wdayC ⟨Y, M, D, h, mi, s, w⟩ = (((daysN Y M D + 4) % 7 : Nat) : Int) := rfl
                  have e7 : ((daysN Y M D : Int) + 4) % 7 = (((daysN Y M D + 4) % 7 : Nat) : Int) := by push_cast; rfl
                  rw [ew, e7, Bool.eq_iff_iff]
                  generalize (((daysN Y M D + 4) % 7 : Nat) : Int) = z
                  simp only [b1, b2, b3', decide_true, Bool.true_and, beq_iff_eq, decide_eq_true_eq]
                  exact eq_comm
end Go.Proofs.YtmoncokklkiikaaGreatDoor
