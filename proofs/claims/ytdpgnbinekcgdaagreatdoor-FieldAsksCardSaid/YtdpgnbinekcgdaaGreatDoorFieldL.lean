/- Fields: plain laws of what a text's items allow. -/
import Derived.Test.YtdpgnbinekcgdaaGreatDoorSp
namespace Go.Proofs.YtdpgnbinekcgdaaGreatDoor
open Rg Go

/-! ### Items one behind the other -/
def firstErr (k : Int) : List (List UInt8) → Int
  | [] => 0
  | x :: r => if (itemK k x).2 ≠ 0 then (itemK k x).2 else firstErr k r
def orAll (k : Int) : List (List UInt8) → Nat
  | [] => 0
  | x :: r => (itemK k x).1 ||| orAll k r

theorem parseGo_eq (k : Int) : ∀ (L : List (List UInt8)) (f : Fld), parseGo k L f = if firstErr k L ≠ 0 then (⟨0, false⟩, firstErr k L) else (⟨f.bits ||| orAll k L, f.star⟩, 0)
  | [], f => by simp [parseGo, firstErr, orAll]
  | x :: r, f => by
    unfold parseGo firstErr orAll
    by_cases h : (itemK k x).2 = 0
    · rw [if_neg (by simp [h]), parseGo_eq k r]
      simp only [h, ne_eq, not_true_eq_false, if_false, Nat.or_assoc]
    · simp [h]
theorem firstErr_app (k : Int) : ∀ A B : List (List UInt8), firstErr k (A ++ B) = if firstErr k A ≠ 0 then firstErr k A else firstErr k B
  | [], B => by simp [firstErr]
  | x :: A, B => by
    simp only [List.cons_append, firstErr, firstErr_app k A B]
    by_cases h : (itemK k x).2 = 0 <;> simp [h]
theorem orAll_app (k : Int) : ∀ A B : List (List UInt8), orAll k (A ++ B) = orAll k A ||| orAll k B
  | [], B => by simp [orAll]
  | x :: A, B => by simp only [List.cons_append, orAll, orAll_app k A B, Nat.or_assoc]

theorem parse_eq {k : Int} (hk : isK k = true) {s : List UInt8} (hs : s.length ≤ 150) :
    parseK k s = if firstErr k (sp 44 s) ≠ 0 then (⟨0, false⟩, firstErr k (sp 44 s)) else (⟨orAll k (sp 44 s), Lib.hasPrefix s [42]⟩, 0) := by
  unfold parseK
  rw [if_neg (by simp [hk]), if_neg (by omega), parseGo_eq, split_sp]
  simp

theorem prefix_app (s t : List UInt8) : Lib.hasPrefix (s ++ 44 :: t) [42] = Lib.hasPrefix s [42] := by
  cases s <;> simp [Lib.hasPrefix, List.isPrefixOf]

theorem hasB_nat2 (b k : Nat) (hk : k ≤ 63) : hasB b (k : Int) = b.testBit k := by
  simp [hasB]; omega

/-! ### What an item allows -/
theorem testBit_pow2 (i j : Nat) : (pow2 i).testBit j = decide (i = j) := by
  unfold pow2
  rw [Nat.testBit_two_pow]
theorem setFrom_mono {m step : Nat} {last : Int} : ∀ (f n set j : Nat), set.testBit j = true → (setFrom m step last f n set).testBit j = true
  | 0, n, set, j, h => h
  | f + 1, n, set, j, h => by
    unfold setFrom
    split
    · exact setFrom_mono f _ _ j (by rw [Nat.testBit_or, h]; rfl)
    · exact h
theorem setFrom_first {m step : Nat} {last : Int} (f n set : Nat) (h : (n : Int) ≤ last) : (setFrom m step last (f + 1) n set).testBit (n % m) = true := by
  unfold setFrom
  rw [if_pos h]
  refine setFrom_mono f _ _ _ ?_
  rw [Nat.testBit_or, testBit_pow2]
  simp [modN]
theorem setFrom_sub {m step : Nat} {last : Int} : ∀ (f n set j : Nat), (setFrom m step last f n set).testBit j = true → set.testBit j = true ∨ ∃ i, n ≤ i ∧ (i : Int) ≤ last ∧ j = i % m
  | 0, n, set, j, h => .inl h
  | f + 1, n, set, j, h => by
    unfold setFrom at h
    split at h
    · rename_i hn
      rcases setFrom_sub f _ _ j h with h | ⟨i, h1, h2, h3⟩
      · rw [Nat.testBit_or, testBit_pow2] at h
        simp only [Bool.or_eq_true, decide_eq_true_eq] at h
        rcases h with h | h
        · exact .inl h
        · exact .inr ⟨n, Nat.le_refl _, hn, h.symm⟩
      · exact .inr ⟨i, by omega, h2, h3⟩
    · exact .inl h
/-- With steps of one: all between. -/
theorem setFrom_one {m : Nat} {last : Int} (hl : last < m) : ∀ (f n set j : Nat), last < (n : Int) + f → (setFrom m 1 last f n set).testBit j = (set.testBit j || (decide (n ≤ j) && decide ((j : Int) ≤ last)))
  | 0, n, set, j, h => by
    have : ¬ (n ≤ j ∧ (j : Int) ≤ last) := by omega
    unfold setFrom
    by_cases h1 : n ≤ j <;> by_cases h2 : (j : Int) ≤ last <;> simp [h1, h2] <;> omega
  | f + 1, n, set, j, h => by
    unfold setFrom
    split
    · rename_i hn
      rw [setFrom_one hl f _ _ _ (by push_cast; omega), Nat.testBit_or, testBit_pow2]
      have e : modN n m = n := Nat.mod_eq_of_lt (by omega)
      rw [e]
      cases set.testBit j
      · by_cases h1 : n = j
        · subst h1; simp; omega
        · by_cases h2 : n ≤ j
          · have : n + 1 ≤ j := by omega
            simp [h1, h2, this]
          · have : ¬ n + 1 ≤ j := by omega
            simp [h1, h2, this]
      · simp
    · rename_i hn
      have : ¬ (n ≤ j ∧ (j : Int) ≤ last) := by omega
      by_cases h1 : n ≤ j <;> by_cases h2 : (j : Int) ≤ last <;> simp [h1, h2] <;> omega

/-- An item that is one: a row of numbers that may be. -/
theorem body_ok {k : Int} (hk : isK k = true) {b : List UInt8} {st : Bool} {step : Int} (h : (bodyK k b st step).2 = 0) :
    ∃ first last : Nat, lowK k ≤ (first : Int) ∧ first ≤ last ∧ (last : Int) ≤ highK k ∧ (bodyK k b st step).1 = setFrom (mostK k + 1).toNat step.toNat last 200 first 0 := by
  have hb := bounds_le hk
  have fin : ∀ first last e : Int, (e = 0 → lowK k ≤ first ∧ last ≤ highK k) → (finK k first last step e).2 = 0 → ∃ f l : Nat, lowK k ≤ (f : Int) ∧ f ≤ l ∧ (l : Int) ≤ highK k ∧ (finK k first last step e).1 = setFrom (mostK k + 1).toNat step.toNat l 200 f 0 := by
    intro first last e he h
    unfold finK at h ⊢
    by_cases h0 : e = 0
    · rw [if_neg (by simp [h0])] at h ⊢
      obtain ⟨h1, h2⟩ := he h0
      by_cases h3 : last < first ∨ step < 1 ∨ 59 < step
      · rw [if_pos h3] at h; cases h
      · rw [if_neg h3] at h ⊢
        refine ⟨first.toNat, last.toNat, by omega, by omega, by omega, ?_⟩
        rw [Int.toNat_of_nonneg (a := last) (by omega)]
    · rw [if_pos h0] at h; exact absurd h h0
  unfold bodyK at h ⊢
  by_cases h1 : b = [42]
  · rw [if_pos h1] at h ⊢
    exact fin _ _ _ (fun _ => by omega) h
  · rw [if_neg h1] at h ⊢
    by_cases h2 : st = true ∧ (Lib.cut b [45]).2.2 = false
    · rw [if_pos h2] at h; cases h
    · rw [if_neg h2] at h ⊢
      by_cases h3 : (Lib.cut b [45]).2.2 = true
      · rw [if_pos h3] at h ⊢
        refine fin _ _ _ (fun h0 => ?_) h
        obtain ⟨h0, _, t1, t2⟩ := takeE_zero h0
        obtain ⟨_, _, t3, t4⟩ := takeE_zero h0
        omega
      · rw [if_neg h3] at h ⊢
        refine fin _ _ _ (fun h0 => ?_) h
        obtain ⟨h0, _, t1, t2⟩ := takeE_zero h0
        omega

theorem all_bits {k : Int} (hk : isK k = true) : ∀ j, j < 64 → ((18446744073709551615 - allK k).testBit j = true → ¬ (lowK k ≤ (j : Int) ∧ (j : Int) ≤ mostK k)) ∧ ((allK k).testBit j = (decide (lowK k ≤ (j : Int)) && decide ((j : Int) ≤ mostK k))) := by
  rcases isK_cases hk with rfl | rfl | rfl | rfl | rfl <;> decide +kernel
theorem mod_in {k : Int} (hk : isK k = true) {i : Nat} (h1 : lowK k ≤ (i : Int)) (h2 : (i : Int) ≤ highK k) : lowK k ≤ ((i % (mostK k + 1).toNat : Nat) : Int) ∧ ((i % (mostK k + 1).toNat : Nat) : Int) ≤ mostK k := by
  rcases isK_cases hk with rfl | rfl | rfl | rfl | rfl <;> simp [lowK, highK, mostK] at * <;> omega

theorem item_ok {k : Int} (hk : isK k = true) {x : List UInt8} (h : (itemK k x).2 = 0) : (itemK k x).1 ≠ 0 ∧ ∀ j, (itemK k x).1.testBit j = true → lowK k ≤ (j : Int) ∧ (j : Int) ≤ mostK k := by
  have key : ∀ b st step, (bodyK k b st step).2 = 0 → (bodyK k b st step).1 ≠ 0 ∧ ∀ j, (bodyK k b st step).1.testBit j = true → lowK k ≤ (j : Int) ∧ (j : Int) ≤ mostK k := by
    intro b st step hb
    obtain ⟨f, l, h1, h2, h3, h4⟩ := body_ok hk hb
    rw [h4]
    constructor
    · intro h0
      have := setFrom_first (m := (mostK k + 1).toNat) (step := step.toNat) (last := l) 199 f 0 (by omega)
      rw [show 199 + 1 = 200 from rfl, h0] at this
      simp at this
    · intro j hj
      rcases setFrom_sub _ _ _ _ hj with hj | ⟨i, i1, i2, rfl⟩
      · simp at hj
      · exact mod_in hk (by omega) (by omega)
  unfold itemK at h ⊢
  by_cases h1 : (Lib.cut x [47]).2.2 = true
  · rw [if_pos h1] at h ⊢
    by_cases h2 : (numK 0 (Lib.cut x [47]).2.1).2 = false
    · rw [if_pos h2] at h; cases h
    · rw [if_neg h2] at h ⊢; exact key _ _ _ h
  · rw [if_neg h1] at h ⊢; exact key _ _ _ h

theorem orAll_ok {k : Int} (hk : isK k = true) : ∀ {L : List (List UInt8)}, firstErr k L = 0 → (L ≠ [] → orAll k L ≠ 0) ∧ ∀ j, (orAll k L).testBit j = true → lowK k ≤ (j : Int) ∧ (j : Int) ≤ mostK k
  | [], _ => ⟨fun h => absurd rfl h, fun j h => by simp [orAll] at h⟩
  | x :: r, h => by
    have hx : (itemK k x).2 = 0 := by
      unfold firstErr at h
      by_cases h0 : (itemK k x).2 = 0
      · exact h0
      · rw [if_pos h0] at h; exact h
    have hr : firstErr k r = 0 := by unfold firstErr at h; rw [if_neg (by simp [hx])] at h; exact h
    obtain ⟨i1, i2⟩ := item_ok hk hx
    obtain ⟨_, r2⟩ := orAll_ok hk hr
    refine ⟨fun _ h0 => ?_, fun j hj => ?_⟩
    · unfold orAll at h0
      exact i1 (Nat.or_eq_zero_iff.1 h0).1
    · unfold orAll at hj
      rw [Nat.testBit_or, Bool.or_eq_true] at hj
      rcases hj with hj | hj
      · exact i2 j hj
      · exact r2 j hj
theorem may_of {k : Int} (hk : isK k = true) {b : Nat} (h0 : b ≠ 0) (h : ∀ j, b.testBit j = true → lowK k ≤ (j : Int) ∧ (j : Int) ≤ mostK k) : mayB k b = true := by
  have hb := bounds_le hk
  have hz : b &&& (18446744073709551615 - allK k) = 0 := by
    apply Nat.eq_of_testBit_eq
    intro j
    rw [Nat.testBit_and, Nat.zero_testBit]
    cases hj : b.testBit j with
    | false => rfl
    | true =>
      have h1 := h j hj
      cases h2 : (18446744073709551615 - allK k).testBit j with
      | false => rfl
      | true => exact absurd h1 ((all_bits hk j (by omega)).1 h2)
  simp [mayB, hk, h0, hz]
end Go.Proofs.YtdpgnbinekcgdaaGreatDoor
