/- Firings, in plain words: the last one up to a moment, the next one behind it, all of a time; a day's date from its neighbour's. -/
import Derived.Test.YtdpgnbinekcgdaaGreatDoorCron
namespace Go.Proofs.YtdpgnbinekcgdaaGreatDoor
open Rg Go

theorem mayC_clk {t : Nat} (h : t < 13569465600) : mayC (clk t) = true := by
  obtain ⟨i, d, hi, hd, hn⟩ := day_of (n := t / 86400) (by omega)
  have hc := civ_at hi hd
  rw [← hn] at hc
  unfold mayC wdayC clk
  rw [hc]
  simp only [Int.toNat_natCast, days_of, ← hn, mayD_of hi hd, Bool.and_eq_true, decide_eq_true_eq, and_true]
  omega
/-- Does a day fit, by its number? -/
def dayB (x : Ex) (n : Nat) : Bool :=
  hasB x.d.bits (civ n).2.1 && (if x.c.star = true ∨ x.e.star = true then hasB x.c.bits (civ n).2.2 && hasB x.e.bits ((n + 4) % 7 : Nat) else hasB x.c.bits (civ n).2.2 || hasB x.e.bits ((n + 4) % 7 : Nat))
theorem day_clk (x : Ex) {t : Nat} (h : t < 13569465600) : dayFitsX x (clk t) = (mayX x && dayB x (t / 86400)) := by
  unfold dayFitsX dayB
  rw [mayC_clk h, Bool.and_true, Bool.and_assoc]
  rfl
theorem day_n (x : Ex) {n : Nat} (h : n < 157054) : dayFitsX x (clk (n * 86400)) = (mayX x && dayB x n) := by
  rw [day_clk x (by omega)]
  congr 2
  omega
/-- Is a moment a firing? -/
def fireB (x : Ex) (t : Nat) : Bool := decide (t % 60 = 0) && fitsX x (clk t)
theorem fire_eq (x : Ex) {t : Nat} (h : t < 13569465600) : fireB x t = true ↔ t % 60 = 0 ∧ mayX x = true ∧ dayB x (t / 86400) = true ∧ hasB x.a.bits (t % 3600 / 60 : Nat) = true ∧ hasB x.b.bits (t % 86400 / 3600 : Nat) = true := by
  unfold fireB fitsX
  rw [day_clk x h]
  simp only [Bool.and_eq_true, decide_eq_true_eq, and_assoc]
  rfl
/-- A day's minute. -/
theorem fire_mk {x : Ex} {n h m : Nat} (hn : n < 157054) (hh : h < 24) (hm : m < 60) (hx : mayX x = true) (hd : dayB x n = true) (ha : hasB x.a.bits (m : Int) = true) (hb : hasB x.b.bits (h : Int) = true) : fireB x (n * 86400 + h * 3600 + m * 60) = true := by
  rw [fire_eq x (by omega)]
  rw [show (n * 86400 + h * 3600 + m * 60) / 86400 = n by omega, show (n * 86400 + h * 3600 + m * 60) % 3600 / 60 = m by omega, show (n * 86400 + h * 3600 + m * 60) % 86400 / 3600 = h by omega]
  exact ⟨by omega, hx, hd, ha, hb⟩
theorem fire_inv {x : Ex} {t : Nat} (h : t < 13569465600) (hf : fireB x t = true) : ∃ n h m : Nat, n < 157054 ∧ h < 24 ∧ m < 60 ∧ t = n * 86400 + h * 3600 + m * 60 ∧ mayX x = true ∧ dayB x n = true ∧ hasB x.a.bits (m : Int) = true ∧ hasB x.b.bits (h : Int) = true := by
  obtain ⟨h0, h1, h2, h3, h4⟩ := (fire_eq x h).1 hf
  exact ⟨t / 86400, t % 86400 / 3600, t % 3600 / 60, by omega, by omega, by omega, by omega, h1, h2, h3, h4⟩

/-! ### The last one, the next one -/
def IsLast (x : Ex) (t : Nat) : Option Nat → Prop
  | some n => n ≤ t ∧ fireB x n = true ∧ ∀ k, n < k → k ≤ t → fireB x k = false
  | none => ∀ k, k ≤ t → fireB x k = false
def IsNext (x : Ex) (t : Nat) : Option Nat → Prop
  | some n => t < n ∧ n < 13569465600 ∧ fireB x n = true ∧ ∀ k, t < k → k < n → fireB x k = false
  | none => ∀ k, t < k → k < 13569465600 → fireB x k = false
theorem last_one {x : Ex} {t : Nat} : ∀ {r s : Option Nat}, IsLast x t r → IsLast x t s → r = s
  | none, none, _, _ => rfl
  | none, some m, hr, ⟨h1, h2, _⟩ => by have := hr m h1; rw [h2] at this; cases this
  | some m, none, ⟨h1, h2, _⟩, hs => by have := hs m h1; rw [h2] at this; cases this
  | some m, some n, ⟨h1, h2, h3⟩, ⟨g1, g2, g3⟩ => by
    rcases Nat.lt_trichotomy m n with h | h | h
    · have := h3 n h g1; rw [g2] at this; cases this
    · rw [h]
    · have := g3 m h h1; rw [h2] at this; cases this
theorem next_one {x : Ex} {t : Nat} : ∀ {r s : Option Nat}, IsNext x t r → IsNext x t s → r = s
  | none, none, _, _ => rfl
  | none, some m, hr, ⟨h1, h0, h2, _⟩ => by have := hr m h1 h0; rw [h2] at this; cases this
  | some m, none, ⟨h1, h0, h2, _⟩, hs => by have := hs m h1 h0; rw [h2] at this; cases this
  | some m, some n, ⟨h1, h0, h2, h3⟩, ⟨g1, g0, g2, g3⟩ => by
    rcases Nat.lt_trichotomy m n with h | h | h
    · have := g3 m h1 h; rw [h2] at this; cases this
    · rw [h]
    · have := h3 n g1 h; rw [g2] at this; cases this
theorem last_ex (x : Ex) : ∀ t : Nat, ∃ r, IsLast x t r
  | 0 => by
    cases h : fireB x 0 with
    | true => exact ⟨some 0, Nat.le_refl _, h, fun k h1 h2 => by omega⟩
    | false => exact ⟨none, fun k hk => by rw [show k = 0 by omega]; exact h⟩
  | t + 1 => by
    cases h : fireB x (t + 1) with
    | true => exact ⟨some (t + 1), Nat.le_refl _, h, fun k h1 h2 => by omega⟩
    | false =>
      have up : ∀ k, k ≤ t + 1 → (k ≤ t → fireB x k = false) → fireB x k = false := fun k hk h1 => by
        by_cases e : k = t + 1
        · rw [e]; exact h
        · exact h1 (by omega)
      obtain ⟨r, hr⟩ := last_ex x t
      match r, hr with
      | none, hr => exact ⟨none, fun k hk => up k hk (hr k)⟩
      | some n, ⟨h1, h2, h3⟩ => exact ⟨some n, by omega, h2, fun k g1 g2 => up k g2 (h3 k g1)⟩
theorem first_ex (P : Nat → Bool) (t : Nat) : ∀ m : Nat, (∃ n, t < n ∧ n < m ∧ P n = true ∧ ∀ k, t < k → k < n → P k = false) ∨ ∀ k, t < k → k < m → P k = false
  | 0 => .inr fun k _ h => by omega
  | m + 1 => by
    rcases first_ex P t m with ⟨n, h1, h2, h3, h4⟩ | h
    · exact .inl ⟨n, h1, by omega, h3, h4⟩
    · by_cases hm : t < m ∧ P m = true
      · exact .inl ⟨m, hm.1, by omega, hm.2, fun k g1 g2 => h k g1 g2⟩
      · refine .inr fun k g1 g2 => ?_
        by_cases e : k = m
        · subst e
          cases hp : P k with
          | false => rfl
          | true => exact absurd ⟨g1, hp⟩ hm
        · exact h k g1 (by omega)
theorem next_ex (x : Ex) (t : Nat) : ∃ r, IsNext x t r := by
  rcases first_ex (fireB x) t 13569465600 with ⟨n, h1, h2, h3, h4⟩ | h
  · exact ⟨some n, h1, h2, h3, h4⟩
  · exact ⟨none, h⟩
def optN : Option Nat → Nat
  | some n => n
  | none => 0
def errN : Option Nat → Nat
  | some _ => 0
  | none => 5
theorem last_of_none {x : Ex} {t : Nat} (hx : mayX x = false) (ht : t < 13569465600) : IsLast x t none := fun k hk => by
  cases h : fireB x k with
  | false => rfl
  | true => obtain ⟨_, h1, _⟩ := (fire_eq x (by omega)).1 h; rw [hx] at h1; cases h1

/-! ### Dates of neighbours -/
theorem day_at {n : Nat} (h : n < 157054) : ∃ i d, i < 5160 ∧ d < mLen i ∧ n = mFirst i + d ∧ (civ n).1 = 1970 + i / 12 ∧ (civ n).2.1 = i % 12 + 1 ∧ (civ n).2.2 = d + 1 := by
  obtain ⟨i, d, hi, hd, rfl⟩ := day_of h
  refine ⟨i, d, hi, hd, rfl, ?_⟩
  rw [civ_at hi hd]
  exact ⟨rfl, rfl, rfl⟩
theorem civ_month {n : Nat} (h : n < 157054) : 1 ≤ (civ n).2.1 ∧ (civ n).2.1 ≤ 12 ∧ 1 ≤ (civ n).2.2 ∧ (civ n).2.2 ≤ mLong (civ n).1 (civ n).2.1 ∧ mLong (civ n).1 (civ n).2.1 ≤ 31 ∧ 1970 ≤ (civ n).1 ∧ (civ n).1 ≤ 2399 ∧ (civ n).2.2 ≤ n + 1 := by
  obtain ⟨i, d, hi, hd, hn, e1, e2, e3⟩ := day_at h
  have := mLen_le i
  rw [e1, e2, e3]
  unfold mLen at *
  omega
/-- All days of a month have its number. -/
theorem civ_same {n k : Nat} (hn : n < 157054) (h1 : n ≤ k + ((civ n).2.2 - 1)) (h2 : k + (civ n).2.2 ≤ n + mLong (civ n).1 (civ n).2.1) : k < 157054 ∧ (civ k).2.1 = (civ n).2.1 := by
  obtain ⟨i, d, hi, hd, hn, e1, e2, e3⟩ := day_at hn
  rw [e1, e2, e3] at h2
  rw [e3] at h1
  have e : k = mFirst i + (k - mFirst i) := by omega
  have hk : k - mFirst i < mLen i := by unfold mLen; omega
  have h4 := mFirst_mono (i := i + 1) (j := 5160) (by omega) (Nat.le_refl _)
  rw [mFirst_succ hi, mFirst_end] at h4
  refine ⟨by omega, ?_⟩
  rw [e2, e, civ_at hi hk]
theorem civ_succ {n : Nat} (h : n + 1 < 157054) : civ (n + 1) = if (civ n).2.2 < mLong (civ n).1 (civ n).2.1 then ((civ n).1, (civ n).2.1, (civ n).2.2 + 1) else if (civ n).2.1 < 12 then ((civ n).1, (civ n).2.1 + 1, 1) else ((civ n).1 + 1, 1, 1) := by
  obtain ⟨i, d, hi, hd, hn, e1, e2, e3⟩ := day_at (n := n) (by omega)
  have hm : mLong (1970 + i / 12) (i % 12 + 1) = mLen i := rfl
  rw [e1, e2, e3, hm]
  by_cases hl : d + 1 < mLen i
  · have := civ_at hi hl
    rw [if_pos hl, hn, Nat.add_assoc, this]
  · have hs := mFirst_succ hi
    have hi2 : i + 1 < 5160 := by
      refine Nat.lt_of_not_le fun hc => ?_
      rw [show i + 1 = 5160 by omega, mFirst_end] at hs
      omega
    have := civ_at hi2 (d := 0) (mLen_pos hi2)
    rw [if_neg hl, show n + 1 = mFirst (i + 1) + 0 by omega, this]
    split
    · have : (i + 1) / 12 = i / 12 := by omega
      rw [this]
      simp only [Prod.mk.injEq, true_and]
      refine ⟨by omega, trivial⟩
    · simp only [Prod.mk.injEq]
      refine ⟨by omega, by omega, trivial⟩
theorem civ_pred {n : Nat} (h : n + 1 < 157054) : civ n = if 1 < (civ (n + 1)).2.2 then ((civ (n + 1)).1, (civ (n + 1)).2.1, (civ (n + 1)).2.2 - 1) else if 1 < (civ (n + 1)).2.1 then ((civ (n + 1)).1, (civ (n + 1)).2.1 - 1, mLong (civ (n + 1)).1 ((civ (n + 1)).2.1 - 1)) else ((civ (n + 1)).1 - 1, 12, 31) := by
  obtain ⟨i, d, hi, hd, hn, e1, e2, e3⟩ := day_at (n := n) (by omega)
  have hs := civ_succ h
  rw [e1, e2, e3] at hs
  have hcn : civ n = (1970 + i / 12, i % 12 + 1, d + 1) := by rw [hn]; exact civ_at hi hd
  rw [hcn]
  by_cases hl : d + 1 < mLong (1970 + i / 12) (i % 12 + 1)
  · rw [if_pos hl] at hs
    rw [hs, if_pos (by simp)]
    simp
  · rw [if_neg hl] at hs
    have hd1 : d + 1 = mLong (1970 + i / 12) (i % 12 + 1) := by unfold mLen at hd; omega
    by_cases hm : i % 12 + 1 < 12
    · rw [if_pos hm] at hs
      rw [hs, if_neg (by simp), if_pos (by simp)]
      simp only [Nat.add_sub_cancel, Prod.mk.injEq, true_and]
      exact hd1
    · rw [if_neg hm] at hs
      rw [hs, if_neg (by simp), if_neg (by simp)]
      have h12 : i % 12 + 1 = 12 := by omega
      rw [h12] at hd1 ⊢
      have : mLong (1970 + i / 12) 12 = 31 := by simp [mLong]
      simp only [Prod.mk.injEq, true_and]
      omega

/-! ### All firings of a time -/
/-- The firings behind a moment (from -1 on), up to another one. -/
def firesL (x : Ex) (a b : Int) : List Nat := (List.range (b + 1).toNat).filter fun k => decide (a < (k : Int)) && fireB x k
/-- The newest ones of a row. -/
def newest {α : Type} (m : Nat) (L : List α) : List α := L.drop (L.length - m)
theorem fires_mem {x : Ex} {a b : Int} {n : Nat} : n ∈ firesL x a b ↔ (n : Int) ≤ b ∧ a < (n : Int) ∧ fireB x n = true := by
  unfold firesL
  rw [List.mem_filter, List.mem_range]
  simp only [Bool.and_eq_true, decide_eq_true_eq]
  exact ⟨fun h => ⟨by omega, h.2.1, h.2.2⟩, fun h => ⟨by omega, h.2.1, h.2.2⟩⟩
theorem range_split : ∀ (b a : Nat), a ≤ b → List.range b = List.range a ++ List.range' a (b - a)
  | b, a, h => by
    rw [List.range_eq_range', List.range_eq_range']
    have := List.range'_append_1 (s := 0) (m := a) (n := b - a)
    rw [Nat.zero_add, show a + (b - a) = b by omega] at this
    exact this.symm
theorem fires_none {x : Ex} {a b : Int} (h : ∀ k : Nat, a < (k : Int) → (k : Int) ≤ b → fireB x k = false) : firesL x a b = [] := by
  rw [List.eq_nil_iff_forall_not_mem]
  intro n hn
  obtain ⟨h1, h2, h3⟩ := fires_mem.1 hn
  rw [h n h2 h1] at h3
  cases h3
theorem fires_split {x : Ex} {a m b : Int} (h1 : a ≤ m) (h2 : m ≤ b) (h0 : -1 ≤ a) : firesL x a b = firesL x a m ++ firesL x m b := by
  unfold firesL
  rw [range_split (b + 1).toNat (m + 1).toNat (by omega), List.filter_append, List.filter_append]
  have e1 : ∀ L : List Nat, (∀ k ∈ L, (k : Int) ≤ m) → L.filter (fun k : Nat => decide (m < (k : Int)) && fireB x k) = [] := by
    intro L hL
    rw [List.filter_eq_nil_iff]
    intro k hk
    have := hL k hk
    simp only [Bool.and_eq_true, decide_eq_true_eq, not_and]
    omega
  rw [e1 (List.range (m + 1).toNat) fun k hk => by rw [List.mem_range] at hk; omega, List.nil_append]
  congr 1
  refine List.filter_congr fun k hk => ?_
  rw [List.mem_range'_1] at hk
  rw [decide_eq_true (by omega : a < (k : Int)), decide_eq_true (by omega : m < (k : Int))]
theorem fires_last {x : Ex} {a : Int} {n t : Nat} (h0 : -1 ≤ a) (ha : a < (n : Int)) (hl : IsLast x t (some n)) : firesL x a (t : Int) = firesL x a ((n : Int) - 1) ++ [n] := by
  obtain ⟨h1, h2, h3⟩ := hl
  rw [fires_split (m := (n : Int) - 1) (by omega) (by omega) h0]
  congr 1
  rw [fires_split (m := (n : Int)) (by omega) (by omega) (by omega), fires_none (a := (n : Int)) fun k g1 g2 => h3 k (by omega) (by omega), List.append_nil]
  unfold firesL
  rw [show ((n : Int) + 1).toNat = n + 1 by omega, List.range_succ, List.filter_append]
  have : List.filter (fun k : Nat => decide ((n : Int) - 1 < (k : Int)) && fireB x k) (List.range n) = [] := by
    rw [List.filter_eq_nil_iff]
    intro k hk
    rw [List.mem_range] at hk
    simp only [Bool.and_eq_true, decide_eq_true_eq, not_and]
    omega
  rw [this, List.nil_append, List.filter_cons_of_pos]
  · rfl
  · simp only [Bool.and_eq_true, decide_eq_true_eq]
    exact ⟨by omega, h2⟩
theorem fires_nil_last {x : Ex} {a : Int} {t : Nat} {r : Option Nat} (hl : IsLast x t r) (h : ∀ n, r = some n → (n : Int) ≤ a) : firesL x a (t : Int) = [] := by
  refine fires_none fun k h1 h2 => ?_
  match r, hl, h with
  | none, hl, _ => exact hl k (by omega)
  | some n, ⟨g1, g2, g3⟩, h => exact g3 k (by have := h n rfl; omega) (by omega)
/-- Newest of two rows one behind the other. -/
theorem newest_app {α : Type} (m : Nat) (A B : List α) : newest m (A ++ B) = newest m (newest m A ++ newest m B) := by
  unfold newest
  by_cases h : B.length ≤ m
  · have e : B.length - m = 0 := by omega
    rw [e, List.drop_zero]
    rw [List.drop_append, List.drop_append]
    simp only [List.length_append, List.length_drop]
    have e1 : A.length + B.length - m - A.length = 0 := by omega
    have e2 : (A.length - (A.length - m)) + B.length - m - (A.length - (A.length - m)) = 0 := by omega
    rw [e1, e2, List.drop_zero, List.drop_drop]
    congr 2
    omega
  · rw [List.drop_append, List.drop_append]
    simp only [List.length_append, List.length_drop]
    have e1 : List.drop (A.length + B.length - m) A = [] := List.drop_eq_nil_of_le (by omega)
    have e2 : List.drop ((A.length - (A.length - m)) + (B.length - (B.length - m)) - m) (List.drop (A.length - m) A) = [] := by
      refine List.drop_eq_nil_of_le ?_
      simp only [List.length_drop]
      omega
    rw [e1, e2, List.nil_append, List.nil_append, List.drop_drop]
    congr 1
    omega
theorem newest_snoc {α : Type} {m : Nat} (L : List α) (y : α) : newest (m + 1) (L ++ [y]) = newest m L ++ [y] := by
  unfold newest
  rw [List.length_append, List.length_singleton, List.drop_append, show L.length + 1 - (m + 1) = L.length - m by omega]
  congr 1
  rw [show L.length - m - L.length = 0 by omega, List.drop_zero]
theorem newest_nil {α : Type} (m : Nat) : newest m ([] : List α) = [] := by simp [newest]
theorem newest_zero {α : Type} (L : List α) : newest 0 L = [] := by simp [newest]
theorem newest_len {α : Type} (m : Nat) (L : List α) : (newest m L).length ≤ m := by simp [newest]; omega
theorem newest_sub {α : Type} {m : Nat} {L : List α} {y : α} (h : y ∈ newest m L) : y ∈ L := List.mem_of_mem_drop h
theorem fires_sorted (x : Ex) (a b : Int) : (firesL x a b).Pairwise (· < ·) := List.Pairwise.filter _ List.pairwise_lt_range
theorem newest_sorted {m : Nat} {L : List Nat} (h : L.Pairwise (· < ·)) : (newest m L).Pairwise (· < ·) := List.Pairwise.sublist (List.drop_sublist _ _) h
end Go.Proofs.YtdpgnbinekcgdaaGreatDoor
