/- Looking for firings, in plain words: what is known on the way, down (Last) and up (After), by hours and minutes, or minute by minute. -/
import Derived.Test.YtdpgnbinekcgdaaGreatDoorFire
namespace Go.Proofs.YtdpgnbinekcgdaaGreatDoor
open Rg Go

theorem byc {p : Prop} [Decidable p] (h : ¬p → False) : p := Decidable.byContradiction h
theorem false_of {x : Ex} {k : Nat} (h : fireB x k = true → False) : fireB x k = false := by
  cases e : fireB x k with
  | false => rfl
  | true => exact absurd (h e) id
theorem bits_ok {x : Ex} (hx : x.ok) (hm : mayX x = true) : (∀ j, x.a.bits.testBit j = true → j ≤ 59) ∧ (∀ j, x.b.bits.testBit j = true → j ≤ 23) := by
  simp only [mayX, Bool.and_eq_true] at hm
  obtain ⟨⟨⟨⟨h0, h1⟩, h2⟩, h3⟩, h4⟩ := hm
  refine ⟨fun j hj => ?_, fun j hj => ?_⟩
  · have := (may_bits hx.a h0).2.2 j hj; simp [mostK] at this; omega
  · have := (may_bits hx.b h1).2.2 j hj; simp [mostK] at this; omega
theorem has_bit {b : Nat} {n : Nat} (h : n ≤ 63) : hasB b (n : Int) = b.testBit n := hasB_nat2 b n h

/-! ### Down -/
def OutL (x : Ex) (t D mm : Nat) : Prop := mm ≤ 1439 ∧ D ≤ 157054 ∧ D * 86400 + mm * 60 < t + 86401 ∧ ∀ k, D * 86400 + mm * 60 + 59 < k + 86400 → k ≤ t → fireB x k = false
def InL (x : Ex) (t n HH mm : Nat) : Prop := mm ≤ 59 ∧ HH ≤ 24 ∧ n < 157054 ∧ dayB x n = true ∧ n * 86400 + (HH * 3600 + mm * 60 - 3600) < t + 1 ∧ ∀ k, n * 86400 + HH * 3600 + mm * 60 + 59 < k + 3600 → k ≤ t → fireB x k = false
def InM (x : Ex) (t n MM : Nat) : Prop := MM ≤ 1440 ∧ n < 157054 ∧ n * 86400 + MM * 60 < t + 61 ∧ ∀ k, n * 86400 + MM * 60 ≤ k → k ≤ t → fireB x k = false
section
variable {x : Ex} {t n mm h m D : Nat}
theorem outL_init (ht : t < 13569465600) : OutL x t (t / 86400 + 1) (t % 86400 / 60) :=
  ⟨byc fun _ => by omega, byc fun _ => by omega, byc fun _ => by omega, fun k h1 h2 => false_of fun hf => by
    obtain ⟨n, h, m, g1, g2, g3, rfl, _⟩ := fire_inv (byc fun _ => by omega) hf
    omega⟩
theorem outL_end (hO : OutL x t 0 mm) : IsLast x t none := fun k hk => hO.2.2.2 k (by have := hO.1; omega) hk
theorem outL_month (ht : t < 13569465600) (hO : OutL x t (n + 1) mm) (hb : hasB x.d.bits ((civ n).2.1 : Int) = false) : OutL x t (n + 1 - (civ n).2.2) 1439 := by
  obtain ⟨h1, h2, h3, h4⟩ := hO
  obtain ⟨c1, c2, c3, c4, c5, c6, c7, c8⟩ := civ_month (n := n) (byc fun _ => by omega)
  refine ⟨byc fun _ => by omega, byc fun _ => by omega, byc fun _ => by omega, fun k g1 g2 => ?_⟩
  by_cases hk : (n + 1) * 86400 + mm * 60 + 59 < k + 86400
  · exact h4 k hk g2
  · refine false_of fun hf => ?_
    obtain ⟨q, h, m, q1, q2, q3, rfl, q4, q5, _⟩ := fire_inv (byc fun _ => by omega) hf
    have := civ_same (n := n) (k := q) (byc fun _ => by omega) (byc fun _ => by omega) (byc fun _ => by omega)
    unfold dayB at q5
    rw [this.2, hb] at q5
    simp at q5
theorem outL_day (ht : t < 13569465600) (hO : OutL x t (n + 1) mm) (hb : dayB x n = false) : OutL x t n 1439 := by
  obtain ⟨h1, h2, h3, h4⟩ := hO
  refine ⟨byc fun _ => by omega, byc fun _ => by omega, byc fun _ => by omega, fun k g1 g2 => ?_⟩
  by_cases hk : (n + 1) * 86400 + mm * 60 + 59 < k + 86400
  · exact h4 k hk g2
  · refine false_of fun hf => ?_
    obtain ⟨q, h, m, q1, q2, q3, rfl, q4, q5, _⟩ := fire_inv (byc fun _ => by omega) hf
    obtain rfl : q = n := byc fun _ => by omega
    rw [hb] at q5; cases q5
theorem inL_init (hO : OutL x t (n + 1) mm) (hb : dayB x n = true) : InL x t n (mm / 60 + 1) (mm % 60) := by
  obtain ⟨h1, h2, h3, h4⟩ := hO
  exact ⟨byc fun _ => by omega, byc fun _ => by omega, byc fun _ => by omega, hb, byc fun _ => by omega, fun k g1 g2 => h4 k (byc fun _ => by omega) g2⟩
theorem inL_end (hI : InL x t n 0 mm) : OutL x t n 1439 := by
  obtain ⟨h1, h2, h3, h4, h5, h6⟩ := hI
  exact ⟨byc fun _ => by omega, byc fun _ => by omega, byc fun _ => by omega, fun k g1 g2 => h6 k (byc fun _ => by omega) g2⟩
theorem inL_none (ht : t < 13569465600) (hI : InL x t n (h + 1) mm) (hb : ∀ j : Nat, j ≤ h → hasB x.b.bits (j : Int) = false) : OutL x t n 1439 := by
  obtain ⟨h1, h2, h3, h4, h5, h6⟩ := hI
  refine ⟨byc fun _ => by omega, byc fun _ => by omega, byc fun _ => by omega, fun k g1 g2 => ?_⟩
  by_cases hk : n * 86400 + (h + 1) * 3600 + mm * 60 + 59 < k + 3600
  · exact h6 k hk g2
  · refine false_of fun hf => ?_
    obtain ⟨q, h', m, q1, q2, q3, rfl, q4, q5, q6, q7⟩ := fire_inv (byc fun _ => by omega) hf
    rw [hb h' (byc fun _ => by omega)] at q7; cases q7
theorem inL_down {h' : Nat} (ht : t < 13569465600) (hI : InL x t n (h + 1) mm) (hh : h' < h) (hb : ∀ j : Nat, h' < j → j ≤ h → hasB x.b.bits (j : Int) = false) : InL x t n (h' + 1) 59 := by
  obtain ⟨h1, h2, h3, h4, h5, h6⟩ := hI
  refine ⟨byc fun _ => by omega, byc fun _ => by omega, byc fun _ => by omega, h4, byc fun _ => by omega, fun k g1 g2 => ?_⟩
  by_cases hk : n * 86400 + (h + 1) * 3600 + mm * 60 + 59 < k + 3600
  · exact h6 k hk g2
  · refine false_of fun hf => ?_
    obtain ⟨q, h'', m, q1, q2, q3, rfl, q4, q5, q6, q7⟩ := fire_inv (byc fun _ => by omega) hf
    rw [hb h'' (byc fun _ => by omega) (byc fun _ => by omega)] at q7; cases q7
theorem inL_found (ht : t < 13569465600) (hx : mayX x = true) (hI : InL x t n (h + 1) mm) (hb : hasB x.b.bits (h : Int) = true) (ha : hasB x.a.bits (m : Int) = true) (hm : m ≤ mm) (hn : ∀ j : Nat, m < j → j ≤ mm → hasB x.a.bits (j : Int) = false) :
    IsLast x t (some (n * 86400 + h * 3600 + m * 60)) := by
  obtain ⟨h1, h2, h3, h4, h5, h6⟩ := hI
  refine ⟨byc fun _ => by omega, fire_mk h3 (byc fun _ => by omega) (byc fun _ => by omega) hx h4 ha hb, fun k g1 g2 => ?_⟩
  by_cases hk : n * 86400 + (h + 1) * 3600 + mm * 60 + 59 < k + 3600
  · exact h6 k hk g2
  · refine false_of fun hf => ?_
    obtain ⟨q, h'', m', q1, q2, q3, rfl, q4, q5, q6, q7⟩ := fire_inv (byc fun _ => by omega) hf
    rw [hn m' (byc fun _ => by omega) (byc fun _ => by omega)] at q6; cases q6
theorem inL_min (ht : t < 13569465600) (hI : InL x t n (h + 1) mm) (hn : ∀ j : Nat, j ≤ mm → hasB x.a.bits (j : Int) = false) : InL x t n h 59 := by
  obtain ⟨h1, h2, h3, h4, h5, h6⟩ := hI
  refine ⟨byc fun _ => by omega, byc fun _ => by omega, byc fun _ => by omega, h4, byc fun _ => by omega, fun k g1 g2 => ?_⟩
  by_cases hk : n * 86400 + (h + 1) * 3600 + mm * 60 + 59 < k + 3600
  · exact h6 k hk g2
  · refine false_of fun hf => ?_
    obtain ⟨q, h'', m', q1, q2, q3, rfl, q4, q5, q6, q7⟩ := fire_inv (byc fun _ => by omega) hf
    rw [hn m' (byc fun _ => by omega)] at q6; cases q6
theorem inM_init (hO : OutL x t (n + 1) mm) : InM x t n (mm + 1) := by
  obtain ⟨h1, h2, h3, h4⟩ := hO
  exact ⟨byc fun _ => by omega, byc fun _ => by omega, byc fun _ => by omega, fun k g1 g2 => h4 k (byc fun _ => by omega) g2⟩
theorem inM_end (hI : InM x t n 0) : OutL x t n 1439 := by
  obtain ⟨h1, h2, h3, h4⟩ := hI
  exact ⟨byc fun _ => by omega, byc fun _ => by omega, byc fun _ => by omega, fun k g1 g2 => h4 k (byc fun _ => by omega) g2⟩
theorem inM_day (ht : t < 13569465600) (hI : InM x t n m) (hb : dayB x n = false) : OutL x t n 1439 := by
  obtain ⟨h1, h2, h3, h4⟩ := hI
  refine ⟨byc fun _ => by omega, byc fun _ => by omega, byc fun _ => by omega, fun k g1 g2 => ?_⟩
  by_cases hk : n * 86400 + m * 60 ≤ k
  · exact h4 k hk g2
  · refine false_of fun hf => ?_
    obtain ⟨q, h, m', q1, q2, q3, rfl, q4, q5, _⟩ := fire_inv (byc fun _ => by omega) hf
    obtain rfl : q = n := byc fun _ => by omega
    rw [hb] at q5; cases q5
theorem inM_found (hx : mayX x = true) (hI : InM x t n (m + 1)) (hd : dayB x n = true) (ha : hasB x.a.bits ((m % 60 : Nat) : Int) = true) (hb : hasB x.b.bits ((m / 60 : Nat) : Int) = true) (ht : t < 13569465600) : IsLast x t (some (n * 86400 + m * 60)) := by
  obtain ⟨h1, h2, h3, h4⟩ := hI
  have hf := fire_mk (h := m / 60) (m := m % 60) h2 (by omega) (by omega) hx hd ha hb
  rw [show n * 86400 + m / 60 * 3600 + m % 60 * 60 = n * 86400 + m * 60 by omega] at hf
  refine ⟨byc fun _ => by omega, hf, fun k g1 g2 => ?_⟩
  by_cases hk : n * 86400 + (m + 1) * 60 ≤ k
  · exact h4 k hk g2
  · refine false_of fun hf => ?_
    obtain ⟨q, h'', m', q1, q2, q3, rfl, q4, q5, q6, q7⟩ := fire_inv (byc fun _ => by omega) hf
    omega
theorem inM_down (hI : InM x t n (m + 1)) (hn : ¬ (hasB x.a.bits ((m % 60 : Nat) : Int) = true ∧ hasB x.b.bits ((m / 60 : Nat) : Int) = true)) (ht : t < 13569465600) : InM x t n m := by
  obtain ⟨h1, h2, h3, h4⟩ := hI
  refine ⟨byc fun _ => by omega, byc fun _ => by omega, byc fun _ => by omega, fun k g1 g2 => ?_⟩
  by_cases hk : n * 86400 + (m + 1) * 60 ≤ k
  · exact h4 k hk g2
  · refine false_of fun hf => hn ?_
    obtain ⟨q, h'', m', q1, q2, q3, rfl, q4, q5, q6, q7⟩ := fire_inv (byc fun _ => by omega) hf
    rw [show m % 60 = m' by omega, show m / 60 = h'' by omega]
    exact ⟨q6, q7⟩
end

/-! ### Up -/
def OutN (x : Ex) (t n mm : Nat) : Prop := mm ≤ 1439 ∧ n ≤ 157054 ∧ t < n * 86400 + mm * 60 ∧ ∀ k, t < k → k < n * 86400 + mm * 60 → fireB x k = false
def InN (x : Ex) (t n h mm : Nat) : Prop := mm ≤ 59 ∧ h ≤ 24 ∧ n < 157054 ∧ dayB x n = true ∧ t < n * 86400 + min (h * 3600 + mm * 60) 86400 ∧ ∀ k, t < k → k < n * 86400 + h * 3600 + mm * 60 → fireB x k = false
def InU (x : Ex) (t n m : Nat) : Prop := m ≤ 1440 ∧ n < 157054 ∧ t < n * 86400 + m * 60 ∧ ∀ k, t < k → k < n * 86400 + m * 60 → fireB x k = false
section
variable {x : Ex} {t n mm h m D : Nat}
theorem outN_init (ht : t < 13569465600) : OutN x t ((t / 60 * 60 + 60) / 86400) ((t / 60 * 60 + 60) % 86400 / 60) :=
  ⟨byc fun _ => by omega, byc fun _ => by omega, byc fun _ => by omega, fun k h1 h2 => false_of fun hf => by
    obtain ⟨n, h, m, g1, g2, g3, rfl, _⟩ := fire_inv (byc fun _ => by omega) hf
    omega⟩
theorem outN_end (hO : OutN x t 157054 mm) : IsNext x t none := fun k h1 h2 => hO.2.2.2 k h1 (byc fun _ => by omega)
theorem outN_month (hO : OutN x t n mm) (hn : n < 157054) (hb : hasB x.d.bits ((civ n).2.1 : Int) = false) : OutN x t (n + (mLong (civ n).1 (civ n).2.1 - (civ n).2.2) + 1) 0 := by
  obtain ⟨h1, h2, h3, h4⟩ := hO
  obtain ⟨c1, c2, c3, c4, c5, c6, c7, c8⟩ := civ_month (n := n) (byc fun _ => by omega)
  have c9 := (civ_same (n := n) (k := n + (mLong (civ n).1 (civ n).2.1 - (civ n).2.2)) (byc fun _ => by omega) (byc fun _ => by omega) (byc fun _ => by omega)).1
  refine ⟨byc fun _ => by omega, byc fun _ => by omega, byc fun _ => by omega, fun k g1 g2 => ?_⟩
  by_cases hk : k < n * 86400 + mm * 60
  · exact h4 k g1 hk
  · refine false_of fun hf => ?_
    obtain ⟨q, h, m, q1, q2, q3, rfl, q4, q5, _⟩ := fire_inv (byc fun _ => by omega) hf
    have := civ_same (n := n) (k := q) (byc fun _ => by omega) (byc fun _ => by omega) (byc fun _ => by omega)
    unfold dayB at q5
    rw [this.2, hb] at q5
    simp at q5
theorem outN_day (hO : OutN x t n mm) (hn : n < 157054) (hb : dayB x n = false) : OutN x t (n + 1) 0 := by
  obtain ⟨h1, h2, h3, h4⟩ := hO
  refine ⟨byc fun _ => by omega, byc fun _ => by omega, byc fun _ => by omega, fun k g1 g2 => ?_⟩
  by_cases hk : k < n * 86400 + mm * 60
  · exact h4 k g1 hk
  · refine false_of fun hf => ?_
    obtain ⟨q, h, m, q1, q2, q3, rfl, q4, q5, _⟩ := fire_inv (byc fun _ => by omega) hf
    obtain rfl : q = n := byc fun _ => by omega
    rw [hb] at q5; cases q5
theorem inN_init (hO : OutN x t n mm) (hn : n < 157054) (hb : dayB x n = true) : InN x t n (mm / 60) (mm % 60) := by
  obtain ⟨h1, h2, h3, h4⟩ := hO
  exact ⟨byc fun _ => by omega, byc fun _ => by omega, hn, hb, byc fun _ => by omega, fun k g1 g2 => h4 k g1 (byc fun _ => by omega)⟩
theorem inN_none (hI : InN x t n h mm) (hb : ∀ j : Nat, h ≤ j → hasB x.b.bits (j : Int) = false) : OutN x t (n + 1) 0 := by
  obtain ⟨h1, h2, h3, h4, h5, h6⟩ := hI
  refine ⟨byc fun _ => by omega, byc fun _ => by omega, byc fun _ => by omega, fun k g1 g2 => ?_⟩
  by_cases hk : k < n * 86400 + h * 3600 + mm * 60
  · exact h6 k g1 hk
  · refine false_of fun hf => ?_
    obtain ⟨q, h', m, q1, q2, q3, rfl, q4, q5, q6, q7⟩ := fire_inv (byc fun _ => by omega) hf
    rw [hb h' (byc fun _ => by omega)] at q7; cases q7
theorem inN_up {h' : Nat} (hI : InN x t n h mm) (hh : h < h') (hh' : h' ≤ 24) (hb : ∀ j : Nat, h ≤ j → j < h' → hasB x.b.bits (j : Int) = false) : InN x t n h' 0 := by
  obtain ⟨h1, h2, h3, h4, h5, h6⟩ := hI
  refine ⟨byc fun _ => by omega, byc fun _ => by omega, byc fun _ => by omega, h4, byc fun _ => by omega, fun k g1 g2 => ?_⟩
  by_cases hk : k < n * 86400 + h * 3600 + mm * 60
  · exact h6 k g1 hk
  · refine false_of fun hf => ?_
    obtain ⟨q, h'', m, q1, q2, q3, rfl, q4, q5, q6, q7⟩ := fire_inv (byc fun _ => by omega) hf
    rw [hb h'' (byc fun _ => by omega) (byc fun _ => by omega)] at q7; cases q7
theorem inN_found (hx : mayX x = true) (hI : InN x t n h mm) (hh : h < 24) (hb : hasB x.b.bits (h : Int) = true) (ha : hasB x.a.bits (m : Int) = true) (hm : mm ≤ m) (hm2 : m < 60) (hn : ∀ j : Nat, mm ≤ j → j < m → hasB x.a.bits (j : Int) = false) :
    IsNext x t (some (n * 86400 + h * 3600 + m * 60)) := by
  obtain ⟨h1, h2, h3, h4, h5, h6⟩ := hI
  refine ⟨byc fun _ => by omega, byc fun _ => by omega, fire_mk h3 (byc fun _ => by omega) (byc fun _ => by omega) hx h4 ha hb, fun k g1 g2 => ?_⟩
  by_cases hk : k < n * 86400 + h * 3600 + mm * 60
  · exact h6 k g1 hk
  · refine false_of fun hf => ?_
    obtain ⟨q, h'', m', q1, q2, q3, rfl, q4, q5, q6, q7⟩ := fire_inv (byc fun _ => by omega) hf
    rw [hn m' (byc fun _ => by omega) (byc fun _ => by omega)] at q6; cases q6
theorem inN_min (hI : InN x t n h mm) (hh : h < 24) (hn : ∀ j : Nat, mm ≤ j → hasB x.a.bits (j : Int) = false) : InN x t n (h + 1) 0 := by
  obtain ⟨h1, h2, h3, h4, h5, h6⟩ := hI
  refine ⟨byc fun _ => by omega, byc fun _ => by omega, byc fun _ => by omega, h4, byc fun _ => by omega, fun k g1 g2 => ?_⟩
  by_cases hk : k < n * 86400 + h * 3600 + mm * 60
  · exact h6 k g1 hk
  · refine false_of fun hf => ?_
    obtain ⟨q, h'', m', q1, q2, q3, rfl, q4, q5, q6, q7⟩ := fire_inv (byc fun _ => by omega) hf
    rw [hn m' (byc fun _ => by omega)] at q6; cases q6
theorem inU_init (hO : OutN x t n mm) (hn : n < 157054) : InU x t n mm := by
  obtain ⟨h1, h2, h3, h4⟩ := hO
  exact ⟨byc fun _ => by omega, hn, byc fun _ => by omega, h4⟩
theorem inU_end (hI : InU x t n 1440) : OutN x t (n + 1) 0 := by
  obtain ⟨h1, h2, h3, h4⟩ := hI
  exact ⟨byc fun _ => by omega, byc fun _ => by omega, byc fun _ => by omega, fun k g1 g2 => h4 k g1 (byc fun _ => by omega)⟩
theorem inU_day (hI : InU x t n m) (hb : dayB x n = false) : OutN x t (n + 1) 0 := by
  obtain ⟨h1, h2, h3, h4⟩ := hI
  refine ⟨byc fun _ => by omega, byc fun _ => by omega, byc fun _ => by omega, fun k g1 g2 => ?_⟩
  by_cases hk : k < n * 86400 + m * 60
  · exact h4 k g1 hk
  · refine false_of fun hf => ?_
    obtain ⟨q, h, m', q1, q2, q3, rfl, q4, q5, _⟩ := fire_inv (byc fun _ => by omega) hf
    obtain rfl : q = n := byc fun _ => by omega
    rw [hb] at q5; cases q5
theorem inU_found (hx : mayX x = true) (hI : InU x t n m) (hm : m < 1440) (hd : dayB x n = true) (ha : hasB x.a.bits ((m % 60 : Nat) : Int) = true) (hb : hasB x.b.bits ((m / 60 : Nat) : Int) = true) : IsNext x t (some (n * 86400 + m * 60)) := by
  obtain ⟨h1, h2, h3, h4⟩ := hI
  have hf := fire_mk (h := m / 60) (m := m % 60) h2 (by omega) (by omega) hx hd ha hb
  rw [show n * 86400 + m / 60 * 3600 + m % 60 * 60 = n * 86400 + m * 60 by omega] at hf
  exact ⟨byc fun _ => by omega, byc fun _ => by omega, hf, fun k g1 g2 => h4 k g1 g2⟩
theorem inU_up (hI : InU x t n m) (hm : m < 1440) (hn : ¬ (hasB x.a.bits ((m % 60 : Nat) : Int) = true ∧ hasB x.b.bits ((m / 60 : Nat) : Int) = true)) : InU x t n (m + 1) := by
  obtain ⟨h1, h2, h3, h4⟩ := hI
  refine ⟨byc fun _ => by omega, byc fun _ => by omega, byc fun _ => by omega, fun k g1 g2 => ?_⟩
  by_cases hk : k < n * 86400 + m * 60
  · exact h4 k g1 hk
  · refine false_of fun hf => hn ?_
    obtain ⟨q, h'', m', q1, q2, q3, rfl, q4, q5, q6, q7⟩ := fire_inv (byc fun _ => by omega) hf
    rw [show m % 60 = m' by omega, show m / 60 = h'' by omega]
    exact ⟨q6, q7⟩
end
end Go.Proofs.YtdpgnbinekcgdaaGreatDoor
