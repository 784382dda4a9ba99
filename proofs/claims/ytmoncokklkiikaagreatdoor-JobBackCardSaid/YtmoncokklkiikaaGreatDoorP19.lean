/- Looking for firings, in plain words: what is known on the way, down (Last) and up (After), by hours and minutes, or minute by minute. The last firing up to a moment, as the program looks for it. -/
import Derived.Test.YtmoncokklkiikaaGreatDoorP18
set_option linter.unusedSimpArgs false
set_option linter.unusedVariables false
set_option linter.unnecessarySimpa false
namespace Go.Proofs.YtmoncokklkiikaaGreatDoor
open Rg Go
theorem byc {p : Prop} [Decidable p] (h : ¬p → False) : p := Decidable.byContradiction h
theorem false_of {x : Ex} {k : Nat} (h : fireB x k = true → False) : fireB x k = false := by
  cases e : fireB x k with
  | false => rfl
  | true => exact absurd (h e) id
theorem bits_ok {x : Ex} (hx : x.ok) (hm : mayX x = true) : (∀ j, x.a.bits.testBit j = true → j ≤ 59) ∧ (∀ j, x.b.bits.testBit j = true → j ≤ 23) := by
  simp only [mayX, Bool.and_eq_true] at hm
  obtain ⟨⟨⟨⟨h0, h1⟩, h2⟩, h3⟩, h4⟩ := hm
  refine ⟨fun j hj => ?_, fun j hj => ?_⟩
  · have := (may_bits hx.a h0).2.2 j hj; simp [mostK] at this; omega
  · have := (may_bits hx.b h1).2.2 j hj; simp [mostK] at this; omega
theorem has_bit {b : Nat} {n : Nat} (h : n ≤ 63) : hasB b (n : Int) = b.testBit n := hasB_nat2 b n h
def OutL (x : Ex) (t D mm : Nat) : Prop := mm ≤ 1439 ∧ D ≤ 157054 ∧ D * 86400 + mm * 60 < t + 86401 ∧ ∀ k, D * 86400 + mm * 60 + 59 < k + 86400 → k ≤ t → fireB x k = false
def InL (x : Ex) (t n HH mm : Nat) : Prop := mm ≤ 59 ∧ HH ≤ 24 ∧ n < 157054 ∧ dayB x n = true ∧ n * 86400 + (HH * 3600 + mm * 60 - 3600) < t + 1 ∧ ∀ k, n * 86400 + HH * 3600 + mm * 60 + 59 < k + 3600 → k ≤ t → fireB x k = false
def InM (x : Ex) (t n MM : Nat) : Prop := MM ≤ 1440 ∧ n < 157054 ∧ n * 86400 + MM * 60 < t + 61 ∧ ∀ k, n * 86400 + MM * 60 ≤ k → k ≤ t → fireB x k = false
section
variable {x : Ex} {t n mm h m D : Nat}
theorem outL_init (ht : t < 13569465600) : OutL x t (t / 86400 + 1) (t % 86400 / 60) :=
  ⟨byc fun _ => by omega, byc fun _ => by omega, byc fun _ => by omega, fun k h1 h2 => false_of fun hf => by
    obtain ⟨n, h, m, g1, g2, g3, rfl, _⟩ := fire_inv (byc fun _ => by omega) hf
    omega⟩
theorem outL_end (hO : OutL x t 0 mm) : IsLast x t none := fun k hk => hO.2.2.2 k (by have := hO.1; omega) hk
theorem outL_month (ht : t < 13569465600) (hO : OutL x t (n + 1) mm) (hb : hasB x.d.bits ((civ n).2.1 : Int) = false) : OutL x t (n + 1 - (civ n).2.2) 1439 := by
  obtain ⟨h1, h2, h3, h4⟩ := hO
  obtain ⟨c1, c2, c3, c4, c5, c6, c7, c8⟩ := civ_month (n := n) (byc fun _ => by omega)
  refine ⟨byc fun _ => by omega, byc fun _ => by omega, byc fun _ => by omega, fun k g1 g2 => ?_⟩
  by_cases hk : (n + 1) * 86400 + mm * 60 + 59 < k + 86400
  · exact h4 k hk g2
  · refine false_of fun hf => ?_
    obtain ⟨q, h, m, q1, q2, q3, rfl, q4, q5, _⟩ := fire_inv (byc fun _ => by omega) hf
    have := civ_same (n := n) (k := q) (byc fun _ => by omega) (byc fun _ => by omega) (byc fun _ => by omega)
    unfold dayB at q5
    rw [this.2, hb] at q5
    simp at q5
theorem outL_day (ht : t < 13569465600) (hO : OutL x t (n + 1) mm) (hb : dayB x n = false) : OutL x t n 1439 := by
  obtain ⟨h1, h2, h3, h4⟩ := hO
  refine ⟨byc fun _ => by omega, byc fun _ => by omega, byc fun _ => by omega, fun k g1 g2 => ?_⟩
  by_cases hk : (n + 1) * 86400 + mm * 60 + 59 < k + 86400
  · exact h4 k hk g2
  · refine false_of fun hf => ?_
    obtain ⟨q, h, m, q1, q2, q3, rfl, q4, q5, _⟩ := fire_inv (byc fun _ => by omega) hf
    obtain rfl : q = n := byc fun _ => by omega
    rw [hb] at q5; cases q5
theorem inL_init (hO : OutL x t (n + 1) mm) (hb : dayB x n = true) : InL x t n (mm / 60 + 1) (mm % 60) := by
  obtain ⟨h1, h2, h3, h4⟩ := hO
  exact ⟨byc fun _ => by omega, byc fun _ => by omega, byc fun _ => by omega, hb, byc fun _ => by omega, fun k g1 g2 => h4 k (byc fun _ => by omega) g2⟩
theorem inL_end (hI : InL x t n 0 mm) : OutL x t n 1439 := by
  obtain ⟨h1, h2, h3, h4, h5, h6⟩ := hI
  exact ⟨byc fun _ => by omega, byc fun _ => by omega, byc fun _ => by omega, fun k g1 g2 => h6 k (byc fun _ => by omega) g2⟩
theorem inL_none (ht : t < 13569465600) (hI : InL x t n (h + 1) mm) (hb : ∀ j : Nat, j ≤ h → hasB x.b.bits (j : Int) = false) : OutL x t n 1439 := by
  obtain ⟨h1, h2, h3, h4, h5, h6⟩ := hI
  refine ⟨byc fun _ => by omega, byc fun _ => by omega, byc fun _ => by omega, fun k g1 g2 => ?_⟩
  by_cases hk : n * 86400 + (h + 1) * 3600 + mm * 60 + 59 < k + 3600
  · exact h6 k hk g2
  · refine false_of fun hf => ?_
    obtain ⟨q, h', m, q1, q2, q3, rfl, q4, q5, q6, q7⟩ := fire_inv (byc fun _ => by omega) hf
    rw [hb h' (byc fun _ => by omega)] at q7; cases q7
theorem inL_down {h' : Nat} (ht : t < 13569465600) (hI : InL x t n (h + 1) mm) (hh : h' < h) (hb : ∀ j : Nat, h' < j → j ≤ h → hasB x.b.bits (j : Int) = false) : InL x t n (h' + 1) 59 := by
  obtain ⟨h1, h2, h3, h4, h5, h6⟩ := hI
  refine ⟨byc fun _ => by omega, byc fun _ => by omega, byc fun _ => by omega, h4, byc fun _ => by omega, fun k g1 g2 => ?_⟩
  by_cases hk : n * 86400 + (h + 1) * 3600 + mm * 60 + 59 < k + 3600
  · exact h6 k hk g2
  · refine false_of fun hf => ?_
    obtain ⟨q, h'', m, q1, q2, q3, rfl, q4, q5, q6, q7⟩ := fire_inv (byc fun _ => by omega) hf
    rw [hb h'' (byc fun _ => by omega) (byc fun _ => by omega)] at q7; cases q7
theorem inL_found (ht : t < 13569465600) (hx : mayX x = true) (hI : InL x t n (h + 1) mm) (hb : hasB x.b.bits (h : Int) = true) (ha : hasB x.a.bits (m : Int) = true) (hm : m ≤ mm) (hn : ∀ j : Nat, m < j → j ≤ mm → hasB x.a.bits (j : Int) = false) :
    IsLast x t (some (n * 86400 + h * 3600 + m * 60)) := by
  obtain ⟨h1, h2, h3, h4, h5, h6⟩ := hI
  refine ⟨byc fun _ => by omega, fire_mk h3 (byc fun _ => by omega) (byc fun _ => by omega) hx h4 ha hb, fun k g1 g2 => ?_⟩
  by_cases hk : n * 86400 + (h + 1) * 3600 + mm * 60 + 59 < k + 3600
  · exact h6 k hk g2
  · refine false_of fun hf => ?_
    obtain ⟨q, h'', m', q1, q2, q3, rfl, q4, q5, q6, q7⟩ := fire_inv (byc fun _ => by omega) hf
    rw [hn m' (byc fun _ => by omega) (byc fun _ => by omega)] at q6; cases q6
theorem inL_min (ht : t < 13569465600) (hI : InL x t n (h + 1) mm) (hn : ∀ j : Nat, j ≤ mm → hasB x.a.bits (j : Int) = false) : InL x t n h 59 := by
  obtain ⟨h1, h2, h3, h4, h5, h6⟩ := hI
  refine ⟨byc fun _ => by omega, byc fun _ => by omega, byc fun _ => by omega, h4, byc fun _ => by omega, fun k g1 g2 => ?_⟩
  by_cases hk : n * 86400 + (h + 1) * 3600 + mm * 60 + 59 < k + 3600
  · exact h6 k hk g2
  · refine false_of fun hf => ?_
    obtain ⟨q, h'', m', q1, q2, q3, rfl, q4, q5, q6, q7⟩ := fire_inv (byc fun _ => by omega) hf
    rw [hn m' (byc fun _ => by omega)] at q6; cases q6
theorem inM_init (hO : OutL x t (n + 1) mm) : InM x t n (mm + 1) := by
  obtain ⟨h1, h2, h3, h4⟩ := hO
  exact ⟨byc fun _ => by omega, byc fun _ => by omega, byc fun _ => by omega, fun k g1 g2 => h4 k (byc fun _ => by omega) g2⟩
theorem inM_end (hI : InM x t n 0) : OutL x t n 1439 := by
  obtain ⟨h1, h2, h3, h4⟩ := hI
  exact ⟨byc fun _ => by omega, byc fun _ => by omega, byc fun _ => by omega, fun k g1 g2 => h4 k (byc fun _ => by omega) g2⟩
theorem inM_day (ht : t < 13569465600) (hI : InM x t n m) (hb : dayB x n = false) : OutL x t n 1439 := by
  obtain ⟨h1, h2, h3, h4⟩ := hI
  refine ⟨byc fun _ => by omega, byc fun _ => by omega, byc fun _ => by omega, fun k g1 g2 => ?_⟩
  by_cases hk : n * 86400 + m * 60 ≤ k
  · exact h4 k hk g2
  · refine false_of fun hf => ?_
    obtain ⟨q, h, m', q1, q2, q3, rfl, q4, q5, _⟩ := fire_inv (byc fun _ => by omega) hf
    obtain rfl : q = n := byc fun _ => by omega
    rw [hb] at q5; cases q5
theorem inM_found (hx : mayX x = true) (hI : InM x t n (m + 1)) (hd : dayB x n = true) (ha : hasB x.a.bits ((m % 60 : Nat) : Int) = true) (hb : hasB x.b.bits ((m / 60 : Nat) : Int) = true) (ht : t < 13569465600) : IsLast x t (some (n * 86400 + m * 60)) := by
  obtain ⟨h1, h2, h3, h4⟩ := hI
  have hf := fire_mk (h := m / 60) (m := m % 60) h2 (by omega) (by omega) hx hd ha hb
  rw [show n * 86400 + m / 60 * 3600 + m % 60 * 60 = n * 86400 + m * 60 by omega] at hf
  refine ⟨byc fun _ => by omega, hf, fun k g1 g2 => ?_⟩
  by_cases hk : n * 86400 + (m + 1) * 60 ≤ k
  · exact h4 k hk g2
  · refine false_of fun hf => ?_
    obtain ⟨q, h'', m', q1, q2, q3, rfl, q4, q5, q6, q7⟩ := fire_inv (byc fun _ => by omega) hf
    omega
theorem inM_down (hI : InM x t n (m + 1)) (hn : ¬ (hasB x.a.bits ((m % 60 : Nat) : Int) = true ∧ hasB x.b.bits ((m / 60 : Nat) : Int) = true)) (ht : t < 13569465600) : InM x t n m := by
  obtain ⟨h1, h2, h3, h4⟩ := hI
  refine ⟨byc fun _ => by omega, byc fun _ => by omega, byc fun _ => by omega, fun k g1 g2 => ?_⟩
  by_cases hk : n * 86400 + (m + 1) * 60 ≤ k
  · exact h4 k hk g2
  · refine false_of fun hf => hn ?_
    obtain ⟨q, h'', m', q1, q2, q3, rfl, q4, q5, q6, q7⟩ := fire_inv (byc fun _ => by omega) hf
    rw [show m % 60 = m' by omega, show m / 60 = h'' by omega]
    exact ⟨q6, q7⟩
end
def OutN (x : Ex) (t n mm : Nat) : Prop := mm ≤ 1439 ∧ n ≤ 157054 ∧ t < n * 86400 + mm * 60 ∧ ∀ k, t < k → k < n * 86400 + mm * 60 → fireB x k = false
def InN (x : Ex) (t n h mm : Nat) : Prop := mm ≤ 59 ∧ h ≤ 24 ∧ n < 157054 ∧ dayB x n = true ∧ t < n * 86400 + min (h * 3600 + mm * 60) 86400 ∧ ∀ k, t < k → k < n * 86400 + h * 3600 + mm * 60 → fireB x k = false
def InU (x : Ex) (t n m : Nat) : Prop := m ≤ 1440 ∧ n < 157054 ∧ t < n * 86400 + m * 60 ∧ ∀ k, t < k → k < n * 86400 + m * 60 → fireB x k = false
section
variable {x : Ex} {t n mm h m D : Nat}
theorem outN_init (ht : t < 13569465600) : OutN x t ((t / 60 * 60 + 60) / 86400) ((t / 60 * 60 + 60) % 86400 / 60) :=
  ⟨byc fun _ => by omega, byc fun _ => by omega, byc fun _ => by omega, fun k h1 h2 => false_of fun hf => by
    obtain ⟨n, h, m, g1, g2, g3, rfl, _⟩ := fire_inv (byc fun _ => by omega) hf
    omega⟩
theorem outN_end (hO : OutN x t 157054 mm) : IsNext x t none := fun k h1 h2 => hO.2.2.2 k h1 (byc fun _ => by omega)
theorem outN_month (hO : OutN x t n mm) (hn : n < 157054) (hb : hasB x.d.bits ((civ n).2.1 : Int) = false) : OutN x t (n + (mLong (civ n).1 (civ n).2.1 - (civ n).2.2) + 1) 0 := by
  obtain ⟨h1, h2, h3, h4⟩ := hO
  obtain ⟨c1, c2, c3, c4, c5, c6, c7, c8⟩ := civ_month (n := n) (byc fun _ => by omega)
  have c9 := (civ_same (n := n) (k := n + (mLong (civ n).1 (civ n).2.1 - (civ n).2.2)) (byc fun _ => by omega) (byc fun _ => by omega) (byc fun _ => by omega)).1
  refine ⟨byc fun _ => by omega, byc fun _ => by omega, byc fun _ => by omega, fun k g1 g2 => ?_⟩
  by_cases hk : k < n * 86400 + mm * 60
  · exact h4 k g1 hk
  · refine false_of fun hf => ?_
    obtain ⟨q, h, m, q1, q2, q3, rfl, q4, q5, _⟩ := fire_inv (byc fun _ => by omega) hf
    have := civ_same (n := n) (k := q) (byc fun _ => by omega) (byc fun _ => by omega) (byc fun _ => by omega)
    unfold dayB at q5
    rw [this.2, hb] at q5
    simp at q5
theorem outN_day (hO : OutN x t n mm) (hn : n < 157054) (hb : dayB x n = false) : OutN x t (n + 1) 0 := by
  obtain ⟨h1, h2, h3, h4⟩ := hO
  refine ⟨byc fun _ => by omega, byc fun _ => by omega, byc fun _ => by omega, fun k g1 g2 => ?_⟩
  by_cases hk : k < n * 86400 + mm * 60
  · exact h4 k g1 hk
  · refine false_of fun hf => ?_
    obtain ⟨q, h, m, q1, q2, q3, rfl, q4, q5, _⟩ := fire_inv (byc fun _ => by omega) hf
    obtain rfl : q = n := byc fun _ => by omega
    rw [hb] at q5; cases q5
theorem inN_init (hO : OutN x t n mm) (hn : n < 157054) (hb : dayB x n = true) : InN x t n (mm / 60) (mm % 60) := by
  obtain ⟨h1, h2, h3, h4⟩ := hO
  exact ⟨byc fun _ => by omega, byc fun _ => by omega, hn, hb, byc fun _ => by omega, fun k g1 g2 => h4 k g1 (byc fun _ => by omega)⟩
theorem inN_none (hI : InN x t n h mm) (hb : ∀ j : Nat, h ≤ j → hasB x.b.bits (j : Int) = false) : OutN x t (n + 1) 0 := by
  obtain ⟨h1, h2, h3, h4, h5, h6⟩ := hI
  refine ⟨byc fun _ => by omega, byc fun _ => by omega, byc fun _ => by omega, fun k g1 g2 => ?_⟩
  by_cases hk : k < n * 86400 + h * 3600 + mm * 60
  · exact h6 k g1 hk
  · refine false_of fun hf => ?_
    obtain ⟨q, h', m, q1, q2, q3, rfl, q4, q5, q6, q7⟩ := fire_inv (byc fun _ => by omega) hf
    rw [hb h' (byc fun _ => by omega)] at q7; cases q7
theorem inN_up {h' : Nat} (hI : InN x t n h mm) (hh : h < h') (hh' : h' ≤ 24) (hb : ∀ j : Nat, h ≤ j → j < h' → hasB x.b.bits (j : Int) = false) : InN x t n h' 0 := by
  obtain ⟨h1, h2, h3, h4, h5, h6⟩ := hI
  refine ⟨byc fun _ => by omega, byc fun _ => by omega, byc fun _ => by omega, h4, byc fun _ => by omega, fun k g1 g2 => ?_⟩
  by_cases hk : k < n * 86400 + h * 3600 + mm * 60
  · exact h6 k g1 hk
  · refine false_of fun hf => ?_
    obtain ⟨q, h'', m, q1, q2, q3, rfl, q4, q5, q6, q7⟩ := fire_inv (byc fun _ => by omega) hf
    rw [hb h'' (byc fun _ => by omega) (byc fun _ => by omega)] at q7; cases q7
theorem inN_found (hx : mayX x = true) (hI : InN x t n h mm) (hh : h < 24) (hb : hasB x.b.bits (h : Int) = true) (ha : hasB x.a.bits (m : Int) = true) (hm : mm ≤ m) (hm2 : m < 60) (hn : ∀ j : Nat, mm ≤ j → j < m → hasB x.a.bits (j : Int) = false) :
    IsNext x t (some (n * 86400 + h * 3600 + m * 60)) := by
  obtain ⟨h1, h2, h3, h4, h5, h6⟩ := hI
  refine ⟨byc fun _ => by omega, byc fun _ => by omega, fire_mk h3 (byc fun _ => by omega) (byc fun _ => by omega) hx h4 ha hb, fun k g1 g2 => ?_⟩
  by_cases hk : k < n * 86400 + h * 3600 + mm * 60
  · exact h6 k g1 hk
  · refine false_of fun hf => ?_
    obtain ⟨q, h'', m', q1, q2, q3, rfl, q4, q5, q6, q7⟩ := fire_inv (byc fun _ => by omega) hf
    rw [hn m' (byc fun _ => by omega) (byc fun _ => by omega)] at q6; cases q6
theorem inN_min (hI : InN x t n h mm) (hh : h < 24) (hn : ∀ j : Nat, mm ≤ j → hasB x.a.bits (j : Int) = false) : InN x t n (h + 1) 0 := by
  obtain ⟨h1, h2, h3, h4, h5, h6⟩ := hI
  refine ⟨byc fun _ => by omega, byc fun _ => by omega, byc fun _ => by omega, h4, byc fun _ => by omega, fun k g1 g2 => ?_⟩
  by_cases hk : k < n * 86400 + h * 3600 + mm * 60
  · exact h6 k g1 hk
  · refine false_of fun hf => ?_
    obtain ⟨q, h'', m', q1, q2, q3, rfl, q4, q5, q6, q7⟩ := fire_inv (byc fun _ => by omega) hf
    rw [hn m' (byc fun _ => by omega)] at q6; cases q6
theorem inU_init (hO : OutN x t n mm) (hn : n < 157054) : InU x t n mm := by
  obtain ⟨h1, h2, h3, h4⟩ := hO
  exact ⟨byc fun _ => by omega, hn, byc fun _ => by omega, h4⟩
theorem inU_end (hI : InU x t n 1440) : OutN x t (n + 1) 0 := by
  obtain ⟨h1, h2, h3, h4⟩ := hI
  exact ⟨byc fun _ => by omega, byc fun _ => by omega, byc fun _ => by omega, fun k g1 g2 => h4 k g1 (byc fun _ => by omega)⟩
theorem inU_day (hI : InU x t n m) (hb : dayB x n = false) : OutN x t (n + 1) 0 := by
  obtain ⟨h1, h2, h3, h4⟩ := hI
  refine ⟨byc fun _ => by omega, byc fun _ => by omega, byc fun _ => by omega, fun k g1 g2 => ?_⟩
  by_cases hk : k < n * 86400 + m * 60
  · exact h4 k g1 hk
  · refine false_of fun hf => ?_
    obtain ⟨q, h, m', q1, q2, q3, rfl, q4, q5, _⟩ := fire_inv (byc fun _ => by omega) hf
    obtain rfl : q = n := byc fun _ => by omega
    rw [hb] at q5; cases q5
theorem inU_found (hx : mayX x = true) (hI : InU x t n m) (hm : m < 1440) (hd : dayB x n = true) (ha : hasB x.a.bits ((m % 60 : Nat) : Int) = true) (hb : hasB x.b.bits ((m / 60 : Nat) : Int) = true) : IsNext x t (some (n * 86400 + m * 60)) := by
  obtain ⟨h1, h2, h3, h4⟩ := hI
  have hf := fire_mk (h := m / 60) (m := m % 60) h2 (by omega) (by omega) hx hd ha hb
  rw [show n * 86400 + m / 60 * 3600 + m % 60 * 60 = n * 86400 + m * 60 by omega] at hf
  exact ⟨byc fun _ => by omega, byc fun _ => by omega, hf, fun k g1 g2 => h4 k g1 g2⟩
theorem inU_up (hI : InU x t n m) (hm : m < 1440) (hn : ¬ (hasB x.a.bits ((m % 60 : Nat) : Int) = true ∧ hasB x.b.bits ((m / 60 : Nat) : Int) = true)) : InU x t n (m + 1) := by
  obtain ⟨h1, h2, h3, h4⟩ := hI
  refine ⟨byc fun _ => by omega, byc fun _ => by omega, byc fun _ => by omega, fun k g1 g2 => ?_⟩
  by_cases hk : k < n * 86400 + m * 60
  · exact h4 k g1 hk
  · refine false_of fun hf => hn ?_
    obtain ⟨q, h'', m', q1, q2, q3, rfl, q4, q5, q6, q7⟩ := fire_inv (byc fun _ => by omega) hf
    rw [show m % 60 = m' by omega, show m / 60 = h'' by omega]
    exact ⟨q6, q7⟩
end
end Go.Proofs.YtmoncokklkiikaaGreatDoor
namespace Go.Proofs.YtmoncokklkiikaaGreatDoor
open Rg Go
variable {H : Heap}
def topB (b n : Nat) : Option Nat := if b % pow2 (n + 1) = 0 then none else some (Nat.log2 (b % pow2 (n + 1)))
def topAV : Option Nat → AV
  | some h => .tup [.sc (.int .i64 (h : Int)), .sc (.bool true)]
  | none => .tup [.sc (.int .i64 (-1)), .sc (.bool false)]
theorem topB_some {b n h : Nat} (he : topB b n = some h) : h ≤ n ∧ b.testBit h = true ∧ ∀ j, h < j → j ≤ n → b.testBit j = false := by
  unfold topB at he
  split at he
  · cases he
  · rename_i h0
    simp only [Option.some.injEq] at he
    have hlt : b % pow2 (n + 1) < 2 ^ (n + 1) := Nat.mod_lt _ (Nat.pos_of_ne_zero (by simp [pow2]))
    have hb : ∀ j, (b % pow2 (n + 1)).testBit j = (decide (j < n + 1) && b.testBit j) := fun j => by unfold pow2; rw [Nat.testBit_mod_two_pow]
    have h1 := Nat.log2_self_le h0
    have h2 := Nat.lt_log2_self (n := b % pow2 (n + 1))
    rw [he] at h1 h2
    have hh : h < n + 1 := (Nat.pow_lt_pow_iff_right (a := 2) (by decide)).1 (Nat.lt_of_le_of_lt h1 hlt)
    refine ⟨by omega, ?_, fun j g1 g2 => ?_⟩
    · have h3 : (b % pow2 (n + 1)).testBit h = true := by
        rw [Nat.testBit_eq_decide_div_mod_eq]
        have : b % pow2 (n + 1) / 2 ^ h = 1 := by
          refine Nat.div_eq_of_lt_le (by simpa using h1) ?_
          rw [Nat.pow_succ] at h2
          omega
        simp [this]
      rw [hb] at h3
      simp only [Bool.and_eq_true] at h3
      exact h3.2
    · have h3 : (b % pow2 (n + 1)).testBit j = false := Nat.testBit_lt_two_pow (Nat.lt_of_lt_of_le h2 (Nat.pow_le_pow_right (by decide) (by omega)))
      rw [hb, decide_eq_true (by omega : j < n + 1), Bool.true_and] at h3
      exact h3
theorem topB_none {b n : Nat} (he : topB b n = none) : ∀ j, j ≤ n → b.testBit j = false := by
  unfold topB at he
  split at he
  · rename_i h0
    intro j hj
    have h1 : (b % pow2 (n + 1)).testBit j = false := by rw [h0]; exact Nat.zero_testBit j
    unfold pow2 at h1
    rw [Nat.testBit_mod_two_pow, decide_eq_true (by omega : j < n + 1), Bool.true_and] at h1
    exact h1
  · cases he
theorem bitLenAux_log : ∀ f x : Nat, x < 2 ^ f → x ≠ 0 → Lib.bitLenAux f x = Nat.log2 x + 1
  | 0, x, h, h0 => by simp at h; omega
  | f + 1, x, h, h0 => by
    unfold Lib.bitLenAux
    rw [if_neg h0]
    by_cases h2 : x < 2
    · obtain rfl : x = 1 := by omega
      have : Lib.bitLenAux f (1 / 2) = 0 := by cases f <;> simp [Lib.bitLenAux]
      rw [this]
      decide
    · rw [bitLenAux_log f (x / 2) (by rw [Nat.pow_succ] at h; omega) (by omega)]
      have := Nat.log2_def x
      rw [if_pos (by omega)] at this
      omega
theorem c_top (f : Fld) (n : Nat) (hf : f.bits < 18446744073709551616) (hn : n ≤ 59) : AOk Tryz.prog 137 [fAV f, .sc (.int .i64 n)] H (topAV (topB f.bits n)) H := by
  refine ACalls.into Tryz.func137 rfl Tryz.ntmps137 Tryz.results137 (by simp) ?_
  simp -implicitDefEqProofs [fAV]
  refine AAlloc.intro fun b hb => ?_
  have hm : min (n + 1) 64 = n + 1 := by omega
  have w1 : IntKind.i64.wrap ((n : Int) + 1) = ((n + 1 : Nat) : Int) := by rw [wrap_i64 (by omega) (by omega)]; push_cast; rfl
  have w2 : IntKind.u64.wrap (2 ^ (n + 1)) = (pow2 (n + 1) : Int) := shl_nat (by omega)
  have n0 : ¬ (n : Int) + 1 < 0 := by omega
  simp -implicitDefEqProofs [w1, hm, w2]
  refine go_draw 8 f_mixed (by decide +kernel) ?_
  obtain ⟨M, hM⟩ : ∃ M, f.bits % pow2 (n + 1) = M := ⟨_, rfl⟩
  have hp : pow2 (n + 1) < 18446744073709551616 := pow2_small (by omega)
  have hp1 : 1 ≤ pow2 (n + 1) := Nat.one_le_two_pow
  have hMl : M < pow2 (n + 1) := by rw [← hM]; exact Nat.mod_lt _ (by omega)
  have w3 : IntKind.u64.wrap ((pow2 (n + 1) : Int) - 1) = ((pow2 (n + 1) - 1 : Nat) : Int) := by
    rw [show ((pow2 (n + 1) : Int) - 1) = ((pow2 (n + 1) - 1 : Nat) : Int) by omega]
    exact wrap_u64 (by omega) (by omega)
  have w4 : bits .and .u64 (f.bits : Int) ((pow2 (n + 1) - 1 : Nat) : Int) = (M : Int) := by
    rw [u64_and_nat _ _ hf (by omega), ← hM]
    unfold pow2
    rw [Nat.and_two_pow_sub_one_eq_mod]
  have w5 : bits .and .u64 (f.bits : Int) (IntKind.u64.wrap ((pow2 (n + 1) : Int) - 1)) = (M : Int) := by rw [w3, w4]
  simp -implicitDefEqProofs [w1, hm, w2, n0, w5]
  refine ACall.eq (c_len64 (M : Int) (by omega) (by omega)) ?_
  have hb2 : M < 18446744073709551616 := by omega
  unfold topB
  rw [hM]
  by_cases h0 : M = 0
  · subst h0
    have w7 : IntKind.i64.wrap (((Lib.bitLen 0 : Nat) : Int) - 1) = -1 := by decide +kernel
    simp -implicitDefEqProofs [topAV, w7]
    exact HWk.new hb (HWk.refl _)
  · have h1 : Lib.bitLen M = M.log2 + 1 := by exact bitLenAux_log 64 M (by omega) h0
    have h2 : M.log2 < 64 := (Nat.log2_lt h0).2 (by omega)
    have w6 : IntKind.i64.wrap (((M.log2 + 1 : Nat) : Int) - 1) = (M.log2 : Int) := by rw [wrap_i64 (by omega) (by omega)]; omega
    have w7 : IntKind.i64.wrap (M.log2 : Int) = (M.log2 : Int) := wrap_i64 (by omega) (by omega)
    simp -implicitDefEqProofs [topAV, h0, h1, w6, w7]
    exact HWk.new hb (HWk.refl _)
def badE (x : Ex) (t : Int) : Int := if mayX x = false then 2 else if t < 0 ∨ 13569465600 ≤ t then 50 else 0
theorem c_floor_bad {t : Int} (h : t < 0 ∨ 13569465600 ≤ t) : AOk Tryz.prog 84 [.sc (.int .i64 t)] H (.tup [.sc (.int .i64 0), .sc (.int .i64 50)]) H := by
  refine ACalls.into Tryz.func84 rfl Tryz.ntmps84 Tryz.results84 (by simp) ?_
  simp -implicitDefEqProofs
  refine ACall.eq (c_is_s t) ?_
  have e : (decide (0 ≤ t) && decide (t < 13569465600)) = false := by simp; omega
  simp -implicitDefEqProofs [e]
theorem c_floor {t : Nat} (h : t < 13569465600) : AOk Tryz.prog 84 [.sc (.int .i64 t)] H (.tup [.sc (.int .i64 ((t / 60 * 60 : Nat) : Int)), .sc (.int .i64 0)]) H := by
  obtain ⟨q, hq⟩ : ∃ q, t % 60 = q := ⟨_, rfl⟩
  obtain ⟨z, hz⟩ : ∃ z, t / 60 * 60 = z := ⟨_, rfl⟩
  rw [hz]
  refine ACalls.into Tryz.func84 rfl Tryz.ntmps84 Tryz.results84 (by simp) ?_
  simp -implicitDefEqProofs
  refine ACall.eq (c_is_s t) ?_
  have e : (t : Int) < 13569465600 := by omega
  have w1 : (t : Int).tmod 60 = (q : Int) := wmod (b := 60) hq
  have w2 : IntKind.i64.wrap ((t : Int) - (q : Int)) = (z : Int) := wsub (by omega) (by omega) (by omega)
  simp -implicitDefEqProofs [e, w1, w2]
theorem c_nmay (x : Ex) (hx : x.ok) (t : Int) : AOk Tryz.prog 103 [exAV x, .sc (.int .i64 t)] H (.sc (.int .i64 (badE x t))) H := by
  refine ACalls.into Tryz.func103 rfl Tryz.ntmps103 Tryz.results103 (by simp) ?_
  simp -implicitDefEqProofs
  refine AAlloc.intro fun b2 h2 => ?_
  have hW : ∀ o, HWk H (H.set b2 o) := fun o => HWk.new h2 (HWk.refl _)
  simp -implicitDefEqProofs
  refine ACall.eq (c_cronMay x hx) ?_
  unfold badE
  cases hm : mayX x with
  | false =>
    simp -implicitDefEqProofs
    exact hW _
  | true =>
    simp -implicitDefEqProofs
    by_cases h : t < 0 ∨ 13569465600 ≤ t
    · rw [if_pos h]
      refine ACall.eq (c_floor_bad h) ?_
      simp -implicitDefEqProofs
      exact hW _
    · rw [if_neg h]
      obtain ⟨u, rfl⟩ := Int.eq_ofNat_of_zero_le (a := t) (by omega)
      refine ACall.eq (c_floor (t := u) (by omega)) ?_
      simp -implicitDefEqProofs
      exact hW _
theorem c_nfits (x : Ex) (hx : x.ok) {n : Nat} (hn : n < 157054) : AOk Tryz.prog 136 [exAV x, .sc (.int .i64 n)] H (.sc (.bool (mayX x && dayB x n))) H := by
  refine ACalls.into Tryz.func136 rfl Tryz.ntmps136 Tryz.results136 (by simp) ?_
  simp -implicitDefEqProofs
  refine AAlloc.intro fun b2 h2 => ?_
  obtain ⟨t, ht⟩ : ∃ t, n * 86400 = t := ⟨_, rfl⟩
  have w1 : IntKind.i64.wrap ((n : Int) * 86400) = (t : Int) := wmul (b := 86400) ht (by omega)
  have hdn := day_n x hn
  rw [ht] at hdn
  simp -implicitDefEqProofs [w1]
  refine ACall.eq (c_split_s (t := t) (by omega)) ?_
  simp -implicitDefEqProofs
  refine AAlloc.intro fun b5 h5 => ?_
  have n52 : b5 ≠ b2 := by intro e; subst e; simp [Heap.set] at h5
  have n25 := n52.symm
  have e5 : H b5 = none := (HLe.set_fresh h2).none h5
  simp -implicitDefEqProofs [n25]
  refine ACall.eq (c_dayFits x hx (clk t)) ?_
  rw [hdn]
  simp -implicitDefEqProofs
  exact HWk.new e5 (HWk.new h2 (HWk.refl _))
def outAV (r : Option Nat) : AV := .tup [.sc (.int .i64 (optN r : Int)), .sc (.int .i64 (errN r : Int))]
theorem c_last_bad {x : Ex} (hx : x.ok) {t : Int} (h : badE x t ≠ 0) : AOk Tryz.prog 72 [exAV x, .sc (.int .i64 t)] H (.tup [.sc (.int .i64 0), .sc (.int .i64 (badE x t))]) H := by
  refine ACalls.into Tryz.func72 rfl Tryz.ntmps72 Tryz.results72 (by simp) ?_
  simp -implicitDefEqProofs
  refine AAlloc.intro fun b2 h2 => ?_
  simp -implicitDefEqProofs
  refine ACall.eq (c_nmay x hx t) ?_
  generalize badE x t = e at *
  simp -implicitDefEqProofs [h]
  exact HWk.new h2 (HWk.refl _)
set_option maxHeartbeats 2000000 in
theorem c_last {x : Ex} (hx : x.ok) (hm : mayX x = true) {t : Nat} (ht : t < 13569465600) {r : Option Nat} (hr : IsLast x t r) : AOk Tryz.prog 72 [exAV x, .sc (.int .i64 t)] H (outAV r) H := by
  obtain ⟨D0, hD0⟩ : ∃ d, t / 86400 = d := ⟨_, rfl⟩
  obtain ⟨m0, hm0⟩ : ∃ d, t % 86400 = d := ⟨_, rfl⟩
  obtain ⟨m1, hm1⟩ : ∃ d, m0 / 60 = d := ⟨_, rfl⟩
  have hO := outL_init (x := x) ht
  rw [hD0, hm0, hm1] at hO
  have w1 : IntKind.i64.wrap ((t : Int) / 86400) = (D0 : Int) := wdiv (b := 86400) hD0 (by omega)
  have w2 : (t : Int).tmod 86400 = (m0 : Int) := wmod (b := 86400) hm0
  have w3 : IntKind.i64.wrap ((m0 : Int) / 60) = (m1 : Int) := wdiv (b := 60) hm1 (by omega)
  have e0 : badE x (t : Int) = 0 := by unfold badE; rw [if_neg (by simp [hm]), if_neg (by omega)]
  refine ACalls.into Tryz.func72 rfl Tryz.ntmps72 Tryz.results72 (by simp) ?_
  simp -implicitDefEqProofs
  refine AAlloc.intro fun b2 h2 => ?_
  simp -implicitDefEqProofs
  generalize hK : Heap.set _ b2 _ = K0
  have k2 : K0 b2 = some (.cells (exC x) 42) := by rw [← hK]; simp [Heap.set]
  have kW : HWk H K0 := by rw [← hK]; exact HWk.new h2 (HWk.refl _)
  clear hK
  refine ACall.eq (c_nmay x hx t) ?_
  rw [e0]
  simp -implicitDefEqProofs [w1, w2, w3]
  refine AGo.rounds (fun m ρ K => ∃ (D mm : Nat) (d : Int), m = D ∧ d = (D : Int) - 1 ∧ OutL x t D mm ∧ ρ 2 = .sc (.pointer (some ⟨b2, 0, none⟩)) ∧ ρ 7 = .sc (.int .i64 d) ∧ ρ 8 = .sc (.int .i64 mm) ∧ K b2 = some (.cells (exC x) 42) ∧ HWk H K) ?_ (m := D0 + 1) (HLe.refl _)
    ⟨D0 + 1, m1, D0, rfl, by omega, hO, by simp, by simp, by simp, k2, kW⟩
  rintro m ρ K ih ⟨D, mm, d, hmD, hd, hO, r2, r7, r8, k2, kW⟩
  subst hmD
  rcases m with _ | n
  · obtain rfl : d = -1 := by omega
    obtain rfl := last_one hr (outL_end hO)
    simp -implicitDefEqProofs [r7, outAV, optN, errN]
    exact kW
  · obtain rfl : d = (n : Int) := by omega
    have hn : n < 157054 := by have := hO.2.1; omega
    have hmm : mm ≤ 1439 := hO.1
    have hoM := fun h => outL_month (n := n) ht hO h
    have hcm := civ_month hn
    simp -implicitDefEqProofs [r7]
    refine ACall.eq (c_of hn) ?_
    generalize civ n = cv at *
    obtain ⟨Y, M, Dd⟩ := cv
    simp only at hcm hoM
    simp -implicitDefEqProofs
    refine AAlloc.intro fun b9 h9 => ?_
    have n29 : b2 ≠ b9 := by intro e; subst e; rw [k2] at h9; cases h9
    have n92 := n29.symm
    simp -implicitDefEqProofs [r2, n29, n92, k2]
    generalize hK : Heap.set K b9 _ = K1
    have k21 : K1 b2 = some (.cells (exC x) 42) := by rw [← hK]; simp [Heap.set, n29, k2]
    have k9 : K1 b9 = some (.cells [.sc (.int .i64 Y), .sc (.int .i64 M), .sc (.int .i64 Dd)] 46) := by rw [← hK]; simp [Heap.set]
    have kW1 : HWk H K1 := by rw [← hK]; exact HWk.new (kW.none h9) kW
    clear hK
    refine ACall.eq (c_has x.d M hx.d) ?_
    cases hM : hasB x.d.bits M with
    | false =>
      obtain ⟨q1, hq1⟩ : ∃ q, Dd - 1 = q := ⟨_, rfl⟩
      obtain ⟨q2, hq2⟩ : ∃ q, n - q1 = q := ⟨_, rfl⟩
      have w4 : IntKind.i64.wrap ((Dd : Int) - 1) = (q1 : Int) := wsub (b := 1) hq1 (by omega) (by omega)
      have w5 : IntKind.i64.wrap ((n : Int) - (q1 : Int)) = (q2 : Int) := wsub hq2 (by omega) (by omega)
      have w6 : IntKind.i64.wrap ((q2 : Int) - 1) = (q2 : Int) - 1 := wrap_i64 (by omega) (by omega)
      have hO' := hoM hM
      rw [show n + 1 - Dd = q2 by omega] at hO'
      simp -implicitDefEqProofs [r7, k9, w4, w5, w6]
      exact AGo.again ih (m' := q2) (by omega) (HLe.refl _) ⟨q2, 1439, _, rfl, rfl, hO', by simp [r2], by simp, by simp, k21, kW1⟩
    | true =>
      have w7 : IntKind.i64.wrap ((n : Int) - 1) = (n : Int) - 1 := wrap_i64 (by omega) (by omega)
      simp -implicitDefEqProofs [r2, r7, k21]
      refine ACall.eq (c_nfits x hx hn) ?_
      rw [hm]
      cases hdb : dayB x n with
      | false =>
        simp -implicitDefEqProofs [r7, w7]
        exact AGo.again ih (m' := n) (by omega) (HLe.refl _) ⟨n, 1439, _, rfl, rfl, outL_day ht hO hdb, by simp [r2], by simp, by simp, k21, kW1⟩
      | true =>
        obtain ⟨hh, hhh⟩ : ∃ q, mm / 60 = q := ⟨_, rfl⟩
        have w8 : IntKind.i64.wrap ((mm : Int) / 60) = (hh : Int) := wdiv (b := 60) hhh (by omega)
        have hI := inL_init hO hdb
        rw [hhh] at hI
        simp -implicitDefEqProofs [r8, w8]
        refine AGo.rounds (fun m ρ K => ∃ (HH m2 : Nat) (h : Int), m = HH ∧ h = (HH : Int) - 1 ∧ InL x t n HH (m2 % 60) ∧ m2 ≤ 1439 ∧ ρ 2 = .sc (.pointer (some ⟨b2, 0, none⟩)) ∧ ρ 7 = .sc (.int .i64 n) ∧ ρ 8 = .sc (.int .i64 m2) ∧ ρ 11 = .sc (.int .i64 h) ∧ K = K1) ?_ (m := hh + 1) (HLe.refl _)
          ⟨hh + 1, mm, hh, rfl, by omega, hI, hmm, by simp [r2], by simp [r7], by simp [r8], by simp, rfl⟩
        clear hI hmm hO r2 r7 r8 hoM
        rintro m' ρ' K ih2 ⟨HH, m2, hv, hmH, hhv, hI, hm2, r2, r7, r8, r11, rfl⟩
        subst hmH
        rcases m' with _ | h
        · obtain rfl : hv = -1 := by omega
          simp -implicitDefEqProofs [r11, r7, w7]
          exact AGo.again ih (m' := n) (by omega) (HLe.refl _) ⟨n, 1439, _, rfl, rfl, inL_end hI, by simp [r2], by simp, by simp, k21, kW1⟩
        · obtain rfl : hv = (h : Int) := by omega
          have hh24 : h ≤ 23 := by have := hI.2.1; omega
          simp -implicitDefEqProofs [r11, r2, k21]
          refine ACall.eq (c_top x.b h hx.b (by omega)) ?_
          cases htb : topB x.b.bits h with
          | none =>
            have hno := topB_none htb
            simp -implicitDefEqProofs [topAV, r7, w7]
            exact AGo.again ih (m' := n) (by omega) (HLe.refl _) ⟨n, 1439, _, rfl, rfl, inL_none ht hI (fun j hj => by rw [has_bit (by omega)]; exact hno j hj), by simp [r2], by simp, by simp, k21, kW1⟩
          | some h' =>
            obtain ⟨g1, g2, g3⟩ := topB_some htb
            have g2' : hasB x.b.bits (h' : Int) = true := by rw [has_bit (by omega)]; exact g2
            simp -implicitDefEqProofs [topAV, r11]
            refine ABr.join (fun ρ K' => K' = K ∧ ∃ m3 : Nat, m3 ≤ 1439 ∧ InL x t n (h' + 1) (m3 % 60) ∧ ρ 2 = .sc (.pointer (some ⟨b2, 0, none⟩)) ∧ ρ 7 = .sc (.int .i64 n) ∧ ρ 8 = .sc (.int .i64 m3) ∧ ρ 11 = .sc (.int .i64 h')) (fun k' hk' => ?_) ?_
            · by_cases hlt : h' < h
              · have hlt' : (h' : Int) < (h : Int) := by omega
                simp -implicitDefEqProofs [hlt, hlt']
                exact hk' _ _ ⟨rfl, 59, by omega, inL_down ht hI hlt (fun j j1 j2 => by rw [has_bit (by omega)]; exact g3 j j1 j2), by simp [r2], by simp [r7], by simp, by simp⟩
              · obtain rfl : h' = h := by omega
                simp -implicitDefEqProofs
                exact hk' _ _ ⟨rfl, m2, hm2, hI, by simp [r2], by simp [r7], by simp [r8], by simp [r11]⟩
            · clear r2 r7 r8 r11
              rintro ρ2 K' ⟨rfl, m3, hm3, hI3, r2, r7, r8, r11⟩
              obtain ⟨m4, hm4⟩ : ∃ q, m3 % 60 = q := ⟨_, rfl⟩
              have w9 : (m3 : Int).tmod 60 = (m4 : Int) := wmod (b := 60) hm4
              rw [hm4] at hI3
              have hm59 : m4 ≤ 59 := hI3.1
              simp -implicitDefEqProofs [r2, r8, k21, w9]
              refine ACall.eq (c_top x.a m4 hx.a hm59) ?_
              cases hta : topB x.a.bits m4 with
              | none =>
                have hno := topB_none hta
                have w10 : IntKind.i64.wrap ((h' : Int) - 1) = (h' : Int) - 1 := wrap_i64 (by omega) (by omega)
                simp -implicitDefEqProofs [topAV, r11, w10]
                exact AGo.again ih2 (m' := h') (by omega) (HLe.refl _) ⟨h', 59, _, rfl, rfl, inL_min ht hI3 (fun j hj => by rw [has_bit (by omega)]; exact hno j hj), by omega, by simp [r2], by simp [r7], by simp, by simp, rfl⟩
              | some m5 =>
                obtain ⟨f1, f2, f3⟩ := topB_some hta
                have f2' : hasB x.a.bits (m5 : Int) = true := by rw [has_bit (by omega)]; exact f2
                obtain rfl := last_one hr (inL_found ht hm hI3 g2' f2' f1 (fun j j1 j2 => by rw [has_bit (by omega)]; exact f3 j j1 j2))
                obtain ⟨P1, hP1⟩ : ∃ q, n * 86400 = q := ⟨_, rfl⟩
                obtain ⟨P2, hP2⟩ : ∃ q, h' * 3600 = q := ⟨_, rfl⟩
                obtain ⟨P3, hP3⟩ : ∃ q, P1 + P2 = q := ⟨_, rfl⟩
                obtain ⟨P4, hP4⟩ : ∃ q, m5 * 60 = q := ⟨_, rfl⟩
                obtain ⟨P5, hP5⟩ : ∃ q, P3 + P4 = q := ⟨_, rfl⟩
                have v1 : IntKind.i64.wrap ((n : Int) * 86400) = (P1 : Int) := wmul (b := 86400) hP1 (by omega)
                have v2 : IntKind.i64.wrap ((h' : Int) * 3600) = (P2 : Int) := wmul (b := 3600) hP2 (by omega)
                have v3 : IntKind.i64.wrap ((P1 : Int) + (P2 : Int)) = (P3 : Int) := wadd hP3 (by omega)
                have v4 : IntKind.i64.wrap ((m5 : Int) * 60) = (P4 : Int) := wmul (b := 60) hP4 (by omega)
                have v5 : IntKind.i64.wrap ((P3 : Int) + (P4 : Int)) = (P5 : Int) := wadd hP5 (by omega)
                rw [hP1, hP2, hP3, hP4, hP5]
                simp -implicitDefEqProofs [topAV, r7, r11, v1, v2, v3, v4, v5, outAV, optN, errN]
                exact kW1
end Go.Proofs.YtmoncokklkiikaaGreatDoor
