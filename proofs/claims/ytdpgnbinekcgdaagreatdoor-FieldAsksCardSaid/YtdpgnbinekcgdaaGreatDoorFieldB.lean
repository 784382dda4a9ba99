/- Fields: a field's text, parsed, allows the same. -/
import Derived.Test.YtdpgnbinekcgdaaGreatDoorFieldL
namespace Go.Proofs.YtdpgnbinekcgdaaGreatDoor
open Rg Go

set_option maxRecDepth 100000 in
theorem dec_facts : ∀ n, n < 60 → dig2 (dec2 n) = true ∧ Lib.atoi (dec2 n) = some (n : Int) ∧ (dec2 n).contains 45 = false ∧ (dec2 n).contains 47 = false ∧ (dec2 n).contains 44 = false ∧ dec2 n ≠ [42] ∧ Lib.hasPrefix (dec2 n) [42] = false ∧ (dec2 n).length ≤ 2 ∧ dec2 n ≠ [] := by decide +kernel
theorem no_mem {c : UInt8} {s : List UInt8} (h : s.contains c = false) : c ∉ s := by
  intro hm
  rw [List.contains_iff_mem.2 hm] at h
  cases h
theorem dec_num (k : Int) {n : Nat} (h : n < 60) : numK k (dec2 n) = ((n : Int), true) := by
  obtain ⟨h1, h2, _⟩ := dec_facts n h
  unfold numK
  rw [if_pos h1, h2]
  rfl
theorem take_ok {k : Int} {n : Nat} (h : n < 60) (h1 : lowK k ≤ (n : Int)) (h2 : (n : Int) ≤ highK k) : takeE k (dec2 n) 0 = 0 := by
  unfold takeE
  rw [dec_num k h, if_neg (by simp), if_neg (by simp; omega)]

/-- A number, a range: what they allow. -/
theorem item_one {k : Int} (hk : isK k = true) {n : Nat} (h1 : lowK k ≤ (n : Int)) (h2 : (n : Int) ≤ mostK k) : (itemK k (dec2 n)).2 = 0 ∧ ∀ j, (itemK k (dec2 n)).1.testBit j = decide (j = n) := by
  have hb := bounds_le hk
  obtain ⟨_, _, c45, c47, _, c42, _⟩ := dec_facts n (by omega)
  have e : itemK k (dec2 n) = (setFrom (mostK k + 1).toNat 1 n 200 n 0, 0) := by
    unfold itemK
    rw [cut_ct, ct_not (no_mem c47)]
    simp only [Bool.false_eq_true, if_false]
    unfold bodyK
    rw [if_neg c42, cut_ct, ct_not (no_mem c45)]
    simp only [Bool.false_eq_true, false_and, if_false]
    rw [dec_num k (by omega), take_ok (by omega) h1 (by omega)]
    unfold finK
    rw [if_neg (by simp), if_neg (by omega)]
    rfl
  rw [e]
  refine ⟨rfl, fun j => ?_⟩
  simp only
  rw [setFrom_one (by omega) _ _ _ _ (by omega)]
  by_cases hj : j = n
  · subst hj; simp
  · simp [hj]; omega
theorem item_two {k : Int} (hk : isK k = true) {n m : Nat} (h1 : lowK k ≤ (n : Int)) (h2 : (m : Int) ≤ mostK k) (hnm : n ≤ m) : (itemK k (dec2 n ++ [45] ++ dec2 m)).2 = 0 ∧ ∀ j, (itemK k (dec2 n ++ [45] ++ dec2 m)).1.testBit j = (decide (n ≤ j) && decide (j ≤ m)) := by
  have hb := bounds_le hk
  obtain ⟨_, _, c45, c47, _, c42, _, _, cne⟩ := dec_facts n (by omega)
  obtain ⟨_, _, d45, d47, _, d42, _⟩ := dec_facts m (by omega)
  have e : itemK k (dec2 n ++ [45] ++ dec2 m) = (setFrom (mostK k + 1).toNat 1 m 200 n 0, 0) := by
    have e0 : dec2 n ++ [45] ++ dec2 m = dec2 n ++ 45 :: dec2 m := by simp
    rw [e0]
    unfold itemK
    have hno : (47 : UInt8) ∉ dec2 n ++ 45 :: dec2 m := by
      simp only [List.mem_append, List.mem_cons, not_or]
      exact ⟨no_mem c47, by decide, no_mem d47⟩
    rw [cut_ct, ct_not hno]
    simp only [Bool.false_eq_true, if_false]
    unfold bodyK
    have hne : dec2 n ++ 45 :: dec2 m ≠ [42] := by
      intro h
      cases hd : dec2 n with
      | nil => exact cne hd
      | cons x r => rw [hd] at h; simp at h
    rw [if_neg hne, cut_ct, ct_app (no_mem c45)]
    simp only [Bool.true_eq_false, and_false, if_false, if_true]
    rw [dec_num k (by omega), dec_num k (by omega), take_ok (by omega) h1 (by omega), take_ok (by omega) (by omega) (by omega)]
    unfold finK
    rw [if_neg (by simp), if_neg (by omega)]
    rfl
  rw [e]
  refine ⟨rfl, fun j => ?_⟩
  simp only
  rw [setFrom_one (by omega) _ _ _ _ (by omega)]
  simp

theorem items_row {k : Int} (hk : isK k = true) : ∀ (c n : Nat), lowK k ≤ (n : Int) → ((n + c : Nat) : Int) ≤ mostK k + 1 → firstErr k ((List.range' n c).map dec2) = 0 ∧ ∀ j, (orAll k ((List.range' n c).map dec2)).testBit j = (decide (n ≤ j) && decide (j < n + c))
  | 0, n, _, _ => ⟨rfl, fun j => by simp [orAll]; try omega⟩
  | c + 1, n, h1, h2 => by
    obtain ⟨i1, i2⟩ := item_one hk (n := n) h1 (by push_cast at h2; omega)
    obtain ⟨r1, r2⟩ := items_row hk c (n + 1) (by push_cast; omega) (by push_cast at *; omega)
    rw [List.range'_succ, List.map_cons]
    refine ⟨?_, fun j => ?_⟩
    · unfold firstErr; rw [if_neg (by simp [i1])]; exact r1
    · unfold orAll
      rw [Nat.testBit_or, i2, r2]
      by_cases hj : j = n
      · subst hj; simp
      · by_cases h3 : n ≤ j <;> by_cases h4 : j < n + (c + 1) <;> simp [hj, h3, h4] <;> try omega

theorem runEnd_bits {b : Nat} (hb : b < 18446744073709551616) : ∀ (f n : Nat), b.testBit n = true → (∀ j, n ≤ j → j ≤ runEnd b f n → b.testBit j = true) ∧ (64 ≤ n + f → b.testBit (runEnd b f n + 1) = false)
  | 0, n, h => by
    have := testBit_high hb h
    exact ⟨fun j h1 h2 => by simp [runEnd] at h2; obtain rfl : j = n := by omega
                             exact h, fun h' => by omega⟩
  | f + 1, n, h => by
    unfold runEnd
    by_cases hh : hasB b ((n + 1 : Nat) : Int) = true
    · rw [if_pos hh]
      have h1 : b.testBit (n + 1) = true := by simp [hasB] at hh; exact_mod_cast hh.2
      obtain ⟨r1, r2⟩ := runEnd_bits hb f (n + 1) h1
      refine ⟨fun j h2 h3 => ?_, fun h' => r2 (by omega)⟩
      by_cases hj : j = n
      · subst hj; exact h
      · exact r1 j (by omega) h3
    · rw [if_neg hh]
      refine ⟨fun j h1 h2 => by obtain rfl : j = n := by omega
                                exact h, fun h' => ?_⟩
      cases ht : b.testBit (n + 1) with
      | false => rfl
      | true =>
        have h63 := testBit_high hb ht
        rw [hasB_nat2 b (n + 1) h63, ht] at hh
        exact absurd rfl hh

theorem pieces_bits {k : Int} (hk : isK k = true) {b : Nat} (hb : b < 18446744073709551616) (hr : ∀ j, b.testBit j = true → lowK k ≤ (j : Int) ∧ (j : Int) ≤ mostK k) :
    ∀ (f a : Nat), 65 ≤ a + f → firstErr k (pieces2 b f a) = 0 ∧ ∀ j, (orAll k (pieces2 b f a)).testBit j = (decide (a ≤ j) && b.testBit j)
  | 0, a, h => by
    refine ⟨rfl, fun j => ?_⟩
    simp only [pieces2, orAll, Nat.zero_testBit]
    cases hj : b.testBit j with
    | false => simp
    | true => have := testBit_high hb hj; simp; omega
  | f + 1, a, h => by
    unfold pieces2
    cases hf : firstB b a with
    | none =>
      refine ⟨rfl, fun j => ?_⟩
      have := firstB_none hb hf
      simp only [orAll, Nat.zero_testBit]
      by_cases hj : a ≤ j
      · rw [this j (by simpa using hj)]; simp
      · simp [hj]
    | some n =>
      obtain ⟨n1, n2, n3, n4⟩ := firstB_some hb hf
      simp only [Int.toNat_natCast] at n1 n4
      obtain ⟨e1, e2⟩ := runEnd_le b 64 n n2
      obtain ⟨e3, e4⟩ := runEnd_bits hb 64 n n3
      simp only
      generalize runEnd b 64 n = e at *
      have hn := hr n n3
      have he := hr e (e3 e e1 (Nat.le_refl _))
      obtain ⟨p1, p2⟩ := pieces_bits hk hb hr f (e + 1) (by omega)
      have key : ∀ P : List (List UInt8), firstErr k P = 0 → (∀ j, (orAll k P).testBit j = (decide (n ≤ j) && decide (j ≤ e))) →
          firstErr k (P ++ pieces2 b f (e + 1)) = 0 ∧ ∀ j, (orAll k (P ++ pieces2 b f (e + 1))).testBit j = (decide (a ≤ j) && b.testBit j) := by
        intro P q1 q2
        refine ⟨by rw [firstErr_app, q1, p1]; simp, fun j => ?_⟩
        rw [orAll_app, Nat.testBit_or, q2, p2]
        by_cases hj1 : j < a
        · have : ¬ n ≤ j := by omega
          have h2 : ¬ e + 1 ≤ j := by omega
          have h3 : ¬ a ≤ j := by omega
          simp [this, h2, h3]
        · by_cases hj2 : j < n
          · have : ¬ n ≤ j := by omega
            have h2 : ¬ e + 1 ≤ j := by omega
            simp [this, h2, n4 j (by omega) hj2]
          · by_cases hj3 : j ≤ e
            · have h3 : a ≤ j := by omega
              have h4 : n ≤ j := by omega
              simp [h3, h4, hj3, e3 j h4 hj3]
            · have h3 : a ≤ j := by omega
              have h5 : e + 1 ≤ j := by omega
              simp [h3, hj3, h5]
      split
      · obtain ⟨i1, i2⟩ := item_two hk (n := n) (m := e) hn.1 he.2 e1
        refine key _ ?_ ?_
        · unfold firstErr; rw [if_neg (by rw [i1]; simp)]; rfl
        · intro j; unfold orAll; rw [Nat.testBit_or, i2]; simp [orAll]
      · obtain ⟨i1, i2⟩ := items_row hk (e + 1 - n) n hn.1 (by omega)
        refine key _ i1 fun j => ?_
        rw [i2]
        by_cases h1 : n ≤ j <;> by_cases h2 : j ≤ e <;> simp [h1, h2] <;> omega

/-! ### How long the text is -/
def cost (L : List (List UInt8)) : Nat := Lib.lens L + L.length
theorem cost_app (A B : List (List UInt8)) : cost (A ++ B) = cost A + cost B := by simp [cost, Lib.lens]; omega
theorem cost_le {b : Nat} (hb : b < 18446744073709551616) (hr : ∀ j, b.testBit j = true → j ≤ 59) : ∀ (f a n : Nat), firstB b a = some n → cost (pieces2 b f a) ≤ 2 * (62 - n)
  | 0, a, n, _ => by simp [pieces2, cost, Lib.lens]
  | f + 1, a, n, hf => by
    unfold pieces2
    rw [hf]
    obtain ⟨n1, n2, n3, n4⟩ := firstB_some hb hf
    obtain ⟨e1, e2⟩ := runEnd_le b 64 n n2
    obtain ⟨e3, e4⟩ := runEnd_bits hb 64 n n3
    simp only
    generalize runEnd b 64 n = e at *
    have hn := hr n n3
    have he := hr e (e3 e e1 (Nat.le_refl _))
    have hrest : cost (pieces2 b f (e + 1)) ≤ 2 * (60 - e) := by
      cases hf2 : firstB b ((e + 1 : Nat) : Int) with
      | none =>
        cases f with
        | zero => simp [pieces2, cost, Lib.lens]
        | succ f => unfold pieces2; rw [hf2]; simp [cost, Lib.lens]
      | some n' =>
        have h1 := cost_le hb hr f (e + 1) n' hf2
        obtain ⟨m1, m2, m3, m4⟩ := firstB_some hb hf2
        simp only [Int.toNat_natCast] at m1
        have : n' ≠ e + 1 := by rintro rfl; rw [e4 (by omega)] at m3; cases m3
        omega
    have hlen : ∀ i, i < 60 → (dec2 i).length ≤ 2 := fun i hi => (dec_facts i hi).2.2.2.2.2.2.2.1
    rw [cost_app]
    split
    · have h1 := hlen n (by omega)
      have h2 := hlen e (by omega)
      have : cost [dec2 n ++ [45] ++ dec2 e] ≤ 6 := by simp [cost, Lib.lens]; omega
      omega
    · have : ∀ c m, m + c ≤ 60 → cost ((List.range' m c).map dec2) ≤ 3 * c := by
        intro c
        induction c with
        | zero => intro m _; simp [cost, Lib.lens]
        | succ c ih =>
          intro m hm
          rw [List.range'_succ, List.map_cons]
          have h1 := ih (m + 1) (by omega)
          have h2 := hlen m (by omega)
          simp [cost, Lib.lens] at h1 ⊢
          omega
      have := this (e + 1 - n) n (by omega)
      omega
end Go.Proofs.YtdpgnbinekcgdaaGreatDoor
