/- Fields: a text told is parsed back; two texts, joined. -/
import Derived.Test.YtdpgnbinekcgdaaGreatDoorFieldB
namespace Go.Proofs.YtdpgnbinekcgdaaGreatDoor
open Rg Go

theorem comp_bits {k : Int} (hk : isK k = true) : ∀ j, j < 64 → (18446744073709551615 - allK k).testBit j = !(decide (lowK k ≤ (j : Int)) && decide ((j : Int) ≤ mostK k)) := by
  rcases isK_cases hk with rfl | rfl | rfl | rfl | rfl <;> decide +kernel
theorem may_bits {k : Int} {b : Nat} (hb : b < 18446744073709551616) (h : mayB k b = true) : isK k = true ∧ b ≠ 0 ∧ ∀ j, b.testBit j = true → lowK k ≤ (j : Int) ∧ (j : Int) ≤ mostK k := by
  simp only [mayB, Bool.and_eq_true, decide_eq_true_eq] at h
  obtain ⟨⟨hk, h0⟩, hz⟩ := h
  refine ⟨hk, h0, fun j hj => ?_⟩
  have h1 := congrArg (fun x => x.testBit j) hz
  simp only [Nat.testBit_and, hj, Bool.true_and, Nat.zero_testBit] at h1
  rw [comp_bits hk j (by have := testBit_high hb hj; omega)] at h1
  simpa using h1

theorem piece_elem {b : Nat} (hb : b < 18446744073709551616) (hr : ∀ j, b.testBit j = true → j ≤ 59) : ∀ (f a : Nat), ∀ x ∈ pieces2 b f a, (44 : UInt8) ∉ x ∧ Lib.hasPrefix x [42] = false ∧ x ≠ []
  | 0, a, x, h => by simp [pieces2] at h
  | f + 1, a, x, h => by
    unfold pieces2 at h
    cases hf : firstB b a with
    | none => rw [hf] at h; simp at h
    | some n =>
      rw [hf] at h
      obtain ⟨n1, n2, n3, n4⟩ := firstB_some hb hf
      obtain ⟨e1, e2⟩ := runEnd_le b 64 n n2
      obtain ⟨e3, e4⟩ := runEnd_bits hb 64 n n3
      simp only at h
      generalize runEnd b 64 n = e at *
      have hn := hr n n3
      have he := hr e (e3 e e1 (Nat.le_refl _))
      obtain ⟨_, _, _, _, c44, _, c42, _, cne⟩ := dec_facts n (by omega)
      rcases List.mem_append.1 h with h | h
      · split at h
        · obtain ⟨_, _, _, _, d44, _, d42, _, dne⟩ := dec_facts e (by omega)
          simp only [List.mem_singleton] at h
          subst h
          refine ⟨?_, ?_, by simp⟩
          · simp only [List.mem_append, List.mem_singleton, not_or]
            exact ⟨⟨no_mem c44, by decide⟩, no_mem d44⟩
          · cases hd : dec2 n with
            | nil => exact absurd hd cne
            | cons y r => rw [hd] at c42; simpa [Lib.hasPrefix, List.isPrefixOf] using c42
        · obtain ⟨i, hi, rfl⟩ := List.mem_map.1 h
          have hi2 := List.mem_range'_1.1 hi
          obtain ⟨_, _, _, _, d44, _, d42, _, dne⟩ := dec_facts i (by omega)
          exact ⟨no_mem d44, d42, dne⟩
      · exact piece_elem hb hr f _ x h

set_option maxRecDepth 100000 in
theorem parse_star {k : Int} (hk : isK k = true) : parseK k [42] = (⟨allK k, true⟩, 0) := by
  rcases isK_cases hk with rfl | rfl | rfl | rfl | rfl <;> decide +kernel

theorem text_back {k : Int} {f : Fld} (hb : f.bits < 18446744073709551616) (h : mayB k f.bits = true) : parseK k (textK k f) = (⟨f.bits, decide (textK k f = [42])⟩, 0) ∧ (textK k f).length ≤ 150 := by
  obtain ⟨hk, h0, hr⟩ := may_bits hb h
  have hbd := bounds_le hk
  have hr2 : ∀ j, f.bits.testBit j = true → j ≤ 59 := fun j hj => by have := hr j hj; omega
  unfold textK
  rw [if_neg (by simp [h])]
  by_cases hs : f.star = true ∧ f.bits = allK k
  · rw [if_pos hs, parse_star hk, hs.2]
    simp
  · rw [if_neg hs, pieces_eq hb]
    obtain ⟨n, hn⟩ : ∃ n, firstB f.bits ((0 : Nat) : Int) = some n := by
      cases hf : firstB f.bits ((0 : Nat) : Int) with
      | some n => exact ⟨n, rfl⟩
      | none =>
        have := firstB_none hb hf
        exact absurd (Nat.eq_of_testBit_eq fun j => by rw [this j (by simp), Nat.zero_testBit]) h0
    have hcost := cost_le hb hr2 66 0 n hn
    have helem := piece_elem hb hr2 66 0
    obtain ⟨hok, hbits⟩ := pieces_bits hk hb hr 66 0 (by omega)
    have hne : pieces2 f.bits 66 0 ≠ [] := by
      intro h1
      have e : f.bits = 0 := Nat.eq_of_testBit_eq fun j => by
        have h2 := hbits j
        rw [h1] at h2
        simpa [orAll] using h2.symm
      exact h0 e
    have hor : orAll k (pieces2 f.bits 66 0) = f.bits := Nat.eq_of_testBit_eq fun j => by rw [hbits j]; simp
    generalize pieces2 f.bits 66 0 = L at *
    cases L with
    | nil => exact absurd rfl hne
    | cons x r =>
      have hsp := sp_join (c := 44) r x fun y hy => (helem y hy).1
      have hpre : Lib.hasPrefix (Lib.join (x :: r) [44]) [42] = false := by
        obtain ⟨_, h1, h2⟩ := helem x (by simp)
        rw [Lib.join_cons]
        cases x with
        | nil => exact absurd rfl h2
        | cons y t => simpa [Lib.hasPrefix, List.isPrefixOf] using h1
      have hne2 : Lib.join (x :: r) [44] ≠ [42] := fun e => by rw [e] at hpre; simp [Lib.hasPrefix, List.isPrefixOf] at hpre
      have hlen : (Lib.join (x :: r) [44]).length ≤ 150 := by
        rw [Lib.join_length]
        simp only [cost, List.length_cons] at hcost
        simp
        omega
      refine ⟨?_, hlen⟩
      rw [parse_eq hk hlen, hsp, if_neg (by simp [hok]), hor, hpre]
      simp [hne2]

/-- Two texts, joined by a comma. -/
theorem parse_join {k : Int} {s t : List UInt8} (hs : s.length ≤ 45) (ht : t.length ≤ 45) :
    ((parseK k s).2 = 0 → (parseK k t).2 = 0 → parseK k (s ++ [44] ++ t) = (⟨(parseK k s).1.bits ||| (parseK k t).1.bits, (parseK k s).1.star⟩, 0) ∧ mayB k ((parseK k s).1.bits ||| (parseK k t).1.bits) = true) ∧
    (¬ ((parseK k s).2 = 0 ∧ (parseK k t).2 = 0) → (parseK k (s ++ [44] ++ t)).2 ≠ 0) := by
  have e0 : s ++ [44] ++ t = s ++ 44 :: t := by simp
  rw [e0]
  cases hk : isK k with
  | false =>
    have hp : ∀ x, parseK k x = (⟨0, false⟩, 2) := fun x => by unfold parseK; rw [if_pos hk]
    simp [hp]
  | true =>
    rw [parse_eq hk (by omega : s.length ≤ 150), parse_eq hk (by omega : t.length ≤ 150), parse_eq hk (by simp; omega : (s ++ 44 :: t).length ≤ 150), sp_app, firstErr_app, orAll_app, prefix_app]
    by_cases h1 : firstErr k (sp 44 s) = 0 <;> by_cases h2 : firstErr k (sp 44 t) = 0
    · simp only [h1, h2, ne_eq, not_true_eq_false, if_false]
      refine ⟨fun _ _ => ⟨by trivial, ?_⟩, fun h => by simp at h⟩
      obtain ⟨a1, a2⟩ := orAll_ok hk h1
      obtain ⟨b1, b2⟩ := orAll_ok hk h2
      refine may_of hk (fun h => a1 (sp_ne _ _) (Nat.or_eq_zero_iff.1 h).1) fun j hj => ?_
      rw [Nat.testBit_or, Bool.or_eq_true] at hj
      rcases hj with hj | hj
      · exact a2 j hj
      · exact b2 j hj
    · simp [h1, h2]
    · simp [h1, h2]
    · simp [h1, h2]
theorem parse_lt (k : Int) (s : List UInt8) : (parseK k s).1.bits < 18446744073709551616 := by
  unfold parseK
  split
  · exact (by decide : (0 : Nat) < 18446744073709551616)
  · rename_i hk
    split
    · exact (by decide : (0 : Nat) < 18446744073709551616)
    · rw [parseGo_eq]
      split
      · exact (by decide : (0 : Nat) < 18446744073709551616)
      · have hk' : isK k = true := by simpa using hk
        have : ∀ L, orAll k L < 18446744073709551616 := by
          intro L
          induction L with
          | nil => exact (by decide : (0 : Nat) < 18446744073709551616)
          | cons x r ih => exact or_small (itemK_lt hk' x) ih
        exact or_small (a := 0) (by decide) (this _)
end Go.Proofs.YtdpgnbinekcgdaaGreatDoor
