/- Split and Cut at one byte, in plain words. Fields: plain laws of what a text's items allow. Fields: a field's text, parsed, allows the same. Fields: a text told is parsed back; two texts, joined. -/
import Derived.Test.YtmoncokklkiikaaGreatDoorP14
import Derived.Lib.SplitLaws
set_option linter.unusedSimpArgs false
set_option linter.unusedVariables false
set_option linter.unnecessarySimpa false
namespace Go.Proofs.YtmoncokklkiikaaGreatDoor
open Rg Go
def sp (c : UInt8) : List UInt8 → List (List UInt8)
  | [] => [[]]
  | x :: r => if x = c then [] :: sp c r else match sp c r with
    | [] => [[x]]
    | h :: t => (x :: h) :: t
def ct (c : UInt8) : List UInt8 → List UInt8 × List UInt8 × Bool
  | [] => ([], [], false)
  | x :: r => if x = c then ([], r, true) else (x :: (ct c r).1, (ct c r).2)
theorem index_eq (c : UInt8) (l : List UInt8) : Lib.index (c :: l) [c] = 0 := by rw [Lib.index]; simp [List.isPrefixOf]
theorem index_ne {b c : UInt8} (l : List UInt8) (h : b ≠ c) : Lib.index (b :: l) [c] = if Lib.index l [c] == -1 then -1 else Lib.index l [c] + 1 := by
  rw [Lib.index]
  simp [List.isPrefixOf, Ne.symm h]
theorem split_sp (c : UInt8) : ∀ s : List UInt8, Lib.split s [c] = sp c s
  | [] => by simp [Lib.split, sp, Lib.count_one, Lib.splitK]
  | x :: r => by
    have ih := split_sp c r
    unfold Lib.split at ih ⊢
    by_cases hx : x = c
    · subst hx
      rw [Lib.count_cons_eq, Nat.add_comm 1]
      simp only [Lib.splitK, index_eq, sp, if_true]
      rw [if_neg (by decide)]
      simp [← ih]
    · rw [Lib.count_cons_ne _ _ _ hx]
      simp only [sp, if_neg hx, ← ih]
      cases hk : Lib.count r [c] with
      | zero => simp [Lib.splitK]
      | succ k =>
        have hi : Lib.index r [c] ≠ -1 := fun h => by rw [Lib.count_miss h] at hk; cases hk
        have hge := Lib.index_ge r [c]
        obtain ⟨j, hj⟩ : ∃ j : Nat, Lib.index r [c] = j := ⟨(Lib.index r [c]).toNat, by omega⟩
        have hne : ¬ ((j : Int) == -1) = true := by simp
        simp only [Lib.splitK, index_ne r hx, hj, if_neg hne]
        have hne2 : ¬ ((j : Int) + 1 == -1) = true := by simp; omega
        rw [if_neg hne2]
        have e : ((j : Int) + 1).toNat = j + 1 := by omega
        simp [e]
theorem cut_ct (c : UInt8) : ∀ s : List UInt8, Lib.cut s [c] = ct c s
  | [] => by simp [Lib.cut, ct, Lib.index]
  | x :: r => by
    have ih := cut_ct c r
    unfold Lib.cut at ih ⊢
    by_cases hx : x = c
    · subst hx
      simp [index_eq, ct]
    · simp only [ct, if_neg hx, ← ih, index_ne r hx]
      by_cases hi : Lib.index r [c] = -1
      · simp [hi]
      · have hge := Lib.index_ge r [c]
        obtain ⟨j, hj⟩ : ∃ j : Nat, Lib.index r [c] = j := ⟨(Lib.index r [c]).toNat, by omega⟩
        have hne : ¬ ((j : Int) == -1) = true := by simp
        rw [hj, if_neg hne, if_pos (by omega), if_pos (by omega)]
        have e : ((j : Int) + 1).toNat = j + 1 := by omega
        simp [e]
theorem ct_not {c : UInt8} : ∀ {s : List UInt8}, c ∉ s → ct c s = (s, [], false)
  | [], _ => rfl
  | x :: r, h => by
    simp only [List.mem_cons, not_or] at h
    simp [ct, if_neg (Ne.symm h.1), ct_not h.2]
theorem ct_app {c : UInt8} {b : List UInt8} : ∀ {a : List UInt8}, c ∉ a → ct c (a ++ c :: b) = (a, b, true)
  | [], _ => by simp [ct]
  | x :: r, h => by
    simp only [List.mem_cons, not_or] at h
    simp [ct, if_neg (Ne.symm h.1), ct_app h.2]
theorem sp_ne (c : UInt8) : ∀ s : List UInt8, sp c s ≠ []
  | [] => by simp [sp]
  | x :: r => by
    unfold sp
    split
    · simp
    · split <;> simp
theorem sp_app (c : UInt8) (b : List UInt8) : ∀ a : List UInt8, sp c (a ++ c :: b) = sp c a ++ sp c b
  | [] => by simp [sp]
  | x :: r => by
    have ih := sp_app c b r
    simp only [List.cons_append, sp, ih]
    split
    · rfl
    · cases h : sp c r with
      | nil => exact absurd h (sp_ne c r)
      | cons y t => rfl
theorem sp_not {c : UInt8} : ∀ {s : List UInt8}, c ∉ s → sp c s = [s]
  | [], _ => rfl
  | x :: r, h => by
    simp only [List.mem_cons, not_or] at h
    simp [sp, if_neg (Ne.symm h.1), sp_not h.2]
theorem join_cons2 (x y : List UInt8) (r : List (List UInt8)) (c : UInt8) : Lib.join (x :: y :: r) [c] = x ++ c :: Lib.join (y :: r) [c] := by
  rw [Lib.join_cons, Lib.join_cons]
  simp [Lib.joinTail]
theorem sp_join {c : UInt8} : ∀ (r : List (List UInt8)) (x : List UInt8), (∀ y ∈ x :: r, c ∉ y) → sp c (Lib.join (x :: r) [c]) = x :: r
  | [], x, h => by rw [Lib.join_one]; exact sp_not (h x (by simp))
  | y :: r, x, h => by
    rw [join_cons2, sp_app, sp_not (h x (by simp)), sp_join r y fun z hz => h z (by simp at hz ⊢; exact .inr hz)]
    rfl
end Go.Proofs.YtmoncokklkiikaaGreatDoor
namespace Go.Proofs.YtmoncokklkiikaaGreatDoor
open Rg Go
def firstErr (k : Int) : List (List UInt8) → Int
  | [] => 0
  | x :: r => if (itemK k x).2 ≠ 0 then (itemK k x).2 else firstErr k r
def orAll (k : Int) : List (List UInt8) → Nat
  | [] => 0
  | x :: r => (itemK k x).1 ||| orAll k r
theorem parseGo_eq (k : Int) : ∀ (L : List (List UInt8)) (f : Fld), parseGo k L f = if firstErr k L ≠ 0 then (⟨0, false⟩, firstErr k L) else (⟨f.bits ||| orAll k L, f.star⟩, 0)
  | [], f => by simp [parseGo, firstErr, orAll]
  | x :: r, f => by
    unfold parseGo firstErr orAll
    by_cases h : (itemK k x).2 = 0
    · rw [if_neg (by simp [h]), parseGo_eq k r]
      simp only [h, ne_eq, not_true_eq_false, if_false, Nat.or_assoc]
    · simp [h]
theorem firstErr_app (k : Int) : ∀ A B : List (List UInt8), firstErr k (A ++ B) = if firstErr k A ≠ 0 then firstErr k A else firstErr k B
  | [], B => by simp [firstErr]
  | x :: A, B => by
    simp only [List.cons_append, firstErr, firstErr_app k A B]
    by_cases h : (itemK k x).2 = 0 <;> simp [h]
theorem orAll_app (k : Int) : ∀ A B : List (List UInt8), orAll k (A ++ B) = orAll k A ||| orAll k B
  | [], B => by simp [orAll]
  | x :: A, B => by simp only [List.cons_append, orAll, orAll_app k A B, Nat.or_assoc]
theorem parse_eq {k : Int} (hk : isK k = true) {s : List UInt8} (hs : s.length ≤ 150) :
    parseK k s = if firstErr k (sp 44 s) ≠ 0 then (⟨0, false⟩, firstErr k (sp 44 s)) else (⟨orAll k (sp 44 s), Lib.hasPrefix s [42]⟩, 0) := by
  unfold parseK
  rw [if_neg (by simp [hk]), if_neg (by omega), parseGo_eq, split_sp]
  simp
theorem prefix_app (s t : List UInt8) : Lib.hasPrefix (s ++ 44 :: t) [42] = Lib.hasPrefix s [42] := by
  cases s <;> simp [Lib.hasPrefix, List.isPrefixOf]
theorem hasB_nat2 (b k : Nat) (hk : k ≤ 63) : hasB b (k : Int) = b.testBit k := by
  simp [hasB]; omega
theorem testBit_pow2 (i j : Nat) : (pow2 i).testBit j = decide (i = j) := by
  unfold pow2
  rw [Nat.testBit_two_pow]
theorem setFrom_mono {m step : Nat} {last : Int} : ∀ (f n set j : Nat), set.testBit j = true → (setFrom m step last f n set).testBit j = true
  | 0, n, set, j, h => h
  | f + 1, n, set, j, h => by
    unfold setFrom
    split
    · exact setFrom_mono f _ _ j (by rw [Nat.testBit_or, h]; rfl)
    · exact h
theorem setFrom_first {m step : Nat} {last : Int} (f n set : Nat) (h : (n : Int) ≤ last) : (setFrom m step last (f + 1) n set).testBit (n % m) = true := by
  unfold setFrom
  rw [if_pos h]
  refine setFrom_mono f _ _ _ ?_
  rw [Nat.testBit_or, testBit_pow2]
  simp [modN]
theorem setFrom_sub {m step : Nat} {last : Int} : ∀ (f n set j : Nat), (setFrom m step last f n set).testBit j = true → set.testBit j = true ∨ ∃ i, n ≤ i ∧ (i : Int) ≤ last ∧ j = i % m
  | 0, n, set, j, h => .inl h
  | f + 1, n, set, j, h => by
    unfold setFrom at h
    split at h
    · rename_i hn
      rcases setFrom_sub f _ _ j h with h | ⟨i, h1, h2, h3⟩
      · rw [Nat.testBit_or, testBit_pow2] at h
        simp only [Bool.or_eq_true, decide_eq_true_eq] at h
        rcases h with h | h
        · exact .inl h
        · exact .inr ⟨n, Nat.le_refl _, hn, h.symm⟩
      · exact .inr ⟨i, by omega, h2, h3⟩
    · exact .inl h
theorem setFrom_one {m : Nat} {last : Int} (hl : last < m) : ∀ (f n set j : Nat), last < (n : Int) + f → (setFrom m 1 last f n set).testBit j = (set.testBit j || (decide (n ≤ j) && decide ((j : Int) ≤ last)))
  | 0, n, set, j, h => by
    have : ¬ (n ≤ j ∧ (j : Int) ≤ last) := by omega
    unfold setFrom
    by_cases h1 : n ≤ j <;> by_cases h2 : (j : Int) ≤ last <;> simp [h1, h2] <;> omega
  | f + 1, n, set, j, h => by
    unfold setFrom
    split
    · rename_i hn
      rw [setFrom_one hl f _ _ _ (by push_cast; omega), Nat.testBit_or, testBit_pow2]
      have e : modN n m = n := Nat.mod_eq_of_lt (by omega)
      rw [e]
      cases set.testBit j
      · by_cases h1 : n = j
        · subst h1; simp; omega
        · by_cases h2 : n ≤ j
          · have : n + 1 ≤ j := by omega
            simp [h1, h2, this]
          · have : ¬ n + 1 ≤ j := by omega
            simp [h1, h2, this]
      · simp
    · rename_i hn
      have : ¬ (n ≤ j ∧ (j : Int) ≤ last) := by omega
      by_cases h1 : n ≤ j <;> by_cases h2 : (j : Int) ≤ last <;> simp [h1, h2] <;> omega
theorem body_ok {k : Int} (hk : isK k = true) {b : List UInt8} {st : Bool} {step : Int} (h : (bodyK k b st step).2 = 0) :
    ∃ first last : Nat, lowK k ≤ (first : Int) ∧ first ≤ last ∧ (last : Int) ≤ highK k ∧ (bodyK k b st step).1 = setFrom (mostK k + 1).toNat step.toNat last 200 first 0 := by
  have hb := bounds_le hk
  have fin : ∀ first last e : Int, (e = 0 → lowK k ≤ first ∧ last ≤ highK k) → (finK k first last step e).2 = 0 → ∃ f l : Nat, lowK k ≤ (f : Int) ∧ f ≤ l ∧ (l : Int) ≤ highK k ∧ (finK k first last step e).1 = setFrom (mostK k + 1).toNat step.toNat l 200 f 0 := by
    intro first last e he h
    unfold finK at h ⊢
    by_cases h0 : e = 0
    · rw [if_neg (by simp [h0])] at h ⊢
      obtain ⟨h1, h2⟩ := he h0
      by_cases h3 : last < first ∨ step < 1 ∨ 59 < step
      · rw [if_pos h3] at h; cases h
      · rw [if_neg h3] at h ⊢
        refine ⟨first.toNat, last.toNat, by omega, by omega, by omega, ?_⟩
        rw [Int.toNat_of_nonneg (a := last) (by omega)]
    · rw [if_pos h0] at h; exact absurd h h0
  unfold bodyK at h ⊢
  by_cases h1 : b = [42]
  · rw [if_pos h1] at h ⊢
    exact fin _ _ _ (fun _ => by omega) h
  · rw [if_neg h1] at h ⊢
    by_cases h2 : st = true ∧ (Lib.cut b [45]).2.2 = false
    · rw [if_pos h2] at h; cases h
    · rw [if_neg h2] at h ⊢
      by_cases h3 : (Lib.cut b [45]).2.2 = true
      · rw [if_pos h3] at h ⊢
        refine fin _ _ _ (fun h0 => ?_) h
        obtain ⟨h0, _, t1, t2⟩ := takeE_zero h0
        obtain ⟨_, _, t3, t4⟩ := takeE_zero h0
        omega
      · rw [if_neg h3] at h ⊢
        refine fin _ _ _ (fun h0 => ?_) h
        obtain ⟨h0, _, t1, t2⟩ := takeE_zero h0
        omega
theorem all_bits {k : Int} (hk : isK k = true) : ∀ j, j < 64 → ((18446744073709551615 - allK k).testBit j = true → ¬ (lowK k ≤ (j : Int) ∧ (j : Int) ≤ mostK k)) ∧ ((allK k).testBit j = (decide (lowK k ≤ (j : Int)) && decide ((j : Int) ≤ mostK k))) := by
  rcases isK_cases hk with rfl | rfl | rfl | rfl | rfl <;> decide +kernel
theorem mod_in {k : Int} (hk : isK k = true) {i : Nat} (h1 : lowK k ≤ (i : Int)) (h2 : (i : Int) ≤ highK k) : lowK k ≤ ((i % (mostK k + 1).toNat : Nat) : Int) ∧ ((i % (mostK k + 1).toNat : Nat) : Int) ≤ mostK k := by
  rcases isK_cases hk with rfl | rfl | rfl | rfl | rfl <;> simp [lowK, highK, mostK] at * <;> omega
theorem item_ok {k : Int} (hk : isK k = true) {x : List UInt8} (h : (itemK k x).2 = 0) : (itemK k x).1 ≠ 0 ∧ ∀ j, (itemK k x).1.testBit j = true → lowK k ≤ (j : Int) ∧ (j : Int) ≤ mostK k := by
  have key : ∀ b st step, (bodyK k b st step).2 = 0 → (bodyK k b st step).1 ≠ 0 ∧ ∀ j, (bodyK k b st step).1.testBit j = true → lowK k ≤ (j : Int) ∧ (j : Int) ≤ mostK k := by
    intro b st step hb
    obtain ⟨f, l, h1, h2, h3, h4⟩ := body_ok hk hb
    rw [h4]
    constructor
    · intro h0
      have := setFrom_first (m := (mostK k + 1).toNat) (step := step.toNat) (last := l) 199 f 0 (by omega)
      rw [show 199 + 1 = 200 from rfl, h0] at this
      simp at this
    · intro j hj
      rcases setFrom_sub _ _ _ _ hj with hj | ⟨i, i1, i2, rfl⟩
      · simp at hj
      · exact mod_in hk (by omega) (by omega)
  unfold itemK at h ⊢
  by_cases h1 : (Lib.cut x [47]).2.2 = true
  · rw [if_pos h1] at h ⊢
    by_cases h2 : (numK 0 (Lib.cut x [47]).2.1).2 = false
    · rw [if_pos h2] at h; cases h
    · rw [if_neg h2] at h ⊢; exact key _ _ _ h
  · rw [if_neg h1] at h ⊢; exact key _ _ _ h
theorem orAll_ok {k : Int} (hk : isK k = true) : ∀ {L : List (List UInt8)}, firstErr k L = 0 → (L ≠ [] → orAll k L ≠ 0) ∧ ∀ j, (orAll k L).testBit j = true → lowK k ≤ (j : Int) ∧ (j : Int) ≤ mostK k
  | [], _ => ⟨fun h => absurd rfl h, fun j h => by simp [orAll] at h⟩
  | x :: r, h => by
    have hx : (itemK k x).2 = 0 := by
      unfold firstErr at h
      by_cases h0 : (itemK k x).2 = 0
      · exact h0
      · rw [if_pos h0] at h; exact h
    have hr : firstErr k r = 0 := by unfold firstErr at h; rw [if_neg (by simp [hx])] at h; exact h
    obtain ⟨i1, i2⟩ := item_ok hk hx
    obtain ⟨_, r2⟩ := orAll_ok hk hr
    refine ⟨fun _ h0 => ?_, fun j hj => ?_⟩
    · unfold orAll at h0
      exact i1 (Nat.or_eq_zero_iff.1 h0).1
    · unfold orAll at hj
      rw [Nat.testBit_or, Bool.or_eq_true] at hj
      rcases hj with hj | hj
      · exact i2 j hj
      · exact r2 j hj
theorem may_of {k : Int} (hk : isK k = true) {b : Nat} (h0 : b ≠ 0) (h : ∀ j, b.testBit j = true → lowK k ≤ (j : Int) ∧ (j : Int) ≤ mostK k) : mayB k b = true := by
  have hb := bounds_le hk
  have hz : b &&& (18446744073709551615 - allK k) = 0 := by
    apply Nat.eq_of_testBit_eq
    intro j
    rw [Nat.testBit_and, Nat.zero_testBit]
    cases hj : b.testBit j with
    | false => rfl
    | true =>
      have h1 := h j hj
      cases h2 : (18446744073709551615 - allK k).testBit j with
      | false => rfl
      | true => exact absurd h1 ((all_bits hk j (by omega)).1 h2)
  simp [mayB, hk, h0, hz]
end Go.Proofs.YtmoncokklkiikaaGreatDoor
namespace Go.Proofs.YtmoncokklkiikaaGreatDoor
open Rg Go
set_option maxRecDepth 100000 in
theorem dec_facts : ∀ n, n < 60 → dig2 (dec2 n) = true ∧ Lib.atoi (dec2 n) = some (n : Int) ∧ (dec2 n).contains 45 = false ∧ (dec2 n).contains 47 = false ∧ (dec2 n).contains 44 = false ∧ dec2 n ≠ [42] ∧ Lib.hasPrefix (dec2 n) [42] = false ∧ (dec2 n).length ≤ 2 ∧ dec2 n ≠ [] := by decide +kernel
theorem no_mem {c : UInt8} {s : List UInt8} (h : s.contains c = false) : c ∉ s := by
  intro hm
  rw [List.contains_iff_mem.2 hm] at h
  cases h
theorem dec_num (k : Int) {n : Nat} (h : n < 60) : numK k (dec2 n) = ((n : Int), true) := by
  obtain ⟨h1, h2, _⟩ := dec_facts n h
  unfold numK
  rw [if_pos h1, h2]
  rfl
theorem take_ok {k : Int} {n : Nat} (h : n < 60) (h1 : lowK k ≤ (n : Int)) (h2 : (n : Int) ≤ highK k) : takeE k (dec2 n) 0 = 0 := by
  unfold takeE
  rw [dec_num k h, if_neg (by simp), if_neg (by simp; omega)]
theorem item_one {k : Int} (hk : isK k = true) {n : Nat} (h1 : lowK k ≤ (n : Int)) (h2 : (n : Int) ≤ mostK k) : (itemK k (dec2 n)).2 = 0 ∧ ∀ j, (itemK k (dec2 n)).1.testBit j = decide (j = n) := by
  have hb := bounds_le hk
  obtain ⟨_, _, c45, c47, _, c42, _⟩ := dec_facts n (by omega)
  have e : itemK k (dec2 n) = (setFrom (mostK k + 1).toNat 1 n 200 n 0, 0) := by
    unfold itemK
    rw [cut_ct, ct_not (no_mem c47)]
    simp only [Bool.false_eq_true, if_false]
    unfold bodyK
    rw [if_neg c42, cut_ct, ct_not (no_mem c45)]
    simp only [Bool.false_eq_true, false_and, if_false]
    rw [dec_num k (by omega), take_ok (by omega) h1 (by omega)]
    unfold finK
    rw [if_neg (by simp), if_neg (by omega)]
    rfl
  rw [e]
  refine ⟨rfl, fun j => ?_⟩
  simp only
  rw [setFrom_one (by omega) _ _ _ _ (by omega)]
  by_cases hj : j = n
  · subst hj; simp
  · simp [hj]; omega
theorem item_two {k : Int} (hk : isK k = true) {n m : Nat} (h1 : lowK k ≤ (n : Int)) (h2 : (m : Int) ≤ mostK k) (hnm : n ≤ m) : (itemK k (dec2 n ++ [45] ++ dec2 m)).2 = 0 ∧ ∀ j, (itemK k (dec2 n ++ [45] ++ dec2 m)).1.testBit j = (decide (n ≤ j) && decide (j ≤ m)) := by
  have hb := bounds_le hk
  obtain ⟨_, _, c45, c47, _, c42, _, _, cne⟩ := dec_facts n (by omega)
  obtain ⟨_, _, d45, d47, _, d42, _⟩ := dec_facts m (by omega)
  have e : itemK k (dec2 n ++ [45] ++ dec2 m) = (setFrom (mostK k + 1).toNat 1 m 200 n 0, 0) := by
    have e0 : dec2 n ++ [45] ++ dec2 m = dec2 n ++ 45 :: dec2 m := by simp
    rw [e0]
    unfold itemK
    have hno : (47 : UInt8) ∉ dec2 n ++ 45 :: dec2 m := by
      simp only [List.mem_append, List.mem_cons, not_or]
      exact ⟨no_mem c47, by decide, no_mem d47⟩
    rw [cut_ct, ct_not hno]
    simp only [Bool.false_eq_true, if_false]
    unfold bodyK
    have hne : dec2 n ++ 45 :: dec2 m ≠ [42] := by
      intro h
      cases hd : dec2 n with
      | nil => exact cne hd
      | cons x r => rw [hd] at h; simp at h
    rw [if_neg hne, cut_ct, ct_app (no_mem c45)]
    simp only [Bool.true_eq_false, and_false, if_false, if_true]
    rw [dec_num k (by omega), dec_num k (by omega), take_ok (by omega) h1 (by omega), take_ok (by omega) (by omega) (by omega)]
    unfold finK
    rw [if_neg (by simp), if_neg (by omega)]
    rfl
  rw [e]
  refine ⟨rfl, fun j => ?_⟩
  simp only
  rw [setFrom_one (by omega) _ _ _ _ (by omega)]
  simp
theorem items_row {k : Int} (hk : isK k = true) : ∀ (c n : Nat), lowK k ≤ (n : Int) → ((n + c : Nat) : Int) ≤ mostK k + 1 → firstErr k ((List.range' n c).map dec2) = 0 ∧ ∀ j, (orAll k ((List.range' n c).map dec2)).testBit j = (decide (n ≤ j) && decide (j < n + c))
  | 0, n, _, _ => ⟨rfl, fun j => by simp [orAll]; try omega⟩
  | c + 1, n, h1, h2 => by
    obtain ⟨i1, i2⟩ := item_one hk (n := n) h1 (by push_cast at h2; omega)
    obtain ⟨r1, r2⟩ := items_row hk c (n + 1) (by push_cast; omega) (by push_cast at *; omega)
    rw [List.range'_succ, List.map_cons]
    refine ⟨?_, fun j => ?_⟩
    · unfold firstErr; rw [if_neg (by simp [i1])]; exact r1
    · unfold orAll
      rw [Nat.testBit_or, i2, r2]
      by_cases hj : j = n
      · subst hj; simp
      · by_cases h3 : n ≤ j <;> by_cases h4 : j < n + (c + 1) <;> simp [hj, h3, h4] <;> try omega
theorem runEnd_bits {b : Nat} (hb : b < 18446744073709551616) : ∀ (f n : Nat), b.testBit n = true → (∀ j, n ≤ j → j ≤ runEnd b f n → b.testBit j = true) ∧ (64 ≤ n + f → b.testBit (runEnd b f n + 1) = false)
  | 0, n, h => by
    have := testBit_high hb h
    exact ⟨fun j h1 h2 => by simp [runEnd] at h2; obtain rfl : j = n := by omega
                             exact h, fun h' => by omega⟩
  | f + 1, n, h => by
    unfold runEnd
    by_cases hh : hasB b ((n + 1 : Nat) : Int) = true
    · rw [if_pos hh]
      have h1 : b.testBit (n + 1) = true := by simp [hasB] at hh; exact_mod_cast hh.2
      obtain ⟨r1, r2⟩ := runEnd_bits hb f (n + 1) h1
      refine ⟨fun j h2 h3 => ?_, fun h' => r2 (by omega)⟩
      by_cases hj : j = n
      · subst hj; exact h
      · exact r1 j (by omega) h3
    · rw [if_neg hh]
      refine ⟨fun j h1 h2 => by obtain rfl : j = n := by omega
                                exact h, fun h' => ?_⟩
      cases ht : b.testBit (n + 1) with
      | false => rfl
      | true =>
        have h63 := testBit_high hb ht
        rw [hasB_nat2 b (n + 1) h63, ht] at hh
        exact absurd rfl hh
theorem pieces_bits {k : Int} (hk : isK k = true) {b : Nat} (hb : b < 18446744073709551616) (hr : ∀ j, b.testBit j = true → lowK k ≤ (j : Int) ∧ (j : Int) ≤ mostK k) :
    ∀ (f a : Nat), 65 ≤ a + f → firstErr k (pieces2 b f a) = 0 ∧ ∀ j, (orAll k (pieces2 b f a)).testBit j = (decide (a ≤ j) && b.testBit j)
  | 0, a, h => by
    refine ⟨rfl, fun j => ?_⟩
    simp only [pieces2, orAll, Nat.zero_testBit]
    cases hj : b.testBit j with
    | false => simp
    | true => have := testBit_high hb hj; simp; omega
  | f + 1, a, h => by
    unfold pieces2
    cases hf : firstB b a with
    | none =>
      refine ⟨rfl, fun j => ?_⟩
      have := firstB_none hb hf
      simp only [orAll, Nat.zero_testBit]
      by_cases hj : a ≤ j
      · rw [this j (by simpa using hj)]; simp
      · simp [hj]
    | some n =>
      obtain ⟨n1, n2, n3, n4⟩ := firstB_some hb hf
      simp only [Int.toNat_natCast] at n1 n4
      obtain ⟨e1, e2⟩ := runEnd_le b 64 n n2
      obtain ⟨e3, e4⟩ := runEnd_bits hb 64 n n3
      simp only
      generalize runEnd b 64 n = e at *
      have hn := hr n n3
      have he := hr e (e3 e e1 (Nat.le_refl _))
      obtain ⟨p1, p2⟩ := pieces_bits hk hb hr f (e + 1) (by omega)
      have key : ∀ P : List (List UInt8), firstErr k P = 0 → (∀ j, (orAll k P).testBit j = (decide (n ≤ j) && decide (j ≤ e))) →
          firstErr k (P ++ pieces2 b f (e + 1)) = 0 ∧ ∀ j, (orAll k (P ++ pieces2 b f (e + 1))).testBit j = (decide (a ≤ j) && b.testBit j) := by
        intro P q1 q2
        refine ⟨by rw [firstErr_app, q1, p1]; simp, fun j => ?_⟩
        rw [orAll_app, Nat.testBit_or, q2, p2]
        by_cases hj1 : j < a
        · have : ¬ n ≤ j := by omega
          have h2 : ¬ e + 1 ≤ j := by omega
          have h3 : ¬ a ≤ j := by omega
          simp [this, h2, h3]
        · by_cases hj2 : j < n
          · have : ¬ n ≤ j := by omega
            have h2 : ¬ e + 1 ≤ j := by omega
            simp [this, h2, n4 j (by omega) hj2]
          · by_cases hj3 : j ≤ e
            · have h3 : a ≤ j := by omega
              have h4 : n ≤ j := by omega
              simp [h3, h4, hj3, e3 j h4 hj3]
            · have h3 : a ≤ j := by omega
              have h5 : e + 1 ≤ j := by omega
              simp [h3, hj3, h5]
      split
      · obtain ⟨i1, i2⟩ := item_two hk (n := n) (m := e) hn.1 he.2 e1
        refine key _ ?_ ?_
        · unfold firstErr; rw [if_neg (by rw [i1]; simp)]; rfl
        · intro j; unfold orAll; rw [Nat.testBit_or, i2]; simp [orAll]
      · obtain ⟨i1, i2⟩ := items_row hk (e + 1 - n) n hn.1 (by omega)
        refine key _ i1 fun j => ?_
        rw [i2]
        by_cases h1 : n ≤ j <;> by_cases h2 : j ≤ e <;> simp [h1, h2] <;> omega
def cost (L : List (List UInt8)) : Nat := Lib.lens L + L.length
theorem cost_app (A B : List (List UInt8)) : cost (A ++ B) = cost A + cost B := by simp [cost, Lib.lens]; omega
theorem cost_le {b : Nat} (hb : b < 18446744073709551616) (hr : ∀ j, b.testBit j = true → j ≤ 59) : ∀ (f a n : Nat), firstB b a = some n → cost (pieces2 b f a) ≤ 2 * (62 - n)
  | 0, a, n, _ => by simp [pieces2, cost, Lib.lens]
  | f + 1, a, n, hf => by
    unfold pieces2
    rw [hf]
    obtain ⟨n1, n2, n3, n4⟩ := firstB_some hb hf
    obtain ⟨e1, e2⟩ := runEnd_le b 64 n n2
    obtain ⟨e3, e4⟩ := runEnd_bits hb 64 n n3
    simp only
    generalize runEnd b 64 n = e at *
    have hn := hr n n3
    have he := hr e (e3 e e1 (Nat.le_refl _))
    have hrest : cost (pieces2 b f (e + 1)) ≤ 2 * (60 - e) := by
      cases hf2 : firstB b ((e + 1 : Nat) : Int) with
      | none =>
        cases f with
        | zero => simp [pieces2, cost, Lib.lens]
        | succ f => unfold pieces2; rw [hf2]; simp [cost, Lib.lens]
      | some n' =>
        have h1 := cost_le hb hr f (e + 1) n' hf2
        obtain ⟨m1, m2, m3, m4⟩ := firstB_some hb hf2
        simp only [Int.toNat_natCast] at m1
        have : n' ≠ e + 1 := by rintro rfl; rw [e4 (by omega)] at m3; cases m3
        omega
    have hlen : ∀ i, i < 60 → (dec2 i).length ≤ 2 := fun i hi => (dec_facts i hi).2.2.2.2.2.2.2.1
    rw [cost_app]
    split
    · have h1 := hlen n (by omega)
      have h2 := hlen e (by omega)
      have : cost [dec2 n ++ [45] ++ dec2 e] ≤ 6 := by simp [cost, Lib.lens]; omega
      omega
    · have : ∀ c m, m + c ≤ 60 → cost ((List.range' m c).map dec2) ≤ 3 * c := by
        intro c
        induction c with
        | zero => intro m _; simp [cost, Lib.lens]
        | succ c ih =>
          intro m hm
          rw [List.range'_succ, List.map_cons]
          have h1 := ih (m + 1) (by omega)
          have h2 := hlen m (by omega)
          simp [cost, Lib.lens] at h1 ⊢
          omega
      have := this (e + 1 - n) n (by omega)
      omega
end Go.Proofs.YtmoncokklkiikaaGreatDoor
namespace Go.Proofs.YtmoncokklkiikaaGreatDoor
open Rg Go
theorem comp_bits {k : Int} (hk : isK k = true) : ∀ j, j < 64 → (18446744073709551615 - allK k).testBit j = !(decide (lowK k ≤ (j : Int)) && decide ((j : Int) ≤ mostK k)) := by
  rcases isK_cases hk with rfl | rfl | rfl | rfl | rfl <;> decide +kernel
theorem may_bits {k : Int} {b : Nat} (hb : b < 18446744073709551616) (h : mayB k b = true) : isK k = true ∧ b ≠ 0 ∧ ∀ j, b.testBit j = true → lowK k ≤ (j : Int) ∧ (j : Int) ≤ mostK k := by
  simp only [mayB, Bool.and_eq_true, decide_eq_true_eq] at h
  obtain ⟨⟨hk, h0⟩, hz⟩ := h
  refine ⟨hk, h0, fun j hj => ?_⟩
  have h1 := congrArg (fun x => x.testBit j) hz
  simp only [Nat.testBit_and, hj, Bool.true_and, Nat.zero_testBit] at h1
  rw [comp_bits hk j (by have := testBit_high hb hj; omega)] at h1
  simpa using h1
theorem piece_elem {b : Nat} (hb : b < 18446744073709551616) (hr : ∀ j, b.testBit j = true → j ≤ 59) : ∀ (f a : Nat), ∀ x ∈ pieces2 b f a, (44 : UInt8) ∉ x ∧ Lib.hasPrefix x [42] = false ∧ x ≠ []
  | 0, a, x, h => by simp [pieces2] at h
  | f + 1, a, x, h => by
    unfold pieces2 at h
    cases hf : firstB b a with
    | none => rw [hf] at h; simp at h
    | some n =>
      rw [hf] at h
      obtain ⟨n1, n2, n3, n4⟩ := firstB_some hb hf
      obtain ⟨e1, e2⟩ := runEnd_le b 64 n n2
      obtain ⟨e3, e4⟩ := runEnd_bits hb 64 n n3
      simp only at h
      generalize runEnd b 64 n = e at *
      have hn := hr n n3
      have he := hr e (e3 e e1 (Nat.le_refl _))
      obtain ⟨_, _, _, _, c44, _, c42, _, cne⟩ := dec_facts n (by omega)
      rcases List.mem_append.1 h with h | h
      · split at h
        · obtain ⟨_, _, _, _, d44, _, d42, _, dne⟩ := dec_facts e (by omega)
          simp only [List.mem_singleton] at h
          subst h
          refine ⟨?_, ?_, by simp⟩
          · simp only [List.mem_append, List.mem_singleton, not_or]
            exact ⟨⟨no_mem c44, by decide⟩, no_mem d44⟩
          · cases hd : dec2 n with
            | nil => exact absurd hd cne
            | cons y r => rw [hd] at c42; simpa [Lib.hasPrefix, List.isPrefixOf] using c42
        · obtain ⟨i, hi, rfl⟩ := List.mem_map.1 h
          have hi2 := List.mem_range'_1.1 hi
          obtain ⟨_, _, _, _, d44, _, d42, _, dne⟩ := dec_facts i (by omega)
          exact ⟨no_mem d44, d42, dne⟩
      · exact piece_elem hb hr f _ x h
set_option maxRecDepth 100000 in
theorem parse_star {k : Int} (hk : isK k = true) : parseK k [42] = (⟨allK k, true⟩, 0) := by
  rcases isK_cases hk with rfl | rfl | rfl | rfl | rfl <;> decide +kernel
theorem text_back {k : Int} {f : Fld} (hb : f.bits < 18446744073709551616) (h : mayB k f.bits = true) : parseK k (textK k f) = (⟨f.bits, decide (textK k f = [42])⟩, 0) ∧ (textK k f).length ≤ 150 := by
  obtain ⟨hk, h0, hr⟩ := may_bits hb h
  have hbd := bounds_le hk
  have hr2 : ∀ j, f.bits.testBit j = true → j ≤ 59 := fun j hj => by have := hr j hj; omega
  unfold textK
  rw [if_neg (by simp [h])]
  by_cases hs : f.star = true ∧ f.bits = allK k
  · rw [if_pos hs, parse_star hk, hs.2]
    simp
  · rw [if_neg hs, pieces_eq hb]
    obtain ⟨n, hn⟩ : ∃ n, firstB f.bits ((0 : Nat) : Int) = some n := by
      cases hf : firstB f.bits ((0 : Nat) : Int) with
      | some n => exact ⟨n, rfl⟩
      | none =>
        have := firstB_none hb hf
        exact absurd (Nat.eq_of_testBit_eq fun j => by rw [this j (by simp), Nat.zero_testBit]) h0
    have hcost := cost_le hb hr2 66 0 n hn
    have helem := piece_elem hb hr2 66 0
    obtain ⟨hok, hbits⟩ := pieces_bits hk hb hr 66 0 (by omega)
    have hne : pieces2 f.bits 66 0 ≠ [] := by
      intro h1
      have e : f.bits = 0 := Nat.eq_of_testBit_eq fun j => by
        have h2 := hbits j
        rw [h1] at h2
        simpa [orAll] using h2.symm
      exact h0 e
    have hor : orAll k (pieces2 f.bits 66 0) = f.bits := Nat.eq_of_testBit_eq fun j => by rw [hbits j]; simp
    generalize pieces2 f.bits 66 0 = L at *
    cases L with
    | nil => exact absurd rfl hne
    | cons x r =>
      have hsp := sp_join (c := 44) r x fun y hy => (helem y hy).1
      have hpre : Lib.hasPrefix (Lib.join (x :: r) [44]) [42] = false := by
        obtain ⟨_, h1, h2⟩ := helem x (by simp)
        rw [Lib.join_cons]
        cases x with
        | nil => exact absurd rfl h2
        | cons y t => simpa [Lib.hasPrefix, List.isPrefixOf] using h1
      have hne2 : Lib.join (x :: r) [44] ≠ [42] := fun e => by rw [e] at hpre; simp [Lib.hasPrefix, List.isPrefixOf] at hpre
      have hlen : (Lib.join (x :: r) [44]).length ≤ 150 := by
        rw [Lib.join_length]
        simp only [cost, List.length_cons] at hcost
        simp
        omega
      refine ⟨?_, hlen⟩
      rw [parse_eq hk hlen, hsp, if_neg (by simp [hok]), hor, hpre]
      simp [hne2]
theorem parse_join {k : Int} {s t : List UInt8} (hs : s.length ≤ 45) (ht : t.length ≤ 45) :
    ((parseK k s).2 = 0 → (parseK k t).2 = 0 → parseK k (s ++ [44] ++ t) = (⟨(parseK k s).1.bits ||| (parseK k t).1.bits, (parseK k s).1.star⟩, 0) ∧ mayB k ((parseK k s).1.bits ||| (parseK k t).1.bits) = true) ∧
    (¬ ((parseK k s).2 = 0 ∧ (parseK k t).2 = 0) → (parseK k (s ++ [44] ++ t)).2 ≠ 0) := by
  have e0 : s ++ [44] ++ t = s ++ 44 :: t := by simp
  rw [e0]
  cases hk : isK k with
  | false =>
    have hp : ∀ x, parseK k x = (⟨0, false⟩, 2) := fun x => by unfold parseK; rw [if_pos hk]
    simp [hp]
  | true =>
    rw [parse_eq hk (by omega : s.length ≤ 150), parse_eq hk (by omega : t.length ≤ 150), parse_eq hk (by simp; omega : (s ++ 44 :: t).length ≤ 150), sp_app, firstErr_app, orAll_app, prefix_app]
    by_cases h1 : firstErr k (sp 44 s) = 0 <;> by_cases h2 : firstErr k (sp 44 t) = 0
    · simp only [h1, h2, ne_eq, not_true_eq_false, if_false]
      refine ⟨fun _ _ => ⟨by trivial, ?_⟩, fun h => by simp at h⟩
      obtain ⟨a1, a2⟩ := orAll_ok hk h1
      obtain ⟨b1, b2⟩ := orAll_ok hk h2
      refine may_of hk (fun h => a1 (sp_ne _ _) (Nat.or_eq_zero_iff.1 h).1) fun j hj => ?_
      rw [Nat.testBit_or, Bool.or_eq_true] at hj
      rcases hj with hj | hj
      · exact a2 j hj
      · exact b2 j hj
    · simp [h1, h2]
    · simp [h1, h2]
    · simp [h1, h2]
theorem parse_lt (k : Int) (s : List UInt8) : (parseK k s).1.bits < 18446744073709551616 := by
  unfold parseK
  split
  · exact (by decide : (0 : Nat) < 18446744073709551616)
  · rename_i hk
    split
    · exact (by decide : (0 : Nat) < 18446744073709551616)
    · rw [parseGo_eq]
      split
      · exact (by decide : (0 : Nat) < 18446744073709551616)
      · have hk' : isK k = true := by simpa using hk
        have : ∀ L, orAll k L < 18446744073709551616 := by
          intro L
          induction L with
          | nil => exact (by decide : (0 : Nat) < 18446744073709551616)
          | cons x r ih => exact or_small (itemK_lt hk' x) ih
        exact or_small (a := 0) (by decide) (this _)
end Go.Proofs.YtmoncokklkiikaaGreatDoor
