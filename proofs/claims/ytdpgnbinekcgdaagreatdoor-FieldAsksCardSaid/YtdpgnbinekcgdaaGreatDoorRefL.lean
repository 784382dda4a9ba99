/- The document's text of a field is the program's: in plain words. -/
import Derived.Test.YtdpgnbinekcgdaaGreatDoorFieldC
namespace Go.Proofs.YtdpgnbinekcgdaaGreatDoor
open Rg Go

theorem hasB_nat3 {b : Nat} (hb : b < 18446744073709551616) (n : Nat) : hasB b (n : Int) = b.testBit n := by
  by_cases h : n ≤ 63
  · exact hasB_nat2 b n h
  · have h1 : b.testBit n = false := by
      cases ht : b.testBit n with
      | false => rfl
      | true => exact absurd (testBit_high hb ht) h
    rw [h1]; simp [hasB]; omega

/-- One more piece behind a text. -/
def appT (s p : List UInt8) : List UInt8 := (if s = [] then s else s ++ [44]) ++ p
theorem appT_ne {s p : List UInt8} (h : p ≠ []) : appT s p ≠ [] := by unfold appT; simp [h]
theorem appT_app (s p q : List UInt8) : appT s p ++ q = appT s (p ++ q) := by unfold appT; simp
def refAhead (b n : Nat) : Bool := hasB b ((n : Int) - 1) && (hasB b ((n : Int) - 2) || hasB b ((n : Int) + 1))
def refStep (b n : Nat) (s : List UInt8) : List UInt8 :=
  if hasB b (n : Int) = false then s else
  if refAhead b n = true then (if hasB b ((n : Int) + 1) = true then s else s ++ 45 :: dec2 n) else appT s (dec2 n)
def refText (b : Nat) : Nat → Nat → List UInt8 → List UInt8
  | 0, _, s => s
  | f + 1, n, s => refText b f (n + 1) (refStep b n s)

theorem refText_add (b : Nat) (f : Nat) : ∀ (c n : Nat) (s : List UInt8), refText b (c + f) n s = refText b f (n + c) (refText b c n s)
  | 0, n, s => by simp [refText]
  | c + 1, n, s => by
    rw [show c + 1 + f = (c + f) + 1 by omega]
    simp only [refText]
    rw [refText_add b f c, show n + 1 + c = n + (c + 1) by omega]

section
variable {b : Nat} (hb : b < 18446744073709551616)
include hb
theorem refStep_no {n : Nat} (h : b.testBit n = false) (s : List UInt8) : refStep b n s = s := by unfold refStep; rw [hasB_nat3 hb, h]; rfl
theorem refStep_mid {n : Nat} (h0 : b.testBit n = true) (h1 : b.testBit (n + 1) = true) (h2 : b.testBit (n + 2) = true) (s : List UInt8) : refStep b (n + 1) s = s := by
  have e1 : hasB b (((n + 1 : Nat) : Int) - 1) = true := by rw [show ((n + 1 : Nat) : Int) - 1 = (n : Int) by omega, hasB_nat3 hb, h0]
  have e2 : hasB b (((n + 1 : Nat) : Int) + 1) = true := by rw [show ((n + 1 : Nat) : Int) + 1 = ((n + 2 : Nat) : Int) by omega, hasB_nat3 hb, h2]
  unfold refStep refAhead
  rw [hasB_nat3 hb, h1, e1, e2]; simp
theorem refStep_last {n : Nat} (h0 : b.testBit n = true) (h1 : b.testBit (n + 1) = true) (h2 : b.testBit (n + 2) = true) (h3 : b.testBit (n + 3) = false) (s : List UInt8) : refStep b (n + 2) s = s ++ 45 :: dec2 (n + 2) := by
  have e1 : hasB b (((n + 2 : Nat) : Int) - 1) = true := by rw [show ((n + 2 : Nat) : Int) - 1 = ((n + 1 : Nat) : Int) by omega, hasB_nat3 hb, h1]
  have e0 : hasB b (((n + 2 : Nat) : Int) - 2) = true := by rw [show ((n + 2 : Nat) : Int) - 2 = ((n : Nat) : Int) by omega, hasB_nat3 hb, h0]
  have e2 : hasB b (((n + 2 : Nat) : Int) + 1) = false := by rw [show ((n + 2 : Nat) : Int) + 1 = ((n + 3 : Nat) : Int) by omega, hasB_nat3 hb, h3]
  unfold refStep refAhead
  rw [hasB_nat3 hb, h2, e0, e1, e2]; simp
theorem refStep_first {n : Nat} (hp : n = 0 ∨ b.testBit (n - 1) = false) (h1 : b.testBit n = true) (s : List UInt8) : refStep b n s = appT s (dec2 n) := by
  have e1 : hasB b ((n : Int) - 1) = false := by
    rcases hp with rfl | hp
    · rfl
    · by_cases h0 : n = 0
      · subst h0; rfl
      · rw [show (n : Int) - 1 = ((n - 1 : Nat) : Int) by omega, hasB_nat3 hb, hp]
  unfold refStep refAhead
  rw [hasB_nat3 hb, h1, e1]; simp
theorem refStep_second {n : Nat} (hp : n = 0 ∨ b.testBit (n - 1) = false) (h1 : b.testBit (n + 1) = true) (h2 : b.testBit (n + 2) = false) (s : List UInt8) : refStep b (n + 1) s = appT s (dec2 (n + 1)) := by
  have e0 : hasB b (((n + 1 : Nat) : Int) - 2) = false := by
    by_cases h0 : n = 0
    · subst h0; rfl
    · rcases hp with rfl | hp
      · exact absurd rfl h0
      · rw [show ((n + 1 : Nat) : Int) - 2 = ((n - 1 : Nat) : Int) by omega, hasB_nat3 hb, hp]
  have e2 : hasB b (((n + 1 : Nat) : Int) + 1) = false := by rw [show ((n + 1 : Nat) : Int) + 1 = ((n + 2 : Nat) : Int) by omega, hasB_nat3 hb, h2]
  unfold refStep refAhead
  rw [hasB_nat3 hb, h1, e0, e2]; simp

theorem refText_no : ∀ (c n : Nat) (s : List UInt8), (∀ j, n ≤ j → j < n + c → b.testBit j = false) → refText b c n s = s
  | 0, n, s, _ => rfl
  | c + 1, n, s, h => by
    unfold refText
    rw [refStep_no hb (h n (by omega) (by omega)), refText_no c (n + 1) s fun j h1 h2 => h j (by omega) (by omega)]
theorem refText_mid : ∀ (c n : Nat) (s : List UInt8), (∀ j, n ≤ j → j < n + c + 2 → b.testBit j = true) → refText b c (n + 1) s = s
  | 0, n, s, _ => rfl
  | c + 1, n, s, h => by
    unfold refText
    rw [refStep_mid hb (h n (by omega) (by omega)) (h (n + 1) (by omega) (by omega)) (h (n + 2) (by omega) (by omega)), refText_mid c (n + 1) s fun j h1 h2 => h j (by omega) (by omega)]

/-- A run of numbers. -/
theorem refText_run {n r : Nat} (hnr : n ≤ r) (hp : n = 0 ∨ b.testBit (n - 1) = false) (hin : ∀ j, n ≤ j → j ≤ r → b.testBit j = true) (hout : b.testBit (r + 1) = false) (s : List UInt8) :
    refText b (r + 1 - n) n s = (if n + 2 ≤ r then [dec2 n ++ [45] ++ dec2 r] else (List.range' n (r + 1 - n)).map dec2).foldl appT s := by
  by_cases h2 : n + 2 ≤ r
  · rw [if_pos h2]
    obtain ⟨c, rfl⟩ : ∃ c, r = n + 2 + c := ⟨r - n - 2, by omega⟩
    rw [show n + 2 + c + 1 - n = 1 + (c + 1) + 1 by omega, refText_add b 1 (1 + (c + 1)), refText_add b (c + 1) 1]
    have e1 : refText b 1 n s = appT s (dec2 n) := by simp only [refText]; exact refStep_first hb hp (hin n (by omega) (by omega)) s
    rw [e1, refText_mid hb (c + 1) n _ fun j h1 h3 => hin j h1 (by omega)]
    rw [show n + (1 + (c + 1)) = (n + c) + 2 by omega]
    simp only [refText, List.foldl_cons, List.foldl_nil]
    rw [refStep_last hb (hin (n + c) (by omega) (by omega)) (hin (n + c + 1) (by omega) (by omega)) (hin (n + c + 2) (by omega) (by omega)) (by rw [show n + c + 3 = n + 2 + c + 1 by omega]; exact hout), appT_app, show n + c + 2 = n + 2 + c by omega]
    simp
  · rw [if_neg h2]
    by_cases h1 : r = n
    · subst h1
      rw [show r + 1 - r = 1 by omega]
      simp only [refText, List.range'_one, List.map_cons, List.map_nil, List.foldl_cons, List.foldl_nil]
      exact refStep_first hb hp (hin r (by omega) (by omega)) s
    · obtain rfl : r = n + 1 := by omega
      rw [show n + 1 + 1 - n = 2 by omega]
      simp only [refText, List.range', List.map_cons, List.map_nil, List.foldl_cons, List.foldl_nil]
      rw [refStep_first hb hp (hin n (by omega) (by omega)) s, refStep_second hb hp (hin (n + 1) (by omega) (by omega)) hout]

theorem refText_pieces : ∀ (f a : Nat) (s : List UInt8), a ≤ 64 → 65 - a ≤ f → (a = 0 ∨ b.testBit (a - 1) = false ∨ b.testBit a = false) → refText b (64 - a) a s = (pieces2 b f a).foldl appT s
  | 0, a, s, h1, h2, _ => by omega
  | f + 1, a, s, h1, h2, hp => by
    unfold pieces2
    cases hf : firstB b (a : Int) with
    | none =>
      have hn := firstB_none hb hf
      simp only [List.foldl_nil]
      exact refText_no hb _ _ _ fun j h3 _ => hn j (by simpa using h3)
    | some n =>
      obtain ⟨f1, f2, f3, f4⟩ := firstB_some hb hf
      simp only [Int.toNat_natCast] at f1 f4
      obtain ⟨r1, r2⟩ := runEnd_le b 64 n f2
      obtain ⟨g1, g2⟩ := runEnd_bits hb 64 n f3
      have g3 := g2 (by omega)
      clear g2
      simp only
      generalize runEnd b 64 n = r at *
      rw [List.foldl_append, show 64 - a = (n - a) + ((r + 1 - n) + (64 - (r + 1))) by omega, refText_add, refText_add, refText_no hb (n - a) a s fun j h3 h4 => f4 j h3 (by omega), show a + (n - a) = n by omega,
        refText_run hb r1 ?_ g1 g3, show n + (r + 1 - n) = r + 1 by omega]
      · exact refText_pieces f (r + 1) _ (by omega) (by omega) (.inr (.inr g3))
      · by_cases h0 : n = 0
        · exact .inl h0
        · right
          by_cases hna : n = a
          · subst hna
            rcases hp with hp | hp | hp
            · exact absurd hp h0
            · exact hp
            · rw [f3] at hp; cases hp
          · exact f4 (n - 1) (by omega) (by omega)
end

theorem join_pre (p x : List UInt8) : ∀ (L : List (List UInt8)), Lib.join ((p ++ x) :: L) [44] = p ++ Lib.join (x :: L) [44]
  | [] => by simp [Lib.join]
  | y :: L => by rw [join_cons2, join_cons2]; simp
theorem foldl_appT : ∀ (L : List (List UInt8)) (s : List UInt8), s ≠ [] → L.foldl appT s = Lib.join (s :: L) [44]
  | [], s, _ => by simp [Lib.join]
  | x :: L, s, h => by
    rw [List.foldl_cons, foldl_appT L _ (by unfold appT; simp [h]), join_cons2]
    unfold appT
    rw [if_neg h, List.append_assoc, List.singleton_append, show s ++ 44 :: x = (s ++ [44]) ++ x by simp, join_pre]
    simp
theorem join_foldl {L : List (List UInt8)} (h : ∀ x ∈ L, x ≠ []) : Lib.join L [44] = L.foldl appT [] := by
  cases L with
  | nil => simp [Lib.join_nil]
  | cons x L =>
    rw [List.foldl_cons, foldl_appT L _ (appT_ne (h x (by simp)))]
    simp [appT]

/-- Is a field free, and allows all of its kind? -/
def wholeP (k : Int) (f : Fld) : Prop := f.star = true ∧ ∀ i : Nat, lowK k ≤ (i : Int) → (i : Int) ≤ mostK k → f.bits.testBit i = true
theorem whole_iff {k : Int} (hk : isK k = true) {f : Fld} (hr : ∀ j, f.bits.testBit j = true → lowK k ≤ (j : Int) ∧ (j : Int) ≤ mostK k) : wholeP k f ↔ (f.star = true ∧ f.bits = allK k) := by
  have hb := bounds_le hk
  have ha : ∀ j, (allK k).testBit j = (decide (lowK k ≤ (j : Int)) && decide ((j : Int) ≤ mostK k)) := fun j => by
    by_cases hj : j < 64
    · exact (all_bits hk j hj).2
    · have h1 : ¬ ((j : Int) ≤ mostK k) := by omega
      have h2 : allK k < 18446744073709551616 := by rcases isK_cases hk with rfl | rfl | rfl | rfl | rfl <;> decide
      have h3 : (allK k).testBit j = false := by
        cases ht : (allK k).testBit j with
        | false => rfl
        | true => have := testBit_high h2 ht; omega
      rw [h3]; simp [h1]
  constructor
  · rintro ⟨h1, h2⟩
    refine ⟨h1, Nat.eq_of_testBit_eq fun j => ?_⟩
    rw [ha]
    cases ht : f.bits.testBit j with
    | true => have := hr j ht; simp [this.1, this.2]
    | false =>
      have : ¬ (lowK k ≤ (j : Int) ∧ (j : Int) ≤ mostK k) := fun h => by rw [h2 j h.1 h.2] at ht; cases ht
      simp; omega
  · rintro ⟨h1, h2⟩
    refine ⟨h1, fun i h3 h4 => ?_⟩
    rw [h2, ha]; simp [h3, h4]

theorem text_ref {k : Int} {f : Fld} (hb : f.bits < 18446744073709551616) (h : mayB k f.bits = true) (hw : ¬ wholeP k f) : textK k f = refText f.bits 64 0 [] := by
  obtain ⟨hk, h0, hr⟩ := may_bits hb h
  have hbd := bounds_le hk
  rw [text_eq k hb]
  unfold text2
  rw [if_neg (by simp [h]), if_neg (fun e => hw ((whole_iff hk hr).2 e)), join_foldl (fun x hx => (piece_elem hb (fun j hj => by have := hr j hj; omega) _ _ x hx).2.2), ← refText_pieces hb 66 0 [] (by omega) (by omega) (.inl rfl)]
theorem text_star {k : Int} {f : Fld} (hb : f.bits < 18446744073709551616) (h : mayB k f.bits = true) (hw : wholeP k f) : textK k f = [42] := by
  obtain ⟨hk, h0, hr⟩ := may_bits hb h
  rw [text_eq k hb]
  unfold text2
  rw [if_neg (by simp [h]), if_pos ((whole_iff hk hr).1 hw)]
theorem text_none {k : Int} {f : Fld} (h : mayB k f.bits = false) : textK k f = [] := by
  unfold textK
  rw [if_pos h]
/-- How long a text grows. -/
theorem dec2_len (n : Nat) : (dec2 n).length ≤ 2 := by unfold dec2; split <;> simp
theorem refStep_len (b n : Nat) (s : List UInt8) : (refStep b n s).length ≤ s.length + 3 := by
  have h := dec2_len n
  unfold refStep appT
  (repeat' split) <;> simp <;> omega
end Go.Proofs.YtdpgnbinekcgdaaGreatDoor
