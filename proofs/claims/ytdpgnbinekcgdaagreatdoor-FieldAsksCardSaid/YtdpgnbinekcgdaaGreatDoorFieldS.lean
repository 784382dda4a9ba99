/- Fields: what the program's functions compute, in plain words. -/
import Derived.Test.YtdpgnbinekcgdaaGreatDoorMapf
import Derived.Laws.BitsAllLaws
namespace Go.Proofs.YtdpgnbinekcgdaaGreatDoor
open Rg Go

structure Fld where
  bits : Nat
  star : Bool
deriving DecidableEq

def fAV (f : Fld) : AV := .agg [.sc (.int .u64 f.bits), .sc (.bool f.star)]

def isK (k : Int) : Bool := decide (0 ≤ k) && decide (k ≤ 4)
theorem isK_cases {k : Int} (h : isK k = true) : k = 0 ∨ k = 1 ∨ k = 2 ∨ k = 3 ∨ k = 4 := by
  simp [isK] at h; omega
theorem isK_false {k : Int} (h : isK k = false) : k < 0 ∨ 4 < k := by
  simp [isK] at h; omega
def lowK (k : Int) : Int := [0, 0, 1, 1, 0].getD k.toNat 0
def highK (k : Int) : Int := [59, 23, 31, 12, 7].getD k.toNat 0
def mostK (k : Int) : Int := [59, 23, 31, 12, 6].getD k.toNat 0
/-- All numbers of a kind. -/
def allK (k : Int) : Nat := [1152921504606846975, 16777215, 4294967294, 8190, 127].getD k.toNat 0

/-- A number's upper digits. -/
def shr (a n : Nat) : Nat := a >>> n
def hasB (b : Nat) (n : Int) : Bool := decide (0 ≤ n) && decide (n ≤ 63) && b.testBit n.toNat
def mayB (k : Int) (b : Nat) : Bool := isK k && decide (b ≠ 0) && decide (b &&& (18446744073709551615 - allK k) = 0)
/-- The least number from n on. -/
def firstB (b : Nat) (n : Int) : Option Nat :=
  if 63 < n ∨ shr b n.toNat = 0 then none else some (n.toNat + Lib.ctz 64 (shr b n.toNat))
def optAV : Option Nat → AV
  | some n => .tup [.sc (.int .i64 n), .sc (.bool true)]
  | none => .tup [.sc (.int .i64 0), .sc (.bool false)]

@[simp] theorem u64_bits : IntKind.u64.bits = 64 := rfl
@[simp] theorem i64_bits : IntKind.i64.bits = 64 := rfl
/-- Where a text stands first in a row. -/
def idxL (zs : List (List UInt8)) (x : List UInt8) (i : Nat) : Int :=
  match zs with
  | [] => -1
  | z :: zs => if z = x then i else idxL zs x (i + 1)
theorem idxL_eq (x : List UInt8) : ∀ (zs : List (List UInt8)) (i : Nat), Lib.idxFromS (zs.map fun l => ⟨l.toArray⟩) ⟨x.toArray⟩ i = idxL zs x i
  | [], i => rfl
  | z :: zs, i => by
    simp only [List.map_cons, Lib.idxFromS, idxL, ba_inj]
    rw [idxL_eq x zs (i + 1)]
theorem idxL_le (x : List UInt8) : ∀ (zs : List (List UInt8)) (i : Nat), -1 ≤ idxL zs x i ∧ idxL zs x i < i + zs.length + 1
  | [], i => by simp [idxL]; omega
  | z :: zs, i => by
    have h := idxL_le x zs (i + 1)
    unfold idxL
    split
    · simp; omega
    · simp at h ⊢; omega
def digs : List UInt8 := [48, 49, 50, 51, 52, 53, 54, 55, 56, 57]
def months : List (List UInt8) := [[106, 97, 110], [102, 101, 98], [109, 97, 114], [97, 112, 114], [109, 97, 121], [106, 117, 110], [106, 117, 108], [97, 117, 103], [115, 101, 112], [111, 99, 116], [110, 111, 118], [100, 101, 99]]
def days : List (List UInt8) := [[115, 117, 110], [109, 111, 110], [116, 117, 101], [119, 101, 100], [116, 104, 117], [102, 114, 105], [115, 97, 116]]
def dig2 (s : List UInt8) : Bool := decide (1 ≤ s.length) && decide (s.length ≤ 2) && decide (Lib.trimS s digs = [])
def nameK (k : Int) (low : List UInt8) : Int :=
  if k = 3 then (if 0 ≤ idxL months low 0 then idxL months low 0 + 1 else idxL months low 0)
  else if k = 4 then idxL days low 0 else -1
/-- A word's number, and whether it has one. -/
def numK (k : Int) (s : List UInt8) : Int × Bool :=
  if dig2 s = true then ((Lib.atoi s).getD 0, true)
  else (nameK k (Lib.mapD lowR s), decide (0 ≤ nameK k (Lib.mapD lowR s)))
theorem nameK_le (k : Int) (l : List UInt8) : -1 ≤ nameK k l ∧ nameK k l ≤ 13 := by
  have h1 := idxL_le l months 0
  have h2 := idxL_le l days 0
  simp only [months, days, List.length_cons, List.length_nil] at h1 h2
  simp only [nameK, months, days]
  repeat' split
  all_goals omega
theorem dw_nil (p : UInt8 → Bool) : ∀ l : List UInt8, l.dropWhile p = [] ↔ ∀ x ∈ l, p x = true
  | [] => by simp
  | a :: l => by
    cases h : p a with
    | true => rw [List.dropWhile_cons_of_pos h, dw_nil p l]; simp [h]
    | false => rw [List.dropWhile_cons_of_neg (by simp [h])]; simp [h]
theorem dw_head (p : UInt8 → Bool) : ∀ (l : List UInt8) {x : UInt8} {r : List UInt8}, l.dropWhile p = x :: r → p x = false
  | [], x, r, h => by simp at h
  | a :: l, x, r, h => by
    cases hp : p a with
    | true => rw [List.dropWhile_cons_of_pos hp] at h; exact dw_head p l h
    | false => rw [List.dropWhile_cons_of_neg (by simp [hp])] at h; cases h; exact hp
theorem trimS_nil (l cs : List UInt8) : Lib.trimS l cs = [] ↔ ∀ b ∈ l, cs.contains b = true := by
  unfold Lib.trimS Lib.trimLeftS Lib.trimRightS
  rw [dw_nil]
  constructor
  · intro h
    have h0 : l.reverse.dropWhile (cs.contains ·) = [] := by
      cases hx : l.reverse.dropWhile (cs.contains ·) with
      | nil => rfl
      | cons x r =>
        have h1 := h x (by rw [hx]; simp)
        rw [dw_head _ _ hx] at h1; cases h1
    rw [dw_nil] at h0
    exact fun b hb => h0 b (by simpa using hb)
  · intro h
    have h0 : l.reverse.dropWhile (cs.contains ·) = [] := (dw_nil _ _).2 fun b hb => h b (by simpa using hb)
    rw [h0]
    simp
theorem digs_val {a : UInt8} (h : digs.contains a = true) : ∃ d, Lib.digitVal a = some d ∧ d ≤ 9 ∧ (a == 45) = false ∧ (a == 43) = false := by
  simp only [digs, List.contains_eq_mem, List.mem_cons, List.not_mem_nil, or_false, decide_eq_true_eq] at h
  rcases h with rfl | rfl | rfl | rfl | rfl | rfl | rfl | rfl | rfl | rfl <;> exact ⟨_, rfl, by decide, rfl, rfl⟩
theorem dig2_atoi {s : List UInt8} (h : dig2 s = true) : ∃ n : Nat, Lib.atoi s = some (n : Int) ∧ n ≤ 99 := by
  simp only [dig2, Bool.and_eq_true, decide_eq_true_eq, trimS_nil] at h
  obtain ⟨⟨h1, h2⟩, h3⟩ := h
  match s, h1, h2, h3 with
  | [a], _, _, h3 =>
    obtain ⟨d, e1, e2, e3, e4⟩ := digs_val (h3 a (by simp))
    exact ⟨d, by simp [Lib.atoi, e3, e4, Lib.decNat, Lib.decFrom, e1], by omega⟩
  | [a, b], _, _, h3 =>
    obtain ⟨d, e1, e2, e3, e4⟩ := digs_val (h3 a (by simp))
    obtain ⟨d', e1', e2', e3', e4'⟩ := digs_val (h3 b (by simp))
    exact ⟨d * 10 + d', by simp [Lib.atoi, e3, e4, Lib.decNat, Lib.decFrom, e1, e1'], by omega⟩
  | [], h1, _, _ => simp at h1
  | a :: b :: c :: r, _, h2, _ => simp at h2
/-- What is wrong behind one more word of an item. -/
def takeE (k : Int) (w : List UInt8) (e : Int) : Int :=
  if (numK k w).2 = false then 60 else if e = 0 ∧ ((numK k w).1 < lowK k ∨ highK k < (numK k w).1) then 61 else e
def pow2 (n : Nat) : Nat := 2 ^ n
def modN (n m : Nat) : Nat := n % m
theorem pow2_lt {n m : Nat} (h : n < m) (hm : m ≤ 64) : pow2 (modN n m) < 18446744073709551616 := Nat.pow_lt_pow_right (by decide) (Nat.lt_of_lt_of_le (Nat.mod_lt _ (by omega)) hm)
theorem modN_lt (n : Nat) {m : Nat} (h : 0 < m) : modN n m < m := Nat.mod_lt _ h
theorem pow2_small {n : Nat} (h : n < 64) : pow2 n < 18446744073709551616 := by
  have : pow2 n < 2 ^ 64 := Nat.pow_lt_pow_right (by decide) h
  exact this
theorem or_small {a b : Nat} (ha : a < 18446744073709551616) (hb : b < 18446744073709551616) : a ||| b < 18446744073709551616 := by
  have : a ||| b < 2 ^ 64 := Nat.or_lt_two_pow ha hb
  exact this
theorem tmod_nat (n m : Nat) : (n : Int).tmod (m : Int) = (modN n m : Int) := rfl
theorem shl_nat {r : Nat} (h : r < 64) : IntKind.u64.wrap (2 ^ r) = (pow2 r : Int) := by
  have h1 := pow2_small h
  have h2 : (2 : Int) ^ r = (pow2 r : Int) := by unfold pow2; norm_cast
  rw [h2]
  exact wrap_u64 (by omega) (by omega)
theorem mostK_nat {k : Int} (hk : isK k = true) : ∃ M : Nat, mostK k + 1 = (M : Int) ∧ 7 ≤ M ∧ M ≤ 60 := by
  rcases isK_cases hk with rfl | rfl | rfl | rfl | rfl
  · exact ⟨60, rfl, by omega, by omega⟩
  · exact ⟨24, rfl, by omega, by omega⟩
  · exact ⟨32, rfl, by omega, by omega⟩
  · exact ⟨13, rfl, by omega, by omega⟩
  · exact ⟨7, rfl, by omega, by omega⟩
theorem bounds_le {k : Int} (hk : isK k = true) : 0 ≤ lowK k ∧ lowK k ≤ 1 ∧ mostK k ≤ 59 ∧ highK k ≤ 59 ∧ mostK k ≤ highK k ∧ 6 ≤ mostK k := by
  rcases isK_cases hk with rfl | rfl | rfl | rfl | rfl <;> decide
theorem numK_le (k : Int) (s : List UInt8) : -1 ≤ (numK k s).1 ∧ (numK k s).1 ≤ 99 := by
  unfold numK
  split
  · rename_i h
    obtain ⟨n, h1, h2⟩ := dig2_atoi h
    rw [h1]; simp; omega
  · have := nameK_le k (Lib.mapD lowR s)
    simp; omega
theorem takeE_zero {k e : Int} {w : List UInt8} (h : takeE k w e = 0) : e = 0 ∧ (numK k w).2 = true ∧ lowK k ≤ (numK k w).1 ∧ (numK k w).1 ≤ highK k := by
  unfold takeE at h
  split at h
  · cases h
  · rename_i h1
    split at h
    · cases h
    · rename_i h2
      refine ⟨h, by simpa using h1, ?_, ?_⟩ <;> omega
/-- A row's numbers, from one on, up to the last one. -/
def setFrom (m step : Nat) (last : Int) : Nat → Nat → Nat → Nat
  | 0, _, set => set
  | f + 1, n, set => if (n : Int) ≤ last then setFrom m step last f (n + step) (set ||| pow2 (modN n m)) else set
/-- The end of an item. -/
def finK (k first last step e : Int) : Nat × Int :=
  if e ≠ 0 then (0, e) else if last < first ∨ step < 1 ∨ 59 < step then (0, 61) else (setFrom (mostK k + 1).toNat step.toNat last 200 first.toNat 0, 0)
def bodyK (k : Int) (body : List UInt8) (stepped : Bool) (step : Int) : Nat × Int :=
  if body = [42] then finK k (lowK k) (mostK k) step 0 else
  if stepped = true ∧ (Lib.cut body [45]).2.2 = false then (0, 60) else
  if (Lib.cut body [45]).2.2 = true then finK k (numK k (Lib.cut body [45]).1).1 (numK k (Lib.cut body [45]).2.1).1 step (takeE k (Lib.cut body [45]).2.1 (takeE k (Lib.cut body [45]).1 0))
  else finK k (numK k (Lib.cut body [45]).1).1 (numK k (Lib.cut body [45]).1).1 step (takeE k (Lib.cut body [45]).1 0)
/-- What an item allows, or what is wrong. -/
def itemK (k : Int) (s : List UInt8) : Nat × Int :=
  if (Lib.cut s [47]).2.2 = true then
    if (numK 0 (Lib.cut s [47]).2.1).2 = false then (0, 60) else bodyK k (Lib.cut s [47]).1 true (numK 0 (Lib.cut s [47]).2.1).1
  else bodyK k (Lib.cut s [47]).1 false 1
/-- A text's field: its items from one on. -/
def parseGo (k : Int) : List (List UInt8) → Fld → Fld × Int
  | [], f => (f, 0)
  | x :: r, f => if (itemK k x).2 ≠ 0 then (⟨0, false⟩, (itemK k x).2) else parseGo k r ⟨f.bits ||| (itemK k x).1, f.star⟩
/-- A text's field, or what is wrong. -/
def parseK (k : Int) (s : List UInt8) : Fld × Int :=
  if isK k = false then (⟨0, false⟩, 2) else if 150 < s.length then (⟨0, false⟩, 3) else parseGo k (Lib.split s [44]) ⟨0, Lib.hasPrefix s [42]⟩
theorem setFrom_lt {m step : Nat} {last : Int} (h0 : 0 < m) (h1 : m ≤ 64) : ∀ (f n set : Nat), set < 18446744073709551616 → setFrom m step last f n set < 18446744073709551616
  | 0, n, set, h => h
  | f + 1, n, set, h => by
    unfold setFrom
    split
    · exact setFrom_lt h0 h1 f _ _ (or_small h (pow2_small (Nat.lt_of_lt_of_le (modN_lt n h0) h1)))
    · exact h
theorem finK_lt {k : Int} (hk : isK k = true) (first last step e : Int) : (finK k first last step e).1 < 18446744073709551616 := by
  obtain ⟨M, hM, h1, h2⟩ := mostK_nat hk
  unfold finK
  rw [hM]
  split
  · exact (by decide : (0 : Nat) < 18446744073709551616)
  · split
    · exact (by decide : (0 : Nat) < 18446744073709551616)
    · exact setFrom_lt (by simp; omega) (by simp; omega) _ _ _ (by decide)
theorem bodyK_lt {k : Int} (hk : isK k = true) (b : List UInt8) (st : Bool) (step : Int) : (bodyK k b st step).1 < 18446744073709551616 := by
  unfold bodyK
  repeat' split
  all_goals first | exact finK_lt hk _ _ _ _ | decide
theorem itemK_lt {k : Int} (hk : isK k = true) (s : List UInt8) : (itemK k s).1 < 18446744073709551616 := by
  unfold itemK
  repeat' split
  all_goals first | exact bodyK_lt hk _ _ _ | decide
theorem split_len (p : List UInt8) : ∀ (k : Nat) (s : List UInt8), ∀ x ∈ Lib.splitK p 0 k s, x.length ≤ s.length
  | 0, s, x, h => by simp [Lib.splitK] at h; subst h; exact Nat.le_refl _
  | k + 1, s, x, h => by
    unfold Lib.splitK at h
    split at h
    · simp at h; subst h; exact Nat.le_refl _
    · rcases List.mem_cons.1 h with rfl | h
      · simp; omega
      · have := split_len p k _ x h
        simp at this; omega
theorem shr_nat (a n : Nat) : (a : Int).fdiv (2 ^ n) = (shr a n : Int) := by
  rw [Int.fdiv_eq_ediv_of_nonneg _ (by exact_mod_cast Nat.zero_le _)]
  unfold shr
  rw [Nat.shiftRight_eq_div_pow]
  norm_cast
theorem shr_lt {a : Nat} (n : Nat) (ha : a < 18446744073709551616) : shr a n < 18446744073709551616 := by
  unfold shr
  rw [Nat.shiftRight_eq_div_pow]
  exact Nat.lt_of_le_of_lt (Nat.div_le_self _ _) ha
theorem and1_nat (a m : Nat) (ha : a < 18446744073709551616) : (bits .and .u64 (shr a m : Int) 1 = 1) = (a.testBit m = true) := by
  have h := u64_and_nat (shr a m) 1 (shr_lt m ha) (by decide)
  rw [Nat.and_one_is_mod] at h
  rw [show (1 : Int) = ((1 : Nat) : Int) from rfl, h, Nat.testBit_eq_decide_div_mod_eq]
  unfold shr
  rw [Nat.shiftRight_eq_div_pow]
  norm_cast
  simp
theorem firstB_eq (b : Nat) (n : Int) : firstB b n = if 63 < n.toNat ∨ shr b n.toNat = 0 then none else some (n.toNat + Lib.ctz 64 (shr b n.toNat)) := by
  have e : (63 < n) = (63 < n.toNat) := by apply propext; omega
  unfold firstB
  simp only [e]
theorem ctz_le (x : Nat) (hx : x < 18446744073709551616) : Lib.ctz 64 x ≤ 64 := by
  unfold Lib.ctz
  split
  · exact Nat.le_refl _
  · obtain ⟨m, _, h⟩ := Lib.ctzFrom_spec 64 x (by omega) hx
    omega

/-! ### A field's text -/
def runEnd (b : Nat) : Nat → Nat → Nat
  | 0, n => n
  | f + 1, n => if hasB b ((n + 1 : Nat) : Int) = true then runEnd b f (n + 1) else n
/-- The pieces of a field's text, from a number on. -/
def pieces (b : Nat) : Nat → Nat → List (List UInt8)
  | 0, _ => []
  | f + 1, at_ =>
    match firstB b at_ with
    | none => []
    | some n =>
      (if n + 2 ≤ runEnd b 64 n then [Lib.decDigits n ++ [45] ++ Lib.decDigits (runEnd b 64 n)] else (List.range' n (runEnd b 64 n + 1 - n)).map Lib.decDigits) ++ pieces b f (runEnd b 64 n + 1)
def textK (k : Int) (f : Fld) : List UInt8 :=
  if mayB k f.bits = false then [] else if f.star = true ∧ f.bits = allK k then [42] else Lib.join (pieces f.bits 66 0) [44]

theorem ctz_spec {x : Nat} (h0 : 0 < x) (hx : x < 18446744073709551616) : ∃ m, x = 2 ^ Lib.ctz 64 x * (2 * m + 1) ∧ Lib.ctz 64 x < 64 := by
  have e : Lib.ctz 64 x = Lib.ctzFrom 64 x := by unfold Lib.ctz; rw [if_neg (by omega)]
  rw [e]
  exact Lib.ctzFrom_spec 64 x h0 hx
theorem testBit_high {b i : Nat} (hb : b < 18446744073709551616) (h : b.testBit i = true) : i ≤ 63 := by
  apply Nat.le_of_not_lt
  intro hi
  have h1 : 2 ^ 64 ≤ 2 ^ i := Nat.pow_le_pow_right (by decide) hi
  have h2 : b < 2 ^ i := Nat.lt_of_lt_of_le hb h1
  rw [Nat.testBit_lt_two_pow h2] at h
  cases h
theorem firstB_some {b m : Nat} {n : Int} (hb : b < 18446744073709551616) (h : firstB b n = some m) : n.toNat ≤ m ∧ m ≤ 63 ∧ b.testBit m = true ∧ ∀ i, n.toNat ≤ i → i < m → b.testBit i = false := by
  rw [firstB_eq] at h
  split at h
  · cases h
  · rename_i hn
    cases h
    have hx0 : 0 < shr b n.toNat := by omega
    obtain ⟨m, hm, hc⟩ := ctz_spec hx0 (shr_lt _ hb)
    generalize Lib.ctz 64 (shr b n.toNat) = c at *
    have key : ∀ i, b.testBit (n.toNat + i) = (2 ^ c * (2 * m + 1)).testBit i := fun i => by
      rw [← hm]; unfold shr; rw [Nat.testBit_shiftRight]
    have ht : b.testBit (n.toNat + c) = true := by
      rw [key, Nat.testBit_two_pow_mul]
      simp
    refine ⟨by omega, testBit_high hb ht, ht, fun i h1 h2 => ?_⟩
    obtain ⟨d, rfl⟩ : ∃ d, i = n.toNat + d := ⟨i - n.toNat, by omega⟩
    rw [key, Nat.testBit_two_pow_mul]
    simp; omega
theorem firstB_none {b : Nat} {n : Int} (hb : b < 18446744073709551616) (h : firstB b n = none) : ∀ i, n.toNat ≤ i → b.testBit i = false := by
  rw [firstB_eq] at h
  intro i hi
  split at h
  · rename_i hn
    rcases hn with hn | hn
    · cases ht : b.testBit i with
      | false => rfl
      | true => have := testBit_high hb ht; omega
    · unfold shr at hn
      obtain ⟨d, rfl⟩ : ∃ d, i = n.toNat + d := ⟨i - n.toNat, by omega⟩
      rw [← Nat.testBit_shiftRight, hn]
      simp
  · cases h
theorem runEnd_le (b : Nat) : ∀ (f n : Nat), n ≤ 63 → n ≤ runEnd b f n ∧ runEnd b f n ≤ 63
  | 0, n, h => ⟨Nat.le_refl _, h⟩
  | f + 1, n, h => by
    unfold runEnd
    split
    · rename_i hb
      have hn : n + 1 ≤ 63 := by simp [hasB] at hb; omega
      have := runEnd_le b f (n + 1) hn
      omega
    · exact ⟨Nat.le_refl _, h⟩
theorem dec_length {i : Nat} (h : i < 100) : (Lib.decDigits i).length ≤ 2 := by
  unfold Lib.decDigits
  split
  · simp
  · unfold Lib.decDigits
    rw [dif_pos (by omega)]
    simp
theorem lens_le {c : Nat} : ∀ {l : List (List UInt8)}, (∀ x ∈ l, x.length ≤ c) → Lib.lens l ≤ l.length * c
  | [], _ => by simp [Lib.lens]
  | x :: l, h => by
    have h1 := h x (by simp)
    have h2 := lens_le (l := l) fun y hy => h y (by simp [hy])
    have h3 : Lib.lens (x :: l) = x.length + Lib.lens l := by simp [Lib.lens]
    rw [h3, List.length_cons, Nat.add_mul]
    omega
theorem join_le {c : Nat} {l : List (List UInt8)} (h : ∀ x ∈ l, x.length ≤ c) (y : UInt8) : (Lib.join l [y]).length ≤ l.length * (c + 1) := by
  cases l with
  | nil => simp [Lib.join_nil]
  | cons x r =>
    rw [Lib.join_length, List.length_singleton]
    have := lens_le h
    rw [List.length_cons] at *
    rw [Nat.mul_add]
    omega
end Go.Proofs.YtdpgnbinekcgdaaGreatDoor
