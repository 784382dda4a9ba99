/- The kit's contracts on Go's library, over lists of bytes; what the package variables hold. strings.Map in field.number. Fields: what the program's functions compute, in plain words. Fields: kinds, bounds, what is allowed. Fields: a word's number. Fields: an item. Fields: a text's field. Fields: a field's text. Fields: the chapter's rows. Split and Cut at one byte, in plain words. Fields: plain laws of what a text's items allow. Fields: a field's text, parsed, allows the same. Fields: a text told is parsed back; two texts, joined. -/
import Derived.Test.YtmoncokklkiikaaGreatDoorP08
import Derived.Test.YtmoncokklkiikaaGreatDoorP11
import Derived.Test.YtmoncokklkiikaaGreatDoorP12
import Derived.Lib.AtoiErrMem
import Derived.WalkKit
import Derived.WalkSpells
import Derived.Laws.BitsAllLaws
import Derived.Lib.SplitLaws
set_option linter.unusedSimpArgs false
set_option linter.unusedVariables false
set_option linter.unnecessarySimpa false
namespace Go.Proofs.YtmoncokklkiikaaGreatDoor
open Rg Go Go.RowKit
abbrev str (l : List UInt8) : AV := .sc (.string ⟨l.toArray⟩)
abbrev strL (l : List (List UInt8)) : List AV := l.map str
structure Glob (H : Heap) : Prop where
  maxLen : ∃ m, H 4 = some (.ro [.int .i64 m])
  ctz : ∃ us, H 0 = some (.ro us) ∧ ∀ j, j < Lib.deBruijn64tab.length → us[j]? = some (.int .u8 (Lib.deBruijn64tab.getD j 0))
  first : ∃ us, H 5 = some (.ro us) ∧ ∀ c, c < 256 → us[c]? = some (.int .u8 (Lib.firstT c))
  accept : ∃ us, H 6 = some (.ro us) ∧ ∀ i, i < 16 → us[2 * i]? = some (.int .u8 (Lib.accLo i)) ∧ us[2 * i + 1]? = some (.int .u8 (Lib.accHi i))
theorem Glob.mono {H K : Heap} (h : Glob H) (hk : ∀ b us, H b = some (.ro us) → K b = some (.ro us)) : Glob K := by
  obtain ⟨⟨m, h1⟩, ⟨u2, h2, g2⟩, ⟨u3, h3, g3⟩, ⟨u4, h4, g4⟩⟩ := h
  exact ⟨⟨m, hk _ _ h1⟩, ⟨u2, hk _ _ h2, g2⟩, ⟨u3, hk _ _ h3, g3⟩, ⟨u4, hk _ _ h4, g4⟩⟩
theorem Glob.le {H K : Heap} (h : Glob H) (hk : HLe H K) : Glob K := h.mono fun b us e => hk b _ e
theorem Glob.set {H : Heap} {b : Nat} {o : AObj} (h : Glob H) (hb : ∀ us, H b ≠ some (.ro us)) : Glob (H.set b o) := h.mono fun c us e => by
  unfold Heap.set
  split
  · rename_i hc; subst hc; exact absurd e (hb us)
  · exact e
theorem Glob.new {H : Heap} {b : Nat} {o : AObj} (h : Glob H) (hb : H b = none) : Glob (H.set b o) := h.le (HLe.set_fresh hb)
theorem Glob.del {H : Heap} {b : Nat} (h : Glob H) (hb : ∀ us, H b ≠ some (.ro us)) : Glob (H.del b) := h.mono fun c us e => by
  unfold Heap.del
  split
  · rename_i hc; subst hc; exact absurd e (hb us)
  · exact e
variable {W0 w : World} {C : Com} {H : Heap}
theorem Glob.mLen (h : Glob H) (hi : Inv W0 C H w) : ∃ m, w.cell? ⟨4, 0, none⟩ = some (.int .i64 m) := by
  obtain ⟨m, hm⟩ := h.maxLen
  exact ⟨m, hi.ro hm rfl⟩
theorem Glob.tab (h : Glob H) (hi : Inv W0 C H w) : TabAt 0 Lib.deBruijn64tab w := by
  obtain ⟨u, h1, g1⟩ := h.ctz
  exact fun j hj => hi.ro h1 (g1 j hj)
theorem splitB_list (s p : List UInt8) : Lib.splitB ⟨p.toArray⟩ 0 (Lib.countB ⟨s.toArray⟩ ⟨p.toArray⟩) ⟨s.toArray⟩ = (Lib.split s p).map fun l => ⟨l.toArray⟩ := by
  have h := Lib.splitB_data ⟨p.toArray⟩ 0 (Lib.countB ⟨s.toArray⟩ ⟨p.toArray⟩) ⟨s.toArray⟩
  have h2 : Lib.split s p = (Lib.splitB ⟨p.toArray⟩ 0 (Lib.countB ⟨s.toArray⟩ ⟨p.toArray⟩) ⟨s.toArray⟩).map (·.data.toList) := h.symm
  rw [h2, List.map_map]
  exact (List.map_id' _).symm
theorem split_length (s p : List UInt8) (hp : 1 ≤ p.length) : (Lib.split s p).length ≤ s.length + 1 := by
  have hp1 : 1 ≤ (⟨p.toArray⟩ : ByteArray).size := by simpa [Lib.size_eq] using hp
  have hlen := Lib.splitB_all ⟨p.toArray⟩ hp1 0 _ ⟨s.toArray⟩ rfl
  have hle := Lib.countB_le ⟨p.toArray⟩ hp1 _ ⟨s.toArray⟩ (Nat.le_refl _)
  rw [splitB_list, List.length_map] at hlen
  rw [ba_size] at hle
  omega
theorem c_len64 (x : Int) (h0 : 0 ≤ x) (h1 : x ≤ 18446744073709551615) : AOk Tryz.prog 179 [.sc (.int .u64 x)] H (.sc (.int .i64 (Lib.bitLen x.toNat))) H :=
  AOk.kit (vs := [.int .u64 x]) (r := .int .i64 (Lib.bitLen x.toNat)) fun W0 C w _ => (Tryz.bits_Len64 x w h0 h1).mono fun e w' ⟨h1, h2⟩ => ⟨h1, h2 ▸ Below.refl _ _⟩
theorem c_join (xs : List (List UInt8)) (t : Tok) (sep : List UInt8) (hN : xs.length ≤ 140737488355328) (hl : (Lib.join xs sep).length ≤ 140737488355328) : AOk Tryz.prog 117 [.sl (strL xs) t, str sep] H (str (Lib.join xs sep)) H := by
  intro W0 C w us hi ha
  obtain ⟨v, us', rfl, hv, hr⟩ := ha.uncons
  obtain ⟨v2, us'', rfl, hv2, hr⟩ := hr.uncons
  obtain rfl := hr.nil_inv
  obtain rfl := hv2.sc_inv
  have hv' : Rel C (.sl ((xs.map fun l => (⟨l.toArray⟩ : ByteArray)).map strAV) t) v := by simpa [Function.comp_def] using hv
  obtain ⟨a, cap, rfl, h1, h2, h3⟩ := strs_open hi hv'
  have fin : ∀ (e : Ending) (w' : World), (e = .returned (.string ⟨(Lib.join xs sep).toArray⟩) ∧ Below w.heap.size w w') → ∃ r H' C' v, e = .returned v ∧ ROk (str (Lib.join xs sep)) H r H' ∧ CLe C C' ∧ Rel C' r v ∧ Inv W0 C' H' w' := by
    rintro e w' ⟨rfl, hb⟩
    exact ⟨_, _, C, _, rfl, ⟨rfl, rfl⟩, CLe.refl C, Rel.sc _, hi.step hb⟩
  have hm : ((xs.map fun l => (⟨l.toArray⟩ : ByteArray)).map (·.data.toList)) = xs := by simp [Function.comp_def]
  rcases h3 with h3 | ⟨b, o, rfl, hb, hc⟩
  · have hz0 : xs = [] := by simpa using h3
    subst hz0
    exact .inl <| (Tryz.strings_Join_none a cap ⟨sep.toArray⟩ w).mono fun e w' ⟨h1, h2⟩ => fin e w' ⟨h1, h2 ▸ Below.refl _ _⟩
  · have key := Tryz.strings_Join b o cap (xs.map fun l => ⟨l.toArray⟩) ⟨sep.toArray⟩ w hc hb (by rw [List.length_map]; exact hN) h1 (by rw [hm]; exact hl)
    rw [hm] at key
    exact .inl (key.mono fin)
end Go.Proofs.YtmoncokklkiikaaGreatDoor
namespace Go.Proofs.YtmoncokklkiikaaGreatDoor
open Rg Go Go.RowKit
def lowR (x : Int) : Int := if 65 ≤ x ∧ x ≤ 90 then x + 32 else x
end Go.Proofs.YtmoncokklkiikaaGreatDoor
namespace Go.Proofs.YtmoncokklkiikaaGreatDoor
open Rg Go
structure Fld where
  bits : Nat
  star : Bool
deriving DecidableEq
def fAV (f : Fld) : AV := .agg [.sc (.int .u64 f.bits), .sc (.bool f.star)]
def isK (k : Int) : Bool := decide (0 ≤ k) && decide (k ≤ 4)
theorem isK_cases {k : Int} (h : isK k = true) : k = 0 ∨ k = 1 ∨ k = 2 ∨ k = 3 ∨ k = 4 := by
  simp [isK] at h; omega
def lowK (k : Int) : Int := [0, 0, 1, 1, 0].getD k.toNat 0
def highK (k : Int) : Int := [59, 23, 31, 12, 7].getD k.toNat 0
def mostK (k : Int) : Int := [59, 23, 31, 12, 6].getD k.toNat 0
def allK (k : Int) : Nat := [1152921504606846975, 16777215, 4294967294, 8190, 127].getD k.toNat 0
def shr (a n : Nat) : Nat := a >>> n
def hasB (b : Nat) (n : Int) : Bool := decide (0 ≤ n) && decide (n ≤ 63) && b.testBit n.toNat
def mayB (k : Int) (b : Nat) : Bool := isK k && decide (b ≠ 0) && decide (b &&& (18446744073709551615 - allK k) = 0)
def firstB (b : Nat) (n : Int) : Option Nat :=
  if 63 < n ∨ shr b n.toNat = 0 then none else some (n.toNat + Lib.ctz 64 (shr b n.toNat))
def optAV : Option Nat → AV
  | some n => .tup [.sc (.int .i64 n), .sc (.bool true)]
  | none => .tup [.sc (.int .i64 0), .sc (.bool false)]
@[simp] theorem u64_bits : IntKind.u64.bits = 64 := rfl
@[simp] theorem i64_bits : IntKind.i64.bits = 64 := rfl
def idxL (zs : List (List UInt8)) (x : List UInt8) (i : Nat) : Int :=
  match zs with
  | [] => -1
  | z :: zs => if z = x then i else idxL zs x (i + 1)
theorem idxL_le (x : List UInt8) : ∀ (zs : List (List UInt8)) (i : Nat), -1 ≤ idxL zs x i ∧ idxL zs x i < i + zs.length + 1
  | [], i => by simp [idxL]; omega
  | z :: zs, i => by
    have h := idxL_le x zs (i + 1)
    unfold idxL
    split
    · simp; omega
    · simp at h ⊢; omega
def digs : List UInt8 := [48, 49, 50, 51, 52, 53, 54, 55, 56, 57]
def months : List (List UInt8) := [[106, 97, 110], [102, 101, 98], [109, 97, 114], [97, 112, 114], [109, 97, 121], [106, 117, 110], [106, 117, 108], [97, 117, 103], [115, 101, 112], [111, 99, 116], [110, 111, 118], [100, 101, 99]]
def days : List (List UInt8) := [[115, 117, 110], [109, 111, 110], [116, 117, 101], [119, 101, 100], [116, 104, 117], [102, 114, 105], [115, 97, 116]]
def dig2 (s : List UInt8) : Bool := decide (1 ≤ s.length) && decide (s.length ≤ 2) && decide (Lib.trimS s digs = [])
def nameK (k : Int) (low : List UInt8) : Int :=
  if k = 3 then (if 0 ≤ idxL months low 0 then idxL months low 0 + 1 else idxL months low 0)
  else if k = 4 then idxL days low 0 else -1
def numK (k : Int) (s : List UInt8) : Int × Bool :=
  if dig2 s = true then ((Lib.atoi s).getD 0, true)
  else (nameK k (Lib.mapD lowR s), decide (0 ≤ nameK k (Lib.mapD lowR s)))
theorem nameK_le (k : Int) (l : List UInt8) : -1 ≤ nameK k l ∧ nameK k l ≤ 13 := by
  have h1 := idxL_le l months 0
  have h2 := idxL_le l days 0
  simp only [months, days, List.length_cons, List.length_nil] at h1 h2
  simp only [nameK, months, days]
  repeat' split
  all_goals omega
theorem dw_nil (p : UInt8 → Bool) : ∀ l : List UInt8, l.dropWhile p = [] ↔ ∀ x ∈ l, p x = true
  | [] => by simp
  | a :: l => by
    cases h : p a with
    | true => rw [List.dropWhile_cons_of_pos h, dw_nil p l]; simp [h]
    | false => rw [List.dropWhile_cons_of_neg (by simp [h])]; simp [h]
theorem dw_head (p : UInt8 → Bool) : ∀ (l : List UInt8) {x : UInt8} {r : List UInt8}, l.dropWhile p = x :: r → p x = false
  | [], x, r, h => by simp at h
  | a :: l, x, r, h => by
    cases hp : p a with
    | true => rw [List.dropWhile_cons_of_pos hp] at h; exact dw_head p l h
    | false => rw [List.dropWhile_cons_of_neg (by simp [hp])] at h; cases h; exact hp
theorem trimS_nil (l cs : List UInt8) : Lib.trimS l cs = [] ↔ ∀ b ∈ l, cs.contains b = true := by
  unfold Lib.trimS Lib.trimLeftS Lib.trimRightS
  rw [dw_nil]
  constructor
  · intro h
    have h0 : l.reverse.dropWhile (cs.contains ·) = [] := by
      cases hx : l.reverse.dropWhile (cs.contains ·) with
      | nil => rfl
      | cons x r =>
        have h1 := h x (by rw [hx]; simp)
        rw [dw_head _ _ hx] at h1; cases h1
    rw [dw_nil] at h0
    exact fun b hb => h0 b (by simpa using hb)
  · intro h
    have h0 : l.reverse.dropWhile (cs.contains ·) = [] := (dw_nil _ _).2 fun b hb => h b (by simpa using hb)
    rw [h0]
    simp
theorem digs_val {a : UInt8} (h : digs.contains a = true) : ∃ d, Lib.digitVal a = some d ∧ d ≤ 9 ∧ (a == 45) = false ∧ (a == 43) = false := by
  simp only [digs, List.contains_eq_mem, List.mem_cons, List.not_mem_nil, or_false, decide_eq_true_eq] at h
  rcases h with rfl | rfl | rfl | rfl | rfl | rfl | rfl | rfl | rfl | rfl <;> exact ⟨_, rfl, by decide, rfl, rfl⟩
theorem dig2_atoi {s : List UInt8} (h : dig2 s = true) : ∃ n : Nat, Lib.atoi s = some (n : Int) ∧ n ≤ 99 := by
  simp only [dig2, Bool.and_eq_true, decide_eq_true_eq, trimS_nil] at h
  obtain ⟨⟨h1, h2⟩, h3⟩ := h
  match s, h1, h2, h3 with
  | [a], _, _, h3 =>
    obtain ⟨d, e1, e2, e3, e4⟩ := digs_val (h3 a (by simp))
    exact ⟨d, by simp [Lib.atoi, e3, e4, Lib.decNat, Lib.decFrom, e1], by omega⟩
  | [a, b], _, _, h3 =>
    obtain ⟨d, e1, e2, e3, e4⟩ := digs_val (h3 a (by simp))
    obtain ⟨d', e1', e2', e3', e4'⟩ := digs_val (h3 b (by simp))
    exact ⟨d * 10 + d', by simp [Lib.atoi, e3, e4, Lib.decNat, Lib.decFrom, e1, e1'], by omega⟩
  | [], h1, _, _ => simp at h1
  | a :: b :: c :: r, _, h2, _ => simp at h2
def takeE (k : Int) (w : List UInt8) (e : Int) : Int :=
  if (numK k w).2 = false then 60 else if e = 0 ∧ ((numK k w).1 < lowK k ∨ highK k < (numK k w).1) then 61 else e
def pow2 (n : Nat) : Nat := 2 ^ n
def modN (n m : Nat) : Nat := n % m
theorem modN_lt (n : Nat) {m : Nat} (h : 0 < m) : modN n m < m := Nat.mod_lt _ h
theorem pow2_small {n : Nat} (h : n < 64) : pow2 n < 18446744073709551616 := by
  have : pow2 n < 2 ^ 64 := Nat.pow_lt_pow_right (by decide) h
  exact this
theorem or_small {a b : Nat} (ha : a < 18446744073709551616) (hb : b < 18446744073709551616) : a ||| b < 18446744073709551616 := by
  have : a ||| b < 2 ^ 64 := Nat.or_lt_two_pow ha hb
  exact this
theorem shl_nat {r : Nat} (h : r < 64) : IntKind.u64.wrap (2 ^ r) = (pow2 r : Int) := by
  have h1 := pow2_small h
  have h2 : (2 : Int) ^ r = (pow2 r : Int) := by unfold pow2; norm_cast
  rw [h2]
  exact wrap_u64 (by omega) (by omega)
theorem mostK_nat {k : Int} (hk : isK k = true) : ∃ M : Nat, mostK k + 1 = (M : Int) ∧ 7 ≤ M ∧ M ≤ 60 := by
  rcases isK_cases hk with rfl | rfl | rfl | rfl | rfl
  · exact ⟨60, rfl, by omega, by omega⟩
  · exact ⟨24, rfl, by omega, by omega⟩
  · exact ⟨32, rfl, by omega, by omega⟩
  · exact ⟨13, rfl, by omega, by omega⟩
  · exact ⟨7, rfl, by omega, by omega⟩
theorem bounds_le {k : Int} (hk : isK k = true) : 0 ≤ lowK k ∧ lowK k ≤ 1 ∧ mostK k ≤ 59 ∧ highK k ≤ 59 ∧ mostK k ≤ highK k ∧ 6 ≤ mostK k := by
  rcases isK_cases hk with rfl | rfl | rfl | rfl | rfl <;> decide
theorem numK_le (k : Int) (s : List UInt8) : -1 ≤ (numK k s).1 ∧ (numK k s).1 ≤ 99 := by
  unfold numK
  split
  · rename_i h
    obtain ⟨n, h1, h2⟩ := dig2_atoi h
    rw [h1]; simp; omega
  · have := nameK_le k (Lib.mapD lowR s)
    simp; omega
def setFrom (m step : Nat) (last : Int) : Nat → Nat → Nat → Nat
  | 0, _, set => set
  | f + 1, n, set => if (n : Int) ≤ last then setFrom m step last f (n + step) (set ||| pow2 (modN n m)) else set
def finK (k first last step e : Int) : Nat × Int :=
  if e ≠ 0 then (0, e) else if last < first ∨ step < 1 ∨ 59 < step then (0, 61) else (setFrom (mostK k + 1).toNat step.toNat last 200 first.toNat 0, 0)
def bodyK (k : Int) (body : List UInt8) (stepped : Bool) (step : Int) : Nat × Int :=
  if body = [42] then finK k (lowK k) (mostK k) step 0 else
  if stepped = true ∧ (Lib.cut body [45]).2.2 = false then (0, 60) else
  if (Lib.cut body [45]).2.2 = true then finK k (numK k (Lib.cut body [45]).1).1 (numK k (Lib.cut body [45]).2.1).1 step (takeE k (Lib.cut body [45]).2.1 (takeE k (Lib.cut body [45]).1 0))
  else finK k (numK k (Lib.cut body [45]).1).1 (numK k (Lib.cut body [45]).1).1 step (takeE k (Lib.cut body [45]).1 0)
def itemK (k : Int) (s : List UInt8) : Nat × Int :=
  if (Lib.cut s [47]).2.2 = true then
    if (numK 0 (Lib.cut s [47]).2.1).2 = false then (0, 60) else bodyK k (Lib.cut s [47]).1 true (numK 0 (Lib.cut s [47]).2.1).1
  else bodyK k (Lib.cut s [47]).1 false 1
def parseGo (k : Int) : List (List UInt8) → Fld → Fld × Int
  | [], f => (f, 0)
  | x :: r, f => if (itemK k x).2 ≠ 0 then (⟨0, false⟩, (itemK k x).2) else parseGo k r ⟨f.bits ||| (itemK k x).1, f.star⟩
def parseK (k : Int) (s : List UInt8) : Fld × Int :=
  if isK k = false then (⟨0, false⟩, 2) else if 150 < s.length then (⟨0, false⟩, 3) else parseGo k (Lib.split s [44]) ⟨0, Lib.hasPrefix s [42]⟩
theorem shr_nat (a n : Nat) : (a : Int).fdiv (2 ^ n) = (shr a n : Int) := by
  rw [Int.fdiv_eq_ediv_of_nonneg _ (by exact_mod_cast Nat.zero_le _)]
  unfold shr
  rw [Nat.shiftRight_eq_div_pow]
  norm_cast
theorem shr_lt {a : Nat} (n : Nat) (ha : a < 18446744073709551616) : shr a n < 18446744073709551616 := by
  unfold shr
  rw [Nat.shiftRight_eq_div_pow]
  exact Nat.lt_of_le_of_lt (Nat.div_le_self _ _) ha
theorem and1_nat (a m : Nat) (ha : a < 18446744073709551616) : (bits .and .u64 (shr a m : Int) 1 = 1) = (a.testBit m = true) := by
  have h := u64_and_nat (shr a m) 1 (shr_lt m ha) (by decide)
  rw [Nat.and_one_is_mod] at h
  rw [show (1 : Int) = ((1 : Nat) : Int) from rfl, h, Nat.testBit_eq_decide_div_mod_eq]
  unfold shr
  rw [Nat.shiftRight_eq_div_pow]
  norm_cast
  simp
theorem firstB_eq (b : Nat) (n : Int) : firstB b n = if 63 < n.toNat ∨ shr b n.toNat = 0 then none else some (n.toNat + Lib.ctz 64 (shr b n.toNat)) := by
  have e : (63 < n) = (63 < n.toNat) := by apply propext; omega
  unfold firstB
  simp only [e]
theorem ctz_le (x : Nat) (hx : x < 18446744073709551616) : Lib.ctz 64 x ≤ 64 := by
  unfold Lib.ctz
  split
  · exact Nat.le_refl _
  · obtain ⟨m, _, h⟩ := Lib.ctzFrom_spec 64 x (by omega) hx
    omega
theorem ctz_spec {x : Nat} (h0 : 0 < x) (hx : x < 18446744073709551616) : ∃ m, x = 2 ^ Lib.ctz 64 x * (2 * m + 1) ∧ Lib.ctz 64 x < 64 := by
  have e : Lib.ctz 64 x = Lib.ctzFrom 64 x := by unfold Lib.ctz; rw [if_neg (by omega)]
  rw [e]
  exact Lib.ctzFrom_spec 64 x h0 hx
theorem testBit_high {b i : Nat} (hb : b < 18446744073709551616) (h : b.testBit i = true) : i ≤ 63 := by
  apply Nat.le_of_not_lt
  intro hi
  have h1 : 2 ^ 64 ≤ 2 ^ i := Nat.pow_le_pow_right (by decide) hi
  have h2 : b < 2 ^ i := Nat.lt_of_lt_of_le hb h1
  rw [Nat.testBit_lt_two_pow h2] at h
  cases h
theorem firstB_some {b m : Nat} {n : Int} (hb : b < 18446744073709551616) (h : firstB b n = some m) : n.toNat ≤ m ∧ m ≤ 63 ∧ b.testBit m = true ∧ ∀ i, n.toNat ≤ i → i < m → b.testBit i = false := by
  rw [firstB_eq] at h
  split at h
  · cases h
  · rename_i hn
    cases h
    have hx0 : 0 < shr b n.toNat := by omega
    obtain ⟨m, hm, hc⟩ := ctz_spec hx0 (shr_lt _ hb)
    generalize Lib.ctz 64 (shr b n.toNat) = c at *
    have key : ∀ i, b.testBit (n.toNat + i) = (2 ^ c * (2 * m + 1)).testBit i := fun i => by
      rw [← hm]; unfold shr; rw [Nat.testBit_shiftRight]
    have ht : b.testBit (n.toNat + c) = true := by
      rw [key, Nat.testBit_two_pow_mul]
      simp
    refine ⟨by omega, testBit_high hb ht, ht, fun i h1 h2 => ?_⟩
    obtain ⟨d, rfl⟩ : ∃ d, i = n.toNat + d := ⟨i - n.toNat, by omega⟩
    rw [key, Nat.testBit_two_pow_mul]
    simp; omega
theorem firstB_none {b : Nat} {n : Int} (hb : b < 18446744073709551616) (h : firstB b n = none) : ∀ i, n.toNat ≤ i → b.testBit i = false := by
  rw [firstB_eq] at h
  intro i hi
  split at h
  · rename_i hn
    rcases hn with hn | hn
    · cases ht : b.testBit i with
      | false => rfl
      | true => have := testBit_high hb ht; omega
    · unfold shr at hn
      obtain ⟨d, rfl⟩ : ∃ d, i = n.toNat + d := ⟨i - n.toNat, by omega⟩
      rw [← Nat.testBit_shiftRight, hn]
      simp
  · cases h
end Go.Proofs.YtmoncokklkiikaaGreatDoor
namespace Go.Proofs.YtmoncokklkiikaaGreatDoor
open Rg Go
variable {H : Heap}
theorem c_is (k : Int) : AOk Tryz.prog 142 [.sc (.int .i64 k)] H (.sc (.bool (isK k))) H := by
  refine ACalls.into Tryz.func142 rfl Tryz.ntmps142 Tryz.results142 (by simp) ?_
  by_cases h0 : 0 ≤ k
  · by_cases h4 : k ≤ 4
    · simp -implicitDefEqProofs [h0, h4, isK]
    · simp -implicitDefEqProofs [h0, h4, isK]
  · simp -implicitDefEqProofs [h0, isK]
theorem c_bounds {k : Int} (hk : isK k = true) : AOk Tryz.prog 184 [.sc (.int .i64 k)] H (.tup [.sc (.int .i64 (lowK k)), .sc (.int .i64 (highK k)), .sc (.int .i64 (mostK k))]) H := by
  refine ACalls.into Tryz.func184 rfl Tryz.ntmps184 Tryz.results184 (by simp) ?_
  simp -implicitDefEqProofs
  refine AAlloc.intro fun b hb => ?_
  rcases isK_cases hk with rfl | rfl | rfl | rfl | rfl <;> simp -implicitDefEqProofs <;> refine go_draw 15 f_mixed (by decide +kernel) ?_ <;> simp -implicitDefEqProofs [lowK, highK, mostK] <;> exact HWk.new hb (HWk.refl _)
theorem c_all {k : Int} (hk : isK k = true) : AOk Tryz.prog 189 [.sc (.int .i64 k)] H (.sc (.int .u64 (allK k))) H := by
  refine ACalls.into Tryz.func189 rfl Tryz.ntmps189 Tryz.results189 (by simp) ?_
  simp -implicitDefEqProofs
  refine ACall.eq (c_bounds hk) ?_
  rcases isK_cases hk with rfl | rfl | rfl | rfl | rfl <;> simp -implicitDefEqProofs [lowK, highK, mostK] <;> refine go_draw 7 f_mixed (by decide +kernel) ?_ <;> simp -implicitDefEqProofs [allK, wrap_i64, wrap_u64]
theorem c_may (k : Int) (f : Fld) (hf : f.bits < 18446744073709551616) : AOk Tryz.prog 146 [.sc (.int .i64 k), fAV f] H (.sc (.bool (mayB k f.bits))) H := by
  refine ACalls.into Tryz.func146 rfl Tryz.ntmps146 Tryz.results146 (by simp) ?_
  simp -implicitDefEqProofs [fAV]
  refine AAlloc.intro fun b hb => ?_
  have ha : allK k < 18446744073709551616 := by
    unfold allK
    rcases h : k.toNat with _ | _ | _ | _ | _ | _ <;> simp
  cases hk : isK k with
  | false =>
    simp -implicitDefEqProofs
    refine go_draw 16 f_mixed (by decide +kernel) ?_
    simp -implicitDefEqProofs
    refine AQS.eq (c_is k) ?_
    simp -implicitDefEqProofs [hk, mayB]
    exact HWk.new hb (HWk.refl _)
  | true =>
    by_cases h0 : f.bits = 0
    · simp -implicitDefEqProofs
      refine go_draw 16 f_mixed (by decide +kernel) ?_
      simp -implicitDefEqProofs
      refine AQS.eq (c_is k) ?_
      simp -implicitDefEqProofs [hk, mayB, h0]
      exact HWk.new hb (HWk.refl _)
    · simp -implicitDefEqProofs
      refine go_draw 16 f_mixed (by decide +kernel) ?_
      simp -implicitDefEqProofs
      refine AQS.eq (c_is k) ?_
      simp -implicitDefEqProofs [hk, h0]
      refine AQS.eq (c_all hk) ?_
      simp -implicitDefEqProofs [hk, h0, mayB, u64_andNot_nat _ _ hf ha]
      exact HWk.new hb (HWk.refl _)
theorem c_has (f : Fld) (n : Int) (hf : f.bits < 18446744073709551616) : AOk Tryz.prog 94 [fAV f, .sc (.int .i64 n)] H (.sc (.bool (hasB f.bits n))) H := by
  refine ACalls.into Tryz.func94 rfl Tryz.ntmps94 Tryz.results94 (by simp) ?_
  simp -implicitDefEqProofs [fAV]
  refine AAlloc.intro fun b hb => ?_
  by_cases h0 : 0 ≤ n
  · obtain ⟨m, rfl⟩ := Int.eq_ofNat_of_zero_le h0
    by_cases h1 : (m : Int) ≤ 63
    · have hm : min m 64 = m := by omega
      simp -implicitDefEqProofs [h1, hm, shr_nat, and1_nat _ m hf, hasB]
      exact HWk.new hb (HWk.refl _)
    · simp -implicitDefEqProofs [h1, hasB]
      exact HWk.new hb (HWk.refl _)
  · simp -implicitDefEqProofs [h0, hasB]
    exact HWk.new hb (HWk.refl _)
end Go.Proofs.YtmoncokklkiikaaGreatDoor
namespace Go.Proofs.YtmoncokklkiikaaGreatDoor
open Rg Go
variable {H : Heap}
end Go.Proofs.YtmoncokklkiikaaGreatDoor
namespace Go.Proofs.YtmoncokklkiikaaGreatDoor
open Rg Go
variable {H : Heap}
end Go.Proofs.YtmoncokklkiikaaGreatDoor
namespace Go.Proofs.YtmoncokklkiikaaGreatDoor
open Rg Go
variable {H : Heap}
end Go.Proofs.YtmoncokklkiikaaGreatDoor
namespace Go.Proofs.YtmoncokklkiikaaGreatDoor
open Rg Go
variable {H : Heap}
theorem szs_strs (l : List (List UInt8)) : szs 1 (strL l) = true := by
  simp [szs, AV.cells]
end Go.Proofs.YtmoncokklkiikaaGreatDoor
namespace Go.Proofs.YtmoncokklkiikaaGreatDoor
open Rg Go
variable {H : Heap}
end Go.Proofs.YtmoncokklkiikaaGreatDoor
namespace Go.Proofs.YtmoncokklkiikaaGreatDoor
open Rg Go
def sp (c : UInt8) : List UInt8 → List (List UInt8)
  | [] => [[]]
  | x :: r => if x = c then [] :: sp c r else match sp c r with
    | [] => [[x]]
    | h :: t => (x :: h) :: t
def ct (c : UInt8) : List UInt8 → List UInt8 × List UInt8 × Bool
  | [] => ([], [], false)
  | x :: r => if x = c then ([], r, true) else (x :: (ct c r).1, (ct c r).2)
theorem index_eq (c : UInt8) (l : List UInt8) : Lib.index (c :: l) [c] = 0 := by rw [Lib.index]; simp [List.isPrefixOf]
theorem index_ne {b c : UInt8} (l : List UInt8) (h : b ≠ c) : Lib.index (b :: l) [c] = if Lib.index l [c] == -1 then -1 else Lib.index l [c] + 1 := by
  rw [Lib.index]
  simp [List.isPrefixOf, Ne.symm h]
theorem split_sp (c : UInt8) : ∀ s : List UInt8, Lib.split s [c] = sp c s
  | [] => by simp [Lib.split, sp, Lib.count_one, Lib.splitK]
  | x :: r => by
    have ih := split_sp c r
    unfold Lib.split at ih ⊢
    by_cases hx : x = c
    · subst hx
      rw [Lib.count_cons_eq, Nat.add_comm 1]
      simp only [Lib.splitK, index_eq, sp, if_true]
      rw [if_neg (by decide)]
      simp [← ih]
    · rw [Lib.count_cons_ne _ _ _ hx]
      simp only [sp, if_neg hx, ← ih]
      cases hk : Lib.count r [c] with
      | zero => simp [Lib.splitK]
      | succ k =>
        have hi : Lib.index r [c] ≠ -1 := fun h => by rw [Lib.count_miss h] at hk; cases hk
        have hge := Lib.index_ge r [c]
        obtain ⟨j, hj⟩ : ∃ j : Nat, Lib.index r [c] = j := ⟨(Lib.index r [c]).toNat, by omega⟩
        have hne : ¬ ((j : Int) == -1) = true := by simp
        simp only [Lib.splitK, index_ne r hx, hj, if_neg hne]
        have hne2 : ¬ ((j : Int) + 1 == -1) = true := by simp; omega
        rw [if_neg hne2]
        have e : ((j : Int) + 1).toNat = j + 1 := by omega
        simp [e]
theorem cut_ct (c : UInt8) : ∀ s : List UInt8, Lib.cut s [c] = ct c s
  | [] => by simp [Lib.cut, ct, Lib.index]
  | x :: r => by
    have ih := cut_ct c r
    unfold Lib.cut at ih ⊢
    by_cases hx : x = c
    · subst hx
      simp [index_eq, ct]
    · simp only [ct, if_neg hx, ← ih, index_ne r hx]
      by_cases hi : Lib.index r [c] = -1
      · simp [hi]
      · have hge := Lib.index_ge r [c]
        obtain ⟨j, hj⟩ : ∃ j : Nat, Lib.index r [c] = j := ⟨(Lib.index r [c]).toNat, by omega⟩
        have hne : ¬ ((j : Int) == -1) = true := by simp
        rw [hj, if_neg hne, if_pos (by omega), if_pos (by omega)]
        have e : ((j : Int) + 1).toNat = j + 1 := by omega
        simp [e]
theorem ct_not {c : UInt8} : ∀ {s : List UInt8}, c ∉ s → ct c s = (s, [], false)
  | [], _ => rfl
  | x :: r, h => by
    simp only [List.mem_cons, not_or] at h
    simp [ct, if_neg (Ne.symm h.1), ct_not h.2]
theorem ct_app {c : UInt8} {b : List UInt8} : ∀ {a : List UInt8}, c ∉ a → ct c (a ++ c :: b) = (a, b, true)
  | [], _ => by simp [ct]
  | x :: r, h => by
    simp only [List.mem_cons, not_or] at h
    simp [ct, if_neg (Ne.symm h.1), ct_app h.2]
theorem sp_ne (c : UInt8) : ∀ s : List UInt8, sp c s ≠ []
  | [] => by simp [sp]
  | x :: r => by
    unfold sp
    split
    · simp
    · split <;> simp
theorem sp_app (c : UInt8) (b : List UInt8) : ∀ a : List UInt8, sp c (a ++ c :: b) = sp c a ++ sp c b
  | [] => by simp [sp]
  | x :: r => by
    have ih := sp_app c b r
    simp only [List.cons_append, sp, ih]
    split
    · rfl
    · cases h : sp c r with
      | nil => exact absurd h (sp_ne c r)
      | cons y t => rfl
theorem sp_not {c : UInt8} : ∀ {s : List UInt8}, c ∉ s → sp c s = [s]
  | [], _ => rfl
  | x :: r, h => by
    simp only [List.mem_cons, not_or] at h
    simp [sp, if_neg (Ne.symm h.1), sp_not h.2]
theorem join_cons2 (x y : List UInt8) (r : List (List UInt8)) (c : UInt8) : Lib.join (x :: y :: r) [c] = x ++ c :: Lib.join (y :: r) [c] := by
  rw [Lib.join_cons, Lib.join_cons]
  simp [Lib.joinTail]
end Go.Proofs.YtmoncokklkiikaaGreatDoor
namespace Go.Proofs.YtmoncokklkiikaaGreatDoor
open Rg Go
theorem hasB_nat2 (b k : Nat) (hk : k ≤ 63) : hasB b (k : Int) = b.testBit k := by
  simp [hasB]; omega
theorem testBit_pow2 (i j : Nat) : (pow2 i).testBit j = decide (i = j) := by
  unfold pow2
  rw [Nat.testBit_two_pow]
theorem all_bits {k : Int} (hk : isK k = true) : ∀ j, j < 64 → ((18446744073709551615 - allK k).testBit j = true → ¬ (lowK k ≤ (j : Int) ∧ (j : Int) ≤ mostK k)) ∧ ((allK k).testBit j = (decide (lowK k ≤ (j : Int)) && decide ((j : Int) ≤ mostK k))) := by
  rcases isK_cases hk with rfl | rfl | rfl | rfl | rfl <;> decide +kernel
theorem may_of {k : Int} (hk : isK k = true) {b : Nat} (h0 : b ≠ 0) (h : ∀ j, b.testBit j = true → lowK k ≤ (j : Int) ∧ (j : Int) ≤ mostK k) : mayB k b = true := by
  have hb := bounds_le hk
  have hz : b &&& (18446744073709551615 - allK k) = 0 := by
    apply Nat.eq_of_testBit_eq
    intro j
    rw [Nat.testBit_and, Nat.zero_testBit]
    cases hj : b.testBit j with
    | false => rfl
    | true =>
      have h1 := h j hj
      cases h2 : (18446744073709551615 - allK k).testBit j with
      | false => rfl
      | true => exact absurd h1 ((all_bits hk j (by omega)).1 h2)
  simp [mayB, hk, h0, hz]
end Go.Proofs.YtmoncokklkiikaaGreatDoor
namespace Go.Proofs.YtmoncokklkiikaaGreatDoor
open Rg Go
end Go.Proofs.YtmoncokklkiikaaGreatDoor
namespace Go.Proofs.YtmoncokklkiikaaGreatDoor
open Rg Go
theorem comp_bits {k : Int} (hk : isK k = true) : ∀ j, j < 64 → (18446744073709551615 - allK k).testBit j = !(decide (lowK k ≤ (j : Int)) && decide ((j : Int) ≤ mostK k)) := by
  rcases isK_cases hk with rfl | rfl | rfl | rfl | rfl <;> decide +kernel
theorem may_bits {k : Int} {b : Nat} (hb : b < 18446744073709551616) (h : mayB k b = true) : isK k = true ∧ b ≠ 0 ∧ ∀ j, b.testBit j = true → lowK k ≤ (j : Int) ∧ (j : Int) ≤ mostK k := by
  simp only [mayB, Bool.and_eq_true, decide_eq_true_eq] at h
  obtain ⟨⟨hk, h0⟩, hz⟩ := h
  refine ⟨hk, h0, fun j hj => ?_⟩
  have h1 := congrArg (fun x => x.testBit j) hz
  simp only [Nat.testBit_and, hj, Bool.true_and, Nat.zero_testBit] at h1
  rw [comp_bits hk j (by have := testBit_high hb hj; omega)] at h1
  simpa using h1
end Go.Proofs.YtmoncokklkiikaaGreatDoor
