/- Numbers and texts as bytes: what the program's package pack computes. Numbers and texts as bytes: pack.Take. Numbers and texts as bytes: the rest of the program's package pack. Numbers and texts as bytes: texts, whole numbers. Expressions: which may be, which clocks fit. Firings, in plain words: the last one up to a moment, the next one behind it, all of a time; a day's date from its neighbour's. Looking for firings, in plain words: what is known on the way, down (Last) and up (After), by hours and minutes, or minute by minute. The last firing up to a moment, as the program looks for it. -/
import Derived.Test.YtghlkjkdejebnaaGreatDoorP13
import Derived.Test.YtghlkjkdejebnaaGreatDoorP09
import Derived.Laws.BitsAllLaws
set_option linter.unusedSimpArgs false
set_option linter.unusedVariables false
set_option linter.unnecessarySimpa false
namespace Go.Proofs.YtghlkjkdejebnaaGreatDoor
open Rg Go
variable {H : Heap}
abbrev u8s (l : List UInt8) : List AV := l.map fun c : UInt8 => .sc (.int .u8 (c.toNat : Int))
theorem u8s_app (a b : List UInt8) : u8s (a ++ b) = u8s a ++ u8s b := by simp
theorem szs_u8s (a : List UInt8) : szs 1 (u8s a) = true := by simp [szs, AV.cells]
def putK : Nat → Nat → List UInt8
  | 0, n => [UInt8.ofNat n]
  | f + 1, n => if n < 128 then [UInt8.ofNat n] else UInt8.ofNat (n % 128 + 128) :: putK f (n / 128)
def putB (n : Nat) : List UInt8 := putK 9 n
theorem putK_len : ∀ f n, (putK f n).length ≤ f + 1
  | 0, n => by simp [putK]
  | f + 1, n => by
    unfold putK
    split
    · simp
    · have := putK_len f (n / 128)
      simp; omega
theorem putB_len (n : Nat) : (putB n).length ≤ 10 := putK_len 9 n
def takeGo : List UInt8 → Nat → Nat → Option (Nat × Nat)
  | [], _, _ => none
  | x :: r, i, acc => if (i = 9 ∧ 1 < x.toNat) ∨ (0 < i ∧ x.toNat = 0) then none else
    if x.toNat < 128 then some (acc + x.toNat % 128 * 128 ^ i, i + 1) else takeGo r (i + 1) (acc + x.toNat % 128 * 128 ^ i)
def takeK (b : List UInt8) (a : Nat) : Nat × Nat × Nat :=
  match takeGo (b.drop a) 0 0 with
  | some (n, k) => (n, a + k, 0)
  | none => (0, 0, 4)
theorem take_put : ∀ (f n i acc : Nat) (post : List UInt8), i + f = 9 → n < 2 * 128 ^ f → (i = 0 ∨ 0 < n) → takeGo (putK f n ++ post) i acc = some (acc + n * 128 ^ i, i + (putK f n).length)
  | 0, n, i, acc, post, hi, hn, h0 => by
    have e : (UInt8.ofNat n).toNat = n := by simp; omega
    simp only [putK, List.cons_append, takeGo, e]
    rw [if_neg (by omega), if_pos (by omega), Nat.mod_eq_of_lt (by omega)]
    rfl
  | f + 1, n, i, acc, post, hi, hn, h0 => by
    unfold putK
    by_cases h : n < 128
    · have e : (UInt8.ofNat n).toNat = n := by simp; omega
      rw [if_pos h]
      simp only [List.cons_append, takeGo, e]
      rw [if_neg (by omega), if_pos (by omega), Nat.mod_eq_of_lt (by omega)]
      rfl
    · have e : (UInt8.ofNat (n % 128 + 128)).toNat = n % 128 + 128 := by simp; omega
      rw [if_neg h]
      simp only [List.cons_append, takeGo, e]
      rw [if_neg (by omega), if_neg (by omega), take_put f (n / 128) (i + 1) _ post (by omega) (by rw [Nat.pow_succ] at hn; omega) (by omega)]
      have e2 : (n % 128 + 128) % 128 = n % 128 := by omega
      rw [e2, Nat.pow_succ]
      simp only [List.length_cons, Option.some.injEq, Prod.mk.injEq]
      refine ⟨?_, by omega⟩
      have h1 : n % 128 * 128 ^ i + n / 128 * (128 ^ i * 128) = n * 128 ^ i := by
        have := Nat.mod_add_div n 128
        calc n % 128 * 128 ^ i + n / 128 * (128 ^ i * 128) = (n % 128 + 128 * (n / 128)) * 128 ^ i := by
              rw [Nat.add_mul]
              congr 1
              rw [Nat.mul_comm (128 ^ i) 128, ← Nat.mul_assoc, Nat.mul_comm (n / 128) 128]
          _ = n * 128 ^ i := by rw [this]
      omega
theorem takeGo_le : ∀ (l : List UInt8) (i acc n k : Nat), takeGo l i acc = some (n, k) → k ≤ i + l.length ∧ i < k
  | [], i, acc, n, k, h => by simp [takeGo] at h
  | x :: r, i, acc, n, k, h => by
    simp only [takeGo] at h
    split at h
    · cases h
    · split at h
      · cases h
        simp
      · have := takeGo_le r _ _ _ _ h
        simp; omega
theorem takeK_le (b : List UInt8) (a : Nat) (ha : a ≤ b.length) : (takeK b a).2.1 ≤ b.length := by
  unfold takeK
  split
  · rename_i n k h
    have := (takeGo_le _ _ _ _ _ h).1
    simp at this ⊢
    omega
  · simp
theorem takeGo_lt : ∀ (l : List UInt8) (i acc n k : Nat), i ≤ 9 → acc < 128 ^ i → takeGo l i acc = some (n, k) → n < 18446744073709551616
  | [], i, acc, n, k, _, _, h => by simp [takeGo] at h
  | x :: r, i, acc, n, k, hi, ha, h => by
    simp only [takeGo] at h
    split at h
    · cases h
    · rename_i hc
      have hx := x.toNat_lt
      by_cases h9 : i = 9
      · subst h9
        rw [if_pos (by omega)] at h
        cases h
        have : x.toNat % 128 ≤ 1 := by omega
        have h2 : x.toNat % 128 * 128 ^ 9 ≤ 1 * 128 ^ 9 := Nat.mul_le_mul_right _ this
        omega
      · have h1 : x.toNat % 128 * 128 ^ i ≤ 127 * 128 ^ i := Nat.mul_le_mul_right _ (by omega)
        have hs : acc + x.toNat % 128 * 128 ^ i < 128 ^ (i + 1) := by rw [Nat.pow_succ]; omega
        split at h
        · cases h
          have : 128 ^ (i + 1) ≤ 128 ^ 9 := Nat.pow_le_pow_right (by decide) (by omega)
          omega
        · exact takeGo_lt r (i + 1) _ _ _ (by omega) hs h
theorem takeK_lt (b : List UInt8) (a : Nat) : (takeK b a).1 < 18446744073709551616 := by
  unfold takeK
  split
  · rename_i n k h
    exact takeGo_lt _ _ _ _ _ (by omega) (by simp) h
  · simp
abbrev tkAV (p : Nat × Nat × Nat) : AV := .tup [.sc (.int .u64 (p.1 : Nat)), .sc (.int .i64 (p.2.1 : Nat)), .sc (.int .i64 (p.2.2 : Nat))]
theorem u8_or128 : ∀ m, m < 256 → m ||| 128 = m % 128 + 128 := by decide +kernel
set_option maxHeartbeats 1000000 in
theorem c_packPut (n : Nat) (hn : n < 18446744073709551616) : AOk Tryz.prog 47 [.sc (.int .u64 (n : Int))] H (.sl (u8s (putB n)) .no) H := by
  refine ACalls.into Tryz.func47 rfl Tryz.ntmps47 Tryz.results47 (by simp) ?_
  simp -implicitDefEqProofs
  refine AGo.rounds (fun m ρ K => ∃ (f k : Nat) (out : List UInt8) (t : Tok), m = f ∧ out ++ putK f k = putB n ∧ k < 2 * 128 ^ f ∧ f + out.length = 9 ∧ ρ 0 = .sc (.int .u64 (k : Int)) ∧ ρ 3 = .sl (u8s out) t ∧ Grows H (u8s out) 1 5 t K) ?_ (m := 9) (HLe.refl _)
    ⟨9, n, [], .nil, rfl, rfl, by omega, rfl, by simp, by simp, Grows.zero⟩
  rintro m ρ K ih ⟨f, k, out, t, rfl, hp, hk, hl, r0, r3, hg⟩
  have hwk := IntKind.wrap_u8' (k : Int)
  by_cases h : k < 128
  · have e : putK m k = [UInt8.ofNat k] := by unfold putK; split <;> simp_all
    have h' : ¬ (128 : Int) ≤ (k : Int) := by omega
    have hw : IntKind.u8.wrap (k : Int) = (k : Int) := by rw [hwk]; omega
    have e2 : (UInt8.ofNat k).toNat = k := by simp; omega
    rw [e] at hp
    simp -implicitDefEqProofs [r0, r3, h, h', hw]
    refine AApp.grows el_28 hg (HLe.refl _) (by simp) (szs_u8s _) (by simp [szs, AV.cells]) (by simp; omega) (by simp [maxLen]; omega) fun t' K' Hn hg' hl' => ?_
    simp -implicitDefEqProofs
    rw [← hp, u8s_app]
    refine ⟨?_, ((hg'.le).trans hl').wk⟩
    simp [e2]
  · have hf : ∃ f, m = f + 1 := by
      cases m with
      | zero => simp at hk; omega
      | succ f => exact ⟨f, rfl⟩
    obtain ⟨f, rfl⟩ := hf
    have e : putK (f + 1) k = UInt8.ofNat (k % 128 + 128) :: putK f (k / 128) := by conv => lhs; unfold putK; rw [if_neg h]
    have h' : (128 : Int) ≤ (k : Int) := by omega
    have e2 : (UInt8.ofNat (k % 128 + 128)).toNat = k % 128 + 128 := by simp; omega
    have hw : IntKind.u8.wrap (k : Int) = ((k % 256 : Nat) : Int) := by rw [hwk]; omega
    have hor0 : bits .or .u8 ((k % 256 : Nat) : Int) 128 = ((k % 128 + 128 : Nat) : Int) := by
      have := u8_or_nat (k % 256) 128 (by omega) (by omega)
      rw [u8_or128 _ (by omega)] at this
      rw [show ((128 : Nat) : Int) = 128 from rfl] at this
      rw [this]
      congr 2
      omega
    have hor : bits .or .u8 ((k : Int) % 256) 128 = (k : Int) % 128 + 128 := by
      rw [show ((k : Int) % 256) = ((k % 256 : Nat) : Int) by omega, hor0]; omega
    have hsh : Int.fdiv (k : Int) 128 = ((k / 128 : Nat) : Int) := by rw [Int.fdiv_eq_ediv_of_nonneg _ (by omega)]; omega
    simp -implicitDefEqProofs [r0, r3, h, h', hw, hor]
    refine AApp.grows el_28 hg (HLe.refl _) (by simp) (szs_u8s _) (by simp [szs, AV.cells]) (by simp; omega) (by simp [maxLen]; omega) fun t' K' Hn hg' hl' => ?_
    simp -implicitDefEqProofs [r0, hsh, hor]
    refine AGo.again ih (m' := f) (by omega) hl' ?_
    refine ⟨f, k / 128, out ++ [UInt8.ofNat (k % 128 + 128)], t', rfl, ?_, by rw [Nat.pow_succ] at hk; omega, by simp; omega, by simp, by simp [e2]; omega, ?_⟩
    · rw [← hp, e]; simp
    · rw [u8s_app]
      simp only [u8s, List.map_cons, List.map_nil, e2]
      rw [show ((k % 128 + 128 : Nat) : Int) = (k : Int) % 128 + 128 by omega]
      exact hg'
end Go.Proofs.YtghlkjkdejebnaaGreatDoor
namespace Go.Proofs.YtghlkjkdejebnaaGreatDoor
open Rg Go
variable {H : Heap}
theorem getAt {α : Type} {L : List α} {i : Nat} (h : i < L.length) : ∃ e, L[i] = e ∧ L[i]? = some e := ⟨_, rfl, List.getElem?_eq_getElem h⟩
theorem pow7 (i : Nat) : (2 : Nat) ^ (7 * i) = 128 ^ i := by rw [Nat.pow_mul]
theorem and127 (x : Nat) (hx : x < 256) : bits .and .u8 (x : Int) 127 = ((x % 128 : Nat) : Int) := by
  have := u8_and_nat x 127 hx (by omega)
  rw [show ((127 : Nat) : Int) = 127 from rfl] at this
  rw [this]
  congr 1
  exact Nat.and_two_pow_sub_one_eq_mod x 7
theorem or_join {acc y i : Nat} (ha : acc < 128 ^ i) (hs : acc + y * 128 ^ i < 18446744073709551616) : bits .or .u64 (acc : Int) ((y * 128 ^ i : Nat) : Int) = ((acc + y * 128 ^ i : Nat) : Int) := by
  rw [u64_or_nat _ _ (by omega) (by omega), Nat.or_comm, nat_join (7 * i) _ _ (by rw [pow7]; exact Nat.mul_mod_left _ _) (by rw [pow7]; exact ha), Nat.add_comm]
theorem take_sum {x : UInt8} {acc i : Nat} (hi9 : i ≤ 9) (hacc : acc < 128 ^ i) (c1 : ¬ ((i = 9 ∧ 1 < x.toNat) ∨ (0 < i ∧ x.toNat = 0))) : acc + x.toNat % 128 * 128 ^ i < 18446744073709551616 ∧ (x.toNat % 128 * 128 ^ i < 18446744073709551616) ∧ (i ≠ 9 → acc + x.toNat % 128 * 128 ^ i < 128 ^ (i + 1)) := by
  have p0 : 0 < (128 : Nat) ^ i := Nat.pow_pos (by omega)
  by_cases h9 : i = 9
  · subst h9
    have h2 : x.toNat % 128 * 128 ^ 9 ≤ 1 * 128 ^ 9 := Nat.mul_le_mul_right _ (by omega)
    refine ⟨?_, ?_, fun h => absurd rfl h⟩ <;> omega
  · have h1 : x.toNat % 128 * 128 ^ i ≤ 127 * 128 ^ i := Nat.mul_le_mul_right _ (by omega)
    have h2 : acc + x.toNat % 128 * 128 ^ i < 128 ^ (i + 1) := by rw [Nat.pow_succ]; omega
    have h3 : 128 ^ (i + 1) ≤ 128 ^ 9 := Nat.pow_le_pow_right (by decide) (by omega)
    refine ⟨?_, ?_, fun _ => h2⟩ <;> omega
set_option maxHeartbeats 2000000 in
theorem c_packTake (b : List UInt8) (t : Tok) (a : Nat) (ha : a ≤ b.length) (hb : b.length ≤ 1000000) : AOk Tryz.prog 54 [.sl (u8s b) t, .sc (.int .i64 (a : Int))] H (tkAV (takeK b a)) H := by
  have ha' : ¬ (b.length : Int) < (a : Int) := by omega
  have ha2 : (a : Int) ≤ (b.length : Int) := by omega
  obtain ⟨res, hres⟩ : ∃ res, takeK b a = res := ⟨_, rfl⟩
  have hdr : (u8s b).drop a = u8s (b.drop a) := by simp
  obtain ⟨L, hL⟩ : ∃ L, b.drop a = L := ⟨_, rfl⟩
  have hLl : L.length ≤ 1000000 := by rw [← hL]; simp; omega
  have hk : ∀ r, takeGo L 0 0 = r → res = match r with | some (n, k) => (n, a + k, 0) | none => (0, 0, 4) := by
    intro r hr
    rw [← hres]; unfold takeK; rw [hL, hr] <;> rfl
  rw [hres]
  refine ACalls.into Tryz.func54 rfl Tryz.ntmps54 Tryz.results54 (by simp) ?_
  simp -implicitDefEqProofs [ha, ha', ha2, szs_u8s b]
  refine AGo.rounds (fun m ρ K => ∃ (i acc : Nat), m = L.length - i ∧ i ≤ L.length ∧ i ≤ 9 ∧ acc < 128 ^ i ∧ takeGo (L.drop i) i acc = takeGo L 0 0 ∧
    ρ 4 = .sc (.int .u64 (acc : Int)) ∧ ρ 21 = .sc (.int .i64 (i : Int)) ∧ ρ 1 = .sc (.int .i64 (a : Int)) ∧ ρ 19 = .sl (u8s L) .no ∧ ρ 20 = .sc (.int .i64 (L.length : Int)) ∧ K = H) ?_ (m := L.length) (HLe.refl _)
    ⟨0, 0, rfl, by omega, by omega, by simp, rfl, by simp, by simp, by simp, by simp [← hL], by simp [← hL], rfl⟩
  rintro m ρ K ih ⟨i, acc, rfl, hi, hi9, hacc, htk, r4, r21, r1, r19, r20, rfl⟩
  rcases Nat.lt_or_ge i L.length with hlt | hge
  · obtain ⟨x, hej, hx⟩ := getAt hlt
    have hd : L.drop i = x :: L.drop (i + 1) := by rw [List.drop_eq_getElem_cons hlt, hej]
    have hlt' : (i : Int) < (L.length : Int) := by omega
    have hxn := x.toNat_lt
    rw [hd] at htk
    simp only [takeGo] at htk
    by_cases c1 : (i = 9 ∧ 1 < x.toNat) ∨ (0 < i ∧ x.toNat = 0)
    · rw [if_pos c1] at htk
      have := hk _ htk.symm
      subst this
      by_cases h9 : i = 9
      · have h9' : decide ((i : Int) = 9) = true := decide_eq_true (by omega)
        have h9n : decide (i = 9) = true := decide_eq_true h9
        by_cases hx1 : 1 < x.toNat
        · have hx1' : (1 : Int) < (x.toNat : Int) := by omega
          simp -implicitDefEqProofs [r4, r21, r1, r19, r20, hlt, hlt', hej, h9', h9n, hx1, hx1']
        · have hx1' : ¬ (1 : Int) < (x.toNat : Int) := by omega
          have hx0 : x.toNat = 0 := by omega
          have h0 : 0 < i := by omega
          have h0' : (0 : Int) < (i : Int) := by omega
          simp -implicitDefEqProofs [r4, r21, r1, r19, r20, hlt, hlt', hej, h9', h9n, hx0, h0, h0']
      · have h9' : ¬ (i : Int) = 9 := by omega
        have h0 : 0 < i := by omega
        have h0' : (0 : Int) < (i : Int) := by omega
        have hx0 : x.toNat = 0 := by omega
        simp -implicitDefEqProofs [r4, r21, r1, r19, r20, hlt, hlt', hej, h9, h9', h0, h0', hx0]
    · rw [if_neg c1] at htk
      obtain ⟨hs1, hs2, hs3⟩ := take_sum hi9 hacc c1
      have hor := or_join hacc hs1
      have h7 : IntKind.i64.wrap (7 * (i : Int)) = 7 * (i : Int) := wrap_i64 (by omega) (by omega)
      have h7n : ¬ 7 * (i : Int) < 0 := by omega
      have h127 := and127 x.toNat hxn
      obtain ⟨acc', hq⟩ : ∃ q, acc + x.toNat % 128 * 128 ^ i = q := ⟨_, rfl⟩
      have hsh : bits .or .u64 (acc : Int) (IntKind.u64.wrap (IntKind.u64.wrap ((x.toNat : Int) % 128) * 2 ^ min (7 * (i : Int)).toNat 64)) = (acc' : Int) := by
        rw [← hq, ← hor]
        have e1 : min (7 * (i : Int)).toNat 64 = 7 * i := by omega
        have e2 : IntKind.u64.wrap ((x.toNat : Int) % 128) = ((x.toNat % 128 : Nat) : Int) := by rw [wrap_u64 (by omega) (by omega)]; omega
        have e3 : ((x.toNat % 128 : Nat) : Int) * 2 ^ (7 * i) = ((x.toNat % 128 * 128 ^ i : Nat) : Int) := by rw [← pow7]; push_cast; rfl
        rw [e1, e2, e3, wrap_u64 (by omega) (by omega)]
      have hw1 : IntKind.i64.wrap ((i : Int) + 1) = (i : Int) + 1 := wrap_i64 (by omega) (by omega)
      have hwa : IntKind.i64.wrap ((a : Int) + (i : Int)) = (a : Int) + (i : Int) := wrap_i64 (by omega) (by omega)
      have hwb : IntKind.i64.wrap ((a : Int) + (i : Int) + 1) = ((a + (i + 1) : Nat) : Int) := by rw [wrap_i64 (by omega) (by omega)]; omega
      have key : (i = 9 ∧ ¬ 1 < x.toNat ∧ 0 < i ∧ ¬ x.toNat = 0) ∨ (¬ i = 9 ∧ 0 < i ∧ ¬ x.toNat = 0) ∨ (¬ i = 9 ∧ i = 0) := by omega
      rw [hq] at htk hs3
      by_cases h128 : x.toNat < 128
      · have h128' : (x.toNat : Int) < 128 := by omega
        rw [if_pos h128] at htk
        have := hk _ htk.symm
        simp only at this
        subst this
        rcases key with ⟨h9, hx1, h0, hx0⟩ | ⟨h9, h0, hx0⟩ | ⟨h9, h0⟩
        · have h9' : decide ((i : Int) = 9) = true := decide_eq_true (by omega)
          have h9n : decide (i = 9) = true := decide_eq_true h9
          have hx1' : ¬ (1 : Int) < (x.toNat : Int) := by omega
          have h0' : (0 : Int) < (i : Int) := by omega
          have hx0' : ¬ (x.toNat : Int) = 0 := by omega
          simp -implicitDefEqProofs [r4, r21, r1, r19, r20, hlt, hlt', hej, h9', h9n, hx1, hx1', h0, h0', hx0, hx0', h7, h7n, h127, hsh, h128, h128', hwa, hwb]
        · have h9' : ¬ (i : Int) = 9 := by omega
          have h0' : (0 : Int) < (i : Int) := by omega
          have hx0' : ¬ (x.toNat : Int) = 0 := by omega
          simp -implicitDefEqProofs [r4, r21, r1, r19, r20, hlt, hlt', hej, h9, h9', h0, h0', hx0, hx0', h7, h7n, h127, hsh, h128, h128', hwa, hwb]
        · have h9' : ¬ (i : Int) = 9 := by omega
          have h0' : ¬ (0 : Int) < (i : Int) := by omega
          have h0n : ¬ 0 < i := by omega
          simp -implicitDefEqProofs [r4, r21, r1, r19, r20, hlt, hlt', hej, h9, h9', h0n, h0', h7, h7n, h127, hsh, h128, h128', hwa, hwb]
      · have h128' : ¬ (x.toNat : Int) < 128 := by omega
        rw [if_neg h128] at htk
        rcases key with ⟨h9, hx1, h0, hx0⟩ | ⟨h9, h0, hx0⟩ | ⟨h9, h0⟩
        · omega
        · have h9' : ¬ (i : Int) = 9 := by omega
          have h0' : (0 : Int) < (i : Int) := by omega
          have hx0' : ¬ (x.toNat : Int) = 0 := by omega
          simp -implicitDefEqProofs [r4, r21, r1, r19, r20, hlt, hlt', hej, h9, h9', h0, h0', hx0, hx0', h7, h7n, h127, hsh, h128, h128', hw1]
          refine AGo.again ih (m' := L.length - (i + 1)) (by omega) (HLe.refl _) ⟨i + 1, acc', rfl, by omega, by omega, hs3 h9, htk, by simp, by simp, by simp [r1], by simp [r19], by simp [r20], rfl⟩
        · have h9' : ¬ (i : Int) = 9 := by omega
          have h0' : ¬ (0 : Int) < (i : Int) := by omega
          have h0n : ¬ 0 < i := by omega
          simp -implicitDefEqProofs [r4, r21, r1, r19, r20, hlt, hlt', hej, h9, h9', h0n, h0', h7, h7n, h127, hsh, h128, h128', hw1]
          refine AGo.again ih (m' := L.length - (i + 1)) (by omega) (HLe.refl _) ⟨i + 1, acc', rfl, by omega, by omega, hs3 h9, htk, by simp, by simp, by simp [r1], by simp [r19], by simp [r20], rfl⟩
  · have : takeGo L 0 0 = none := by rw [← htk, List.drop_of_length_le hge]; rfl
    have hn : ¬ (i : Int) < (L.length : Int) := by omega
    have hn' : ¬ i < L.length := by omega
    have := hk _ this
    subst this
    simp -implicitDefEqProofs [r4, r21, r1, r19, r20, hn, hn']
end Go.Proofs.YtghlkjkdejebnaaGreatDoor
namespace Go.Proofs.YtghlkjkdejebnaaGreatDoor
open Rg Go
variable {H : Heap}
theorem abytes_u8s : ∀ l : List UInt8, abytes (u8s l) = some l
  | [] => rfl
  | c :: l => by
    have h1 := c.toNat_lt
    simp only [u8s, List.map_cons, abytes]
    rw [if_pos (by omega)]
    have := abytes_u8s l
    simp only [u8s] at this
    rw [this]
    simp
theorem c_growB (n : Nat) (hn : n ≤ 1000000) : ACalls Tryz.prog 130 [.sl [] .nil, .sc (.int .i64 (n : Int))] H (fun v K => ∃ t, v = .sl [] t ∧ Grows H [] 1 5 t K) := by
  refine ACalls.nilArg (pre := []) (post := [.sc (.int .i64 (n : Int))]) ?_
  refine ACalls.ownRes' fun R' q1 q2 q3 => ?_
  simp only [List.nil_append]
  refine ACalls.into Tryz.func130 rfl Tryz.ntmps130 Tryz.results130 (by simp) ?_
  have hT : Tryz.prog.underlying 28 = some (.slice 5) := by kernel_rfl
  have hI : Tryz.prog.underlying 3 = some (.int .i64) := by kernel_rfl
  have h0 : ¬ (n : Int) < 0 := by omega
  have hw0 : IntKind.i64.wrap 0 = 0 := by decide
  have hw : IntKind.i64.wrap (n : Int) = (n : Int) := wrap_i64 (by omega) (by omega)
  simp -implicitDefEqProofs [h0]
  refine ACall.eq (c_capBare hT) ?_
  by_cases hn0 : n = 0
  · subst hn0
    simp -implicitDefEqProofs [hw0]
    exact AFin.intro _ H (wk_refl _) (HWk.refl _) (q2 _ ⟨_, rfl, .zero⟩)
  · have hp : (0 : Int) < (n : Int) := by omega
    have hp' : 0 < n := by omega
    simp -implicitDefEqProofs [hw0, hw, hp, hp']
    refine ACall.eq (c_capBare hT) ?_
    simp -implicitDefEqProofs
    refine ACall.eq (c_sliceNil (sz := 1) hT (by kernel_rfl)) ?_
    simp -implicitDefEqProofs
    refine ACall.intro (c_appendMake el_28 hI hp' (by omega) (by simp [maxLen]; omega) (fun z hz q hq => ?_)) ?_
    · obtain rfl : z = .int .u8 0 := by
        have : tzero Tryz.prog 5 = some (.int .u8 0) := by kernel_rfl
        rw [this] at hz
        cases hz
        rfl
      simp [Value.cells] at hq
      subst hq
      rfl
    · rintro v K ⟨g, cap, zs, hg, hc1, hc2, hz, rfl, rfl⟩
      simp -implicitDefEqProofs
      refine ACall.eq (c_sliceTo (sz := 1) hT (by kernel_rfl) (hi := 0) (Nat.zero_le _)) ?_
      simp -implicitDefEqProofs
      refine AFin.intro _ _ (wk_refl _) (HWk.refl _) (q3 g [] (zs.map .sc) cap 1 5 _ (by simp [Heap.set]) rfl (by simp [hz]) (by simp) hc2 ⟨_, rfl, .inr ⟨g, cap, hg, rfl, ?_⟩⟩)
      rw [Heap.set_set]
abbrev rowsAV (L : List (List UInt8 × Tok)) : List AV := L.map fun p => .sl (u8s p.1) p.2
def joinB (L : List (List UInt8 × Tok)) : List UInt8 := L.flatMap fun p => p.1
theorem joinB_take {L : List (List UInt8 × Tok)} {i : Nat} {p : List UInt8 × Tok} (h : L[i]? = some p) : joinB (L.take (i + 1)) = joinB (L.take i) ++ p.1 := by
  rw [List.take_add_one, h]
  simp [joinB]
theorem joinB_len (L : List (List UInt8 × Tok)) (i : Nat) : (joinB (L.take i)).length ≤ (joinB L).length := by
  have : joinB L = joinB (L.take i) ++ joinB (L.drop i) := by
    unfold joinB
    rw [← List.flatMap_append, List.take_append_drop]
  rw [this, List.length_append]
  omega
theorem c_concatB (L : List (List UInt8 × Tok)) (t : Tok) (hL : L.length ≤ 1000000) (hs : (joinB L).length ≤ 1000000) :
    ACalls Tryz.prog 99 [.sl (rowsAV L) t] H (fun v K => ∃ t', v = .sl (u8s (joinB L)) t' ∧ Grows H (u8s (joinB L)) 1 5 t' K) := by
  generalize hR : (fun (v : AV) (K : Heap) => ∃ t', v = .sl (u8s (joinB L)) t' ∧ Grows H (u8s (joinB L)) 1 5 t' K) = R
  refine ACalls.into Tryz.func99 rfl Tryz.ntmps99 Tryz.results99 (by simp) ?_
  simp -implicitDefEqProofs
  refine AGo.joinLoop (fun ρ K => ρ 3 = .sc (.int .i64 ((joinB L).length : Int)) ∧ ρ 0 = .sl (rowsAV L) t ∧ K = H) (fun k' hk => ?_) ?_
  · refine AGo.rounds (fun m ρ K => ∃ i, m = L.length - i ∧ i ≤ L.length ∧ ρ 3 = .sc (.int .i64 ((joinB (L.take i)).length : Int)) ∧ ρ 11 = .sc (.int .i64 (i : Int)) ∧ ρ 0 = .sl (rowsAV L) t ∧ ρ 9 = .sl (rowsAV L) t ∧ ρ 10 = .sc (.int .i64 (L.length : Int)) ∧ K = H) ?_ (m := L.length) (HLe.refl _)
      ⟨0, rfl, by omega, by simp [joinB], by simp, by simp, by simp, by simp, rfl⟩
    rintro m ρ K ih ⟨i, rfl, hi, r3, r11, r0, r9, r10, rfl⟩
    rcases Nat.lt_or_ge i L.length with hlt | hge
    · obtain ⟨p, hej, hp⟩ := getAt hlt
      have hlt' : (i : Int) < (L.length : Int) := by omega
      have hj := joinB_take hp
      have hjl := joinB_len L (i + 1)
      rw [hj, List.length_append] at hjl
      have hw : IntKind.i64.wrap (((joinB (L.take i)).length : Int) + (p.1.length : Int)) = ((joinB (L.take i)).length : Int) + (p.1.length : Int) := wrap_i64 (by omega) (by omega)
      have hn : ¬ ((joinB (L.take i)).length : Int) + (p.1.length : Int) < 0 := by omega
      have hw1 : IntKind.i64.wrap ((i : Int) + 1) = (i : Int) + 1 := wrap_i64 (by omega) (by omega)
      simp -implicitDefEqProofs [r3, r11, r0, r9, r10, hlt, hlt', hej, hw, hn, hw1]
      exact AGo.again ih (m' := L.length - (i + 1)) (by omega) (HLe.refl _) ⟨i + 1, rfl, by omega, by simp [hj], by simp, by simp [r0], by simp [r9], by simp [r10], rfl⟩
    · have hn : ¬ (i : Int) < (L.length : Int) := by omega
      have hn' : ¬ i < L.length := by omega
      simp -implicitDefEqProofs [r3, r11, r0, r9, r10, hn, hn']
      exact hk _ _ ⟨by simp [r3, List.take_of_length_le hge], by simp [r0], rfl⟩
  · rintro ρ K ⟨r3, r0, rfl⟩
    simp -implicitDefEqProofs [r3, r0]
    refine ACall.intro (c_growB _ hs) ?_
    rintro v K1 ⟨t1, rfl, hg⟩
    simp -implicitDefEqProofs [r3, r0]
    refine AGo.rounds (fun m ρ K2 => ∃ i t2, m = L.length - i ∧ i ≤ L.length ∧ ρ 6 = .sl (u8s (joinB (L.take i))) t2 ∧ Grows K (u8s (joinB (L.take i))) 1 5 t2 K2 ∧ ρ 27 = .sc (.int .i64 (i : Int)) ∧ ρ 25 = .sl (rowsAV L) t ∧ ρ 26 = .sc (.int .i64 (L.length : Int))) ?_ (m := L.length) (HLe.refl _)
      ⟨0, t1, rfl, by omega, by simp [joinB], by simpa [joinB] using hg, by simp, by simp, by simp⟩
    rintro m ρ K2 ih ⟨i, t2, rfl, hi, r6, hg2, r27, r25, r26⟩
    rcases Nat.lt_or_ge i L.length with hlt | hge
    · obtain ⟨p, hej, hp⟩ := getAt hlt
      have hlt' : (i : Int) < (L.length : Int) := by omega
      have hj := joinB_take hp
      have hjl := joinB_len L (i + 1)
      rw [hj, List.length_append] at hjl
      have hw1 : IntKind.i64.wrap ((i : Int) + 1) = (i : Int) + 1 := wrap_i64 (by omega) (by omega)
      simp -implicitDefEqProofs [r6, r27, r25, r26, hlt, hlt', hej]
      refine AApp.grows0 el_28 hg2 (HLe.refl _) (szs_u8s _) (szs_u8s _) (by simp; omega) (by simp [maxLen]; omega) fun t' K' Hn hg' hl' => ?_
      simp -implicitDefEqProofs [r6, r27, r25, r26, hw1]
      rw [← u8s_app, ← hj] at hg'
      exact AGo.again ih (m' := L.length - (i + 1)) (by omega) hl' ⟨i + 1, t', rfl, by omega, by simp [hj], hg', by simp, by simp [r25], by simp [r26]⟩
    · have hn : ¬ (i : Int) < (L.length : Int) := by omega
      have hn' : ¬ i < L.length := by omega
      simp -implicitDefEqProofs [r6, r27, r25, r26, hn, hn']
      rw [List.take_of_length_le hge] at hg2 r6
      subst hR
      exact AFin.intro _ _ (wk_refl _) (HWk.refl _) ⟨t2, by rw [List.take_of_length_le hge], hg2⟩
theorem c_packJoin (L : List (List UInt8 × Tok)) (t : Tok) (hL : L.length ≤ 1000000) (hs : (joinB L).length ≤ 1000000) :
    ACalls Tryz.prog 50 [.sl (rowsAV L) t] H (fun v K => ∃ t', v = .sl (u8s (joinB L)) t' ∧ Grows H (u8s (joinB L)) 1 5 t' K) := by
  generalize hR : (fun (v : AV) (K : Heap) => ∃ t', v = .sl (u8s (joinB L)) t' ∧ Grows H (u8s (joinB L)) 1 5 t' K) = R
  refine ACalls.into Tryz.func50 rfl Tryz.ntmps50 Tryz.results50 (by simp) ?_
  simp -implicitDefEqProofs
  refine ACall.intro (c_concatB L t hL hs) ?_
  rintro v K ⟨t', rfl, hg⟩
  simp -implicitDefEqProofs
  subst hR
  exact AFin.intro _ _ (wk_refl _) (HWk.refl _) ⟨t', rfl, hg⟩
end Go.Proofs.YtghlkjkdejebnaaGreatDoor
namespace Go.Proofs.YtghlkjkdejebnaaGreatDoor
open Rg Go
variable {H : Heap}
def putTextB (s : List UInt8) : List UInt8 := putB s.length ++ s
theorem c_putText (s : List UInt8) (hs : s.length ≤ 4096) : AOk Tryz.prog 97 [str s] H (.tup [.sl (u8s (putTextB s)) .no, .sc (.int .i64 0)]) H := by
  have h1 : ¬ (4096 : Int) < (s.length : Int) := by omega
  have h2 : ¬ 4096 < s.length := by omega
  have hw : IntKind.u64.wrap (s.length : Int) = (s.length : Int) := wrap_u64 (by omega) (by omega)
  refine ACalls.into Tryz.func97 rfl Tryz.ntmps97 Tryz.results97 (by simp) ?_
  simp -implicitDefEqProofs [h1, h2, hw]
  refine ACall.eq (c_packPut s.length (by omega)) ?_
  have hml : s.length ≤ maxLen := by simp only [maxLen]; omega
  simp -implicitDefEqProofs [aconv, hml]
  have hj : joinB [(putB s.length, Rg.Tok.no), (s, Rg.Tok.no)] = putTextB s := by simp [joinB, putTextB]
  have hl := putB_len s.length
  have hlen : (putTextB s).length ≤ 1000000 := by unfold putTextB; rw [List.length_append]; omega
  have hc := c_packJoin (H := H) [(putB s.length, Rg.Tok.no), (s, Rg.Tok.no)] .full (by simp only [List.length_cons, List.length_nil]; omega) (by rw [hj]; exact hlen)
  rw [hj] at hc
  simp only [rowsAV, List.map_cons, List.map_nil] at hc
  refine ACall.intro hc ?_
  rintro v K ⟨t', rfl, hg⟩
  simp -implicitDefEqProofs
  exact hg.le.wk
def takeTextK (b : List UInt8) (a : Nat) : List UInt8 × Nat × Nat :=
  if (takeK b a).2.2 ≠ 0 then ([], 0, (takeK b a).2.2) else if 4096 < (takeK b a).1 ∨ b.length - (takeK b a).2.1 < (takeK b a).1 then ([], 0, 4) else ((b.drop (takeK b a).2.1).take (takeK b a).1, (takeK b a).2.1 + (takeK b a).1, 0)
abbrev txAV (p : List UInt8 × Nat × Nat) : AV := .tup [str p.1, .sc (.int .i64 (p.2.1 : Nat)), .sc (.int .i64 (p.2.2 : Nat))]
theorem c_textNone (e : Int) : AOk Tryz.prog 132 [.sc (.int .i64 e)] H (.tup [str [], .sc (.int .i64 0), .sc (.int .i64 e)]) H := by
  refine ACalls.into Tryz.func132 rfl Tryz.ntmps132 Tryz.results132 (by simp) ?_
  simp -implicitDefEqProofs
theorem takeTextK_le (b : List UInt8) (a : Nat) (ha : a ≤ b.length) : (takeTextK b a).2.1 ≤ b.length := by
  unfold takeTextK
  have := takeK_le b a ha
  split
  · simp
  · split
    · simp
    · simp only; omega
set_option maxHeartbeats 1000000 in
theorem c_takeText (b : List UInt8) (t : Tok) (a : Nat) (ha : a ≤ b.length) (hb : b.length ≤ 1000000) : AOk Tryz.prog 105 [.sl (u8s b) t, .sc (.int .i64 (a : Int))] H (txAV (takeTextK b a)) H := by
  have hle := takeK_le b a ha
  have hlt := takeK_lt b a
  refine ACalls.into Tryz.func105 rfl Tryz.ntmps105 Tryz.results105 (by simp) ?_
  simp -implicitDefEqProofs
  refine ACall.eq (c_packTake b t a ha hb) ?_
  obtain ⟨n, nx, e, hp⟩ : ∃ n nx e, takeK b a = (n, nx, e) := ⟨_, _, _, rfl⟩
  unfold takeTextK
  rw [hp] at hle hlt ⊢
  simp only at hle hlt ⊢
  by_cases he : e = 0
  · subst he
    simp -implicitDefEqProofs
    by_cases h1 : 4096 < n
    · have h1' : (4096 : Int) < (n : Int) := by omega
      simp -implicitDefEqProofs [h1, h1']
      refine ACall.eq (c_textNone 4) ?_
      simp -implicitDefEqProofs
    · have h1' : ¬ (4096 : Int) < (n : Int) := by omega
      have hw : IntKind.i64.wrap ((b.length : Int) - (nx : Int)) = ((b.length - nx : Nat) : Int) := by rw [wrap_i64 (by omega) (by omega)]; omega
      have hw2 : IntKind.u64.wrap ((b.length - nx : Nat) : Int) = ((b.length - nx : Nat) : Int) := wrap_u64 (by omega) (by omega)
      by_cases h2 : b.length - nx < n
      · have h2' : ((b.length - nx : Nat) : Int) < (n : Int) := by omega
        simp -implicitDefEqProofs [h1, h1', hw, hw2, h2, h2']
        refine ACall.eq (c_textNone 4) ?_
        simp -implicitDefEqProofs
      · have h2' : ¬ ((b.length - nx : Nat) : Int) < (n : Int) := by omega
        have h3 : (nx : Int) ≤ (b.length : Int) := by omega
        have h4 : (n : Int) ≤ ((b.drop nx).length : Int) := by simp; omega
        have hw3 : IntKind.i64.wrap (n : Int) = (n : Int) := wrap_i64 (by omega) (by omega)
        have hw4 : IntKind.i64.wrap ((nx : Int) + (n : Int)) = (nx : Int) + (n : Int) := wrap_i64 (by omega) (by omega)
        have h5 : n ≤ b.length - nx := by omega
        have h6 := szs_drop (szs_u8s b) nx
        have h7 : abytes (List.take n (List.drop nx (u8s b))) = some ((b.drop nx).take n) := by rw [← List.map_drop, ← List.map_take]; exact abytes_u8s _
        simp -implicitDefEqProofs [h1, h1', hw, hw2, h2, h2', hle, h3, szs_u8s b, hw3, hw4, h5, h6, h7, aconv]
  · have he' : ¬ (e : Int) = 0 := by omega
    simp -implicitDefEqProofs [he, he']
    refine ACall.eq (c_textNone e) ?_
    simp -implicitDefEqProofs
def zig (n : Int) : Nat := if 0 ≤ n then (2 * n).toNat else (-2 * n - 1).toNat
def unzig (x : Nat) : Int := if x % 2 = 0 then ((x / 2 : Nat) : Int) else -1 - ((x / 2 : Nat) : Int)
theorem unzig_zig (n : Int) : unzig (zig n) = n := by
  unfold zig unzig
  split <;> split <;> omega
theorem zig_lt {n : Int} (h1 : -9223372036854775808 ≤ n) (h2 : n ≤ 9223372036854775807) : zig n < 18446744073709551616 := by
  unfold zig
  split <;> omega
theorem xor_ones (a : Nat) (h : a < 2 ^ 64) : a ^^^ (2 ^ 64 - 1) = 2 ^ 64 - 1 - a := by
  apply Nat.eq_of_testBit_eq
  intro i
  rw [Nat.testBit_xor, Nat.testBit_two_pow_sub_one, show 2 ^ 64 - 1 - a = 2 ^ 64 - (a + 1) by omega, Nat.testBit_two_pow_sub_succ h]
  by_cases hi : i < 64
  · simp [hi]
  · have : a.testBit i = false := Nat.testBit_lt_two_pow (Nat.lt_of_lt_of_le h (Nat.pow_le_pow_right (by omega) (by omega)))
    simp [hi, this]
theorem zig_bits {n : Int} (h1 : -9223372036854775808 ≤ n) (h2 : n ≤ 9223372036854775807) : bits .xor .u64 (IntKind.u64.wrap (IntKind.u64.wrap n * 2)) (IntKind.u64.wrap (n.fdiv 9223372036854775808)) = (zig n : Int) := by
  have w : ∀ i : Int, IntKind.u64.wrap i = i % 18446744073709551616 := fun i => by simp [IntKind.wrap, IntKind.bits, IntKind.signed]
  rw [w, w, w]
  unfold zig
  by_cases h : 0 ≤ n
  · rw [if_pos h]
    have e1 : n.fdiv 9223372036854775808 = 0 := by rw [Int.fdiv_eq_ediv_of_nonneg _ (by omega)]; omega
    rw [e1]
    have e2 : n % 18446744073709551616 * 2 % 18446744073709551616 = (((2 * n).toNat : Nat) : Int) := by omega
    rw [e2]
    have := u64_xor_nat (2 * n).toNat 0 (by omega) (by omega)
    rw [Nat.xor_zero] at this
    exact this
  · rw [if_neg h]
    have e1 : n.fdiv 9223372036854775808 = -1 := by rw [Int.fdiv_eq_ediv_of_nonneg _ (by omega)]; omega
    rw [e1]
    have e2 : n % 18446744073709551616 * 2 % 18446744073709551616 = (((2 * n + 18446744073709551616).toNat : Nat) : Int) := by omega
    have e3 : (-1 : Int) % 18446744073709551616 = ((2 ^ 64 - 1 : Nat) : Int) := by decide
    rw [e2, e3, u64_xor_nat _ _ (by omega) (by decide), xor_ones _ (by omega)]
    omega
theorem c_putInt (n : Int) (h1 : -9223372036854775808 ≤ n) (h2 : n ≤ 9223372036854775807) : AOk Tryz.prog 98 [.sc (.int .i64 n)] H (.sl (u8s (putB (zig n))) .no) H := by
  have hz := zig_bits h1 h2
  refine ACalls.into Tryz.func98 rfl Tryz.ntmps98 Tryz.results98 (by simp) ?_
  simp -implicitDefEqProofs [hz]
  refine ACall.eq (c_packPut (zig n) (zig_lt h1 h2)) ?_
  simp -implicitDefEqProofs
theorem xor_i64 (a : Nat) (h : a < 9223372036854775808) : bits .xor .i64 (a : Int) 0 = (a : Int) ∧ bits .xor .i64 (a : Int) (-1) = -1 - (a : Int) := by
  have ho : (BitVec.ofInt 64 (a : Int)).toNat = a := ofInt_u64 a (by omega)
  constructor
  · have e : bits .xor .i64 (a : Int) 0 = IntKind.i64.wrap ((BitVec.ofInt 64 (a : Int) ^^^ BitVec.ofInt 64 0).toNat : Int) := rfl
    rw [e, BitVec.toNat_xor, ho, show (BitVec.ofInt 64 0).toNat = 0 from rfl, Nat.xor_zero]
    exact wrap_i64 (by omega) (by omega)
  · have e : bits .xor .i64 (a : Int) (-1) = IntKind.i64.wrap ((BitVec.ofInt 64 (a : Int) ^^^ BitVec.ofInt 64 (-1)).toNat : Int) := rfl
    rw [e, BitVec.toNat_xor, ho, show (BitVec.ofInt 64 (-1)).toNat = 2 ^ 64 - 1 from by decide, xor_ones a (by omega)]
    rw [IntKind.wrap_i64]
    omega
theorem unzig_bits (x : Nat) (h : x < 18446744073709551616) : bits .xor .i64 ((x / 2 : Nat) : Int) (-((x % 2 : Nat) : Int)) = unzig x := by
  obtain ⟨h1, h2⟩ := xor_i64 (x / 2) (by omega)
  unfold unzig
  by_cases hx : x % 2 = 0
  · rw [if_pos hx, hx]; exact h1
  · rw [if_neg hx, show x % 2 = 1 by omega]; exact h2
abbrev tiAV (p : Nat × Nat × Nat) : AV := .tup [.sc (.int .i64 (unzig p.1)), .sc (.int .i64 (p.2.1 : Nat)), .sc (.int .i64 (p.2.2 : Nat))]
theorem c_takeInt (b : List UInt8) (t : Tok) (a : Nat) (ha : a ≤ b.length) (hb : b.length ≤ 1000000) : AOk Tryz.prog 69 [.sl (u8s b) t, .sc (.int .i64 (a : Int))] H (tiAV (takeK b a)) H := by
  have hlt := takeK_lt b a
  refine ACalls.into Tryz.func69 rfl Tryz.ntmps69 Tryz.results69 (by simp) ?_
  simp -implicitDefEqProofs
  refine ACall.eq (c_packTake b t a ha hb) ?_
  obtain ⟨n, nx, e, hp⟩ : ∃ n nx e, takeK b a = (n, nx, e) := ⟨_, _, _, rfl⟩
  rw [hp] at hlt ⊢
  simp only at hlt ⊢
  have hz := unzig_bits n hlt
  have e1 : (n : Int).fdiv 2 = ((n / 2 : Nat) : Int) := by rw [Int.fdiv_eq_ediv_of_nonneg _ (by omega)]; omega
  have e2 : bits .and .u64 (n : Int) 1 = ((n % 2 : Nat) : Int) := by
    have := u64_and_nat n 1 hlt (by omega)
    rw [nat_mask1] at this
    exact this
  have e3 : IntKind.i64.wrap ((n : Int) / 2) = ((n / 2 : Nat) : Int) := by rw [wrap_i64 (by omega) (by omega)]; omega
  have e4 : IntKind.i64.wrap ((n : Int) % 2) = ((n % 2 : Nat) : Int) := by rw [wrap_i64 (by omega) (by omega)]; omega
  have e5 : IntKind.i64.wrap (-((n % 2 : Nat) : Int)) = -((n % 2 : Nat) : Int) := wrap_i64 (by omega) (by omega)
  simp -implicitDefEqProofs [e1, e2]
  rw [e3, e4, e5, hz]
end Go.Proofs.YtghlkjkdejebnaaGreatDoor
namespace Go.Proofs.YtghlkjkdejebnaaGreatDoor
open Rg Go
variable {H : Heap}
structure Ex where
  a : Fld
  b : Fld
  c : Fld
  d : Fld
  e : Fld
deriving DecidableEq
abbrev exC (x : Ex) : List AV := [.sc (.int .u64 x.a.bits), .sc (.bool x.a.star), .sc (.int .u64 x.b.bits), .sc (.bool x.b.star), .sc (.int .u64 x.c.bits), .sc (.bool x.c.star), .sc (.int .u64 x.d.bits), .sc (.bool x.d.star), .sc (.int .u64 x.e.bits), .sc (.bool x.e.star)]
abbrev exAV (x : Ex) : AV := .agg (exC x)
def Ex.get (x : Ex) : Nat → Fld
  | 0 => x.a
  | 1 => x.b
  | 2 => x.c
  | 3 => x.d
  | _ => x.e
structure Ex.ok (x : Ex) : Prop where
  a : x.a.bits < 18446744073709551616
  b : x.b.bits < 18446744073709551616
  c : x.c.bits < 18446744073709551616
  d : x.d.bits < 18446744073709551616
  e : x.e.bits < 18446744073709551616
def f0 : Fld := ⟨0, false⟩
def ex0 : Ex := ⟨f0, f0, f0, f0, f0⟩
theorem lt_succ_all {P : Nat → Prop} {k : Nat} (h : ∀ i, i < k → P i) (hk : P k) : ∀ i, i < k + 1 → P i := fun i hi => by
  by_cases e : i = k
  · subst e; exact hk
  · exact h i (by omega)
end Go.Proofs.YtghlkjkdejebnaaGreatDoor
namespace Go.Proofs.YtghlkjkdejebnaaGreatDoor
open Rg Go
end Go.Proofs.YtghlkjkdejebnaaGreatDoor
namespace Go.Proofs.YtghlkjkdejebnaaGreatDoor
open Rg Go
section
variable {x : Ex} {t n mm h m D : Nat}
end
section
variable {x : Ex} {t n mm h m D : Nat}
end
end Go.Proofs.YtghlkjkdejebnaaGreatDoor
namespace Go.Proofs.YtghlkjkdejebnaaGreatDoor
open Rg Go
variable {H : Heap}
end Go.Proofs.YtghlkjkdejebnaaGreatDoor
