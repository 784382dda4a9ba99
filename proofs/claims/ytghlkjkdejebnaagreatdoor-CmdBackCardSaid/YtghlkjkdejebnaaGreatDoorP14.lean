/- Numbers and texts as bytes: pack.Take. Numbers and texts as bytes: the rest of the program's package pack. Numbers and texts as bytes: texts, whole numbers. Expressions: which may be, which clocks fit. Firings, in plain words: the last one up to a moment, the next one behind it, all of a time; a day's date from its neighbour's. Looking for firings, in plain words: what is known on the way, down (Last) and up (After), by hours and minutes, or minute by minute. The last firing up to a moment, as the program looks for it. The document's fields: what is allowed. The document's fields: a text at each of a byte. The document's fields: kinds, which may be. The document's text of a field is the program's: in plain words. The document's numbers of words are the program's: in plain words. The document's items are the program's: in plain words. The document's number of a word. The document's item. The document's fields: the least number from one on; a number's digits. The document's text of a field. The document's parse of a field. Expressions: a text's. The document's parse of an expression. The document's parse of any expression. The document's dates and clocks. The document's clock of a moment. The document's expressions: which may be, which clocks fit. The last firing up to a moment, as the document looks for it. Jobs: which may be. -/
import Derived.Test.YtghlkjkdejebnaaGreatDoorP13
import Derived.Test.YtghlkjkdejebnaaGreatDoorP09
import Derived.Lib.MapLaws
import Derived.Lib.TrimAscii
import Derived.Lib.TrimU
set_option linter.unusedSimpArgs false
set_option linter.unusedVariables false
set_option linter.unnecessarySimpa false
namespace Go.Proofs.YtghlkjkdejebnaaGreatDoor
open Rg Go
variable {H : Heap}
theorem getAt {α : Type} {L : List α} {i : Nat} (h : i < L.length) : ∃ e, L[i] = e ∧ L[i]? = some e := ⟨_, rfl, List.getElem?_eq_getElem h⟩
theorem pow7 (i : Nat) : (2 : Nat) ^ (7 * i) = 128 ^ i := by rw [Nat.pow_mul]
theorem and127 (x : Nat) (hx : x < 256) : bits .and .u8 (x : Int) 127 = ((x % 128 : Nat) : Int) := by
  have := u8_and_nat x 127 hx (by omega)
  rw [show ((127 : Nat) : Int) = 127 from rfl] at this
  rw [this]
  congr 1
  exact Nat.and_two_pow_sub_one_eq_mod x 7
theorem or_join {acc y i : Nat} (ha : acc < 128 ^ i) (hs : acc + y * 128 ^ i < 18446744073709551616) : bits .or .u64 (acc : Int) ((y * 128 ^ i : Nat) : Int) = ((acc + y * 128 ^ i : Nat) : Int) := by
  rw [u64_or_nat _ _ (by omega) (by omega), Nat.or_comm, nat_join (7 * i) _ _ (by rw [pow7]; exact Nat.mul_mod_left _ _) (by rw [pow7]; exact ha), Nat.add_comm]
theorem take_sum {x : UInt8} {acc i : Nat} (hi9 : i ≤ 9) (hacc : acc < 128 ^ i) (c1 : ¬ ((i = 9 ∧ 1 < x.toNat) ∨ (0 < i ∧ x.toNat = 0))) : acc + x.toNat % 128 * 128 ^ i < 18446744073709551616 ∧ (x.toNat % 128 * 128 ^ i < 18446744073709551616) ∧ (i ≠ 9 → acc + x.toNat % 128 * 128 ^ i < 128 ^ (i + 1)) := by
  have p0 : 0 < (128 : Nat) ^ i := Nat.pow_pos (by omega)
  by_cases h9 : i = 9
  · subst h9
    have h2 : x.toNat % 128 * 128 ^ 9 ≤ 1 * 128 ^ 9 := Nat.mul_le_mul_right _ (by omega)
    refine ⟨?_, ?_, fun h => absurd rfl h⟩ <;> omega
  · have h1 : x.toNat % 128 * 128 ^ i ≤ 127 * 128 ^ i := Nat.mul_le_mul_right _ (by omega)
    have h2 : acc + x.toNat % 128 * 128 ^ i < 128 ^ (i + 1) := by rw [Nat.pow_succ]; omega
    have h3 : 128 ^ (i + 1) ≤ 128 ^ 9 := Nat.pow_le_pow_right (by decide) (by omega)
    refine ⟨?_, ?_, fun _ => h2⟩ <;> omega
set_option maxHeartbeats 2000000 in
theorem c_packTake (b : List UInt8) (t : Tok) (a : Nat) (ha : a ≤ b.length) (hb : b.length ≤ 1000000) : AOk Tryz.prog 54 [.sl (u8s b) t, .sc (.int .i64 (a : Int))] H (tkAV (takeK b a)) H := by
  have ha' : ¬ (b.length : Int) < (a : Int) := by omega
  have ha2 : (a : Int) ≤ (b.length : Int) := by omega
  obtain ⟨res, hres⟩ : ∃ res, takeK b a = res := ⟨_, rfl⟩
  have hdr : (u8s b).drop a = u8s (b.drop a) := by simp
  obtain ⟨L, hL⟩ : ∃ L, b.drop a = L := ⟨_, rfl⟩
  have hLl : L.length ≤ 1000000 := by rw [← hL]; simp; omega
  have hk : ∀ r, takeGo L 0 0 = r → res = match r with | some (n, k) => (n, a + k, 0) | none => (0, 0, 4) := by
    intro r hr
    rw [← hres]; unfold takeK; rw [hL, hr] <;> rfl
  rw [hres]
  refine ACalls.into Tryz.func54 rfl Tryz.ntmps54 Tryz.results54 (by simp) ?_
  simp -implicitDefEqProofs [ha, ha', ha2, szs_u8s b]
  refine AGo.rounds (fun m ρ K => ∃ (i acc : Nat), m = L.length - i ∧ i ≤ L.length ∧ i ≤ 9 ∧ acc < 128 ^ i ∧ takeGo (L.drop i) i acc = takeGo L 0 0 ∧
    ρ 4 = .sc (.int .u64 (acc : Int)) ∧ ρ 21 = .sc (.int .i64 (i : Int)) ∧ ρ 1 = .sc (.int .i64 (a : Int)) ∧ ρ 19 = .sl (u8s L) .no ∧ ρ 20 = .sc (.int .i64 (L.length : Int)) ∧ K = H) ?_ (m := L.length) (HLe.refl _)
    ⟨0, 0, rfl, by omega, by omega, by simp, rfl, by simp, by simp, by simp, by simp [← hL], by simp [← hL], rfl⟩
  rintro m ρ K ih ⟨i, acc, rfl, hi, hi9, hacc, htk, r4, r21, r1, r19, r20, rfl⟩
  rcases Nat.lt_or_ge i L.length with hlt | hge
  · obtain ⟨x, hej, hx⟩ := getAt hlt
    have hd : L.drop i = x :: L.drop (i + 1) := by rw [List.drop_eq_getElem_cons hlt, hej]
    have hlt' : (i : Int) < (L.length : Int) := by omega
    have hxn := x.toNat_lt
    rw [hd] at htk
    simp only [takeGo] at htk
    by_cases c1 : (i = 9 ∧ 1 < x.toNat) ∨ (0 < i ∧ x.toNat = 0)
    · rw [if_pos c1] at htk
      have := hk _ htk.symm
      subst this
      by_cases h9 : i = 9
      · have h9' : decide ((i : Int) = 9) = true := decide_eq_true (by omega)
        have h9n : decide (i = 9) = true := decide_eq_true h9
        by_cases hx1 : 1 < x.toNat
        · have hx1' : (1 : Int) < (x.toNat : Int) := by omega
          simp -implicitDefEqProofs [r4, r21, r1, r19, r20, hlt, hlt', hej, h9', h9n, hx1, hx1']
        · have hx1' : ¬ (1 : Int) < (x.toNat : Int) := by omega
          have hx0 : x.toNat = 0 := by omega
          have h0 : 0 < i := by omega
          have h0' : (0 : Int) < (i : Int) := by omega
          simp -implicitDefEqProofs [r4, r21, r1, r19, r20, hlt, hlt', hej, h9', h9n, hx0, h0, h0']
      · have h9' : ¬ (i : Int) = 9 := by omega
        have h0 : 0 < i := by omega
        have h0' : (0 : Int) < (i : Int) := by omega
        have hx0 : x.toNat = 0 := by omega
        simp -implicitDefEqProofs [r4, r21, r1, r19, r20, hlt, hlt', hej, h9, h9', h0, h0', hx0]
    · rw [if_neg c1] at htk
      obtain ⟨hs1, hs2, hs3⟩ := take_sum hi9 hacc c1
      have hor := or_join hacc hs1
      have h7 : IntKind.i64.wrap (7 * (i : Int)) = 7 * (i : Int) := wrap_i64 (by omega) (by omega)
      have h7n : ¬ 7 * (i : Int) < 0 := by omega
      have h127 := and127 x.toNat hxn
      obtain ⟨acc', hq⟩ : ∃ q, acc + x.toNat % 128 * 128 ^ i = q := ⟨_, rfl⟩
      have hsh : bits .or .u64 (acc : Int) (IntKind.u64.wrap (IntKind.u64.wrap ((x.toNat : Int) % 128) * 2 ^ min (7 * (i : Int)).toNat 64)) = (acc' : Int) := by
        rw [← hq, ← hor]
        have e1 : min (7 * (i : Int)).toNat 64 = 7 * i := by omega
        have e2 : IntKind.u64.wrap ((x.toNat : Int) % 128) = ((x.toNat % 128 : Nat) : Int) := by rw [wrap_u64 (by omega) (by omega)]; omega
        have e3 : ((x.toNat % 128 : Nat) : Int) * 2 ^ (7 * i) = ((x.toNat % 128 * 128 ^ i : Nat) : Int) := by rw [← pow7]; push_cast; rfl
        rw [e1, e2, e3, wrap_u64 (by omega) (by omega)]
      have hw1 : IntKind.i64.wrap ((i : Int) + 1) = (i : Int) + 1 := wrap_i64 (by omega) (by omega)
      have hwa : IntKind.i64.wrap ((a : Int) + (i : Int)) = (a : Int) + (i : Int) := wrap_i64 (by omega) (by omega)
      have hwb : IntKind.i64.wrap ((a : Int) + (i : Int) + 1) = ((a + (i + 1) : Nat) : Int) := by rw [wrap_i64 (by omega) (by omega)]; omega
      have key : (i = 9 ∧ ¬ 1 < x.toNat ∧ 0 < i ∧ ¬ x.toNat = 0) ∨ (¬ i = 9 ∧ 0 < i ∧ ¬ x.toNat = 0) ∨ (¬ i = 9 ∧ i = 0) := by omega
      rw [hq] at htk hs3
      by_cases h128 : x.toNat < 128
      · have h128' : (x.toNat : Int) < 128 := by omega
        rw [if_pos h128] at htk
        have := hk _ htk.symm
        simp only at this
        subst this
        rcases key with ⟨h9, hx1, h0, hx0⟩ | ⟨h9, h0, hx0⟩ | ⟨h9, h0⟩
        · have h9' : decide ((i : Int) = 9) = true := decide_eq_true (by omega)
          have h9n : decide (i = 9) = true := decide_eq_true h9
          have hx1' : ¬ (1 : Int) < (x.toNat : Int) := by omega
          have h0' : (0 : Int) < (i : Int) := by omega
          have hx0' : ¬ (x.toNat : Int) = 0 := by omega
          simp -implicitDefEqProofs [r4, r21, r1, r19, r20, hlt, hlt', hej, h9', h9n, hx1, hx1', h0, h0', hx0, hx0', h7, h7n, h127, hsh, h128, h128', hwa, hwb]
        · have h9' : ¬ (i : Int) = 9 := by omega
          have h0' : (0 : Int) < (i : Int) := by omega
          have hx0' : ¬ (x.toNat : Int) = 0 := by omega
          simp -implicitDefEqProofs [r4, r21, r1, r19, r20, hlt, hlt', hej, h9, h9', h0, h0', hx0, hx0', h7, h7n, h127, hsh, h128, h128', hwa, hwb]
        · have h9' : ¬ (i : Int) = 9 := by omega
          have h0' : ¬ (0 : Int) < (i : Int) := by omega
          have h0n : ¬ 0 < i := by omega
          simp -implicitDefEqProofs [r4, r21, r1, r19, r20, hlt, hlt', hej, h9, h9', h0n, h0', h7, h7n, h127, hsh, h128, h128', hwa, hwb]
      · have h128' : ¬ (x.toNat : Int) < 128 := by omega
        rw [if_neg h128] at htk
        rcases key with ⟨h9, hx1, h0, hx0⟩ | ⟨h9, h0, hx0⟩ | ⟨h9, h0⟩
        · omega
        · have h9' : ¬ (i : Int) = 9 := by omega
          have h0' : (0 : Int) < (i : Int) := by omega
          have hx0' : ¬ (x.toNat : Int) = 0 := by omega
          simp -implicitDefEqProofs [r4, r21, r1, r19, r20, hlt, hlt', hej, h9, h9', h0, h0', hx0, hx0', h7, h7n, h127, hsh, h128, h128', hw1]
          refine AGo.again ih (m' := L.length - (i + 1)) (by omega) (HLe.refl _) ⟨i + 1, acc', rfl, by omega, by omega, hs3 h9, htk, by simp, by simp, by simp [r1], by simp [r19], by simp [r20], rfl⟩
        · have h9' : ¬ (i : Int) = 9 := by omega
          have h0' : ¬ (0 : Int) < (i : Int) := by omega
          have h0n : ¬ 0 < i := by omega
          simp -implicitDefEqProofs [r4, r21, r1, r19, r20, hlt, hlt', hej, h9, h9', h0n, h0', h7, h7n, h127, hsh, h128, h128', hw1]
          refine AGo.again ih (m' := L.length - (i + 1)) (by omega) (HLe.refl _) ⟨i + 1, acc', rfl, by omega, by omega, hs3 h9, htk, by simp, by simp, by simp [r1], by simp [r19], by simp [r20], rfl⟩
  · have : takeGo L 0 0 = none := by rw [← htk, List.drop_of_length_le hge]; rfl
    have hn : ¬ (i : Int) < (L.length : Int) := by omega
    have hn' : ¬ i < L.length := by omega
    have := hk _ this
    subst this
    simp -implicitDefEqProofs [r4, r21, r1, r19, r20, hn, hn']
end Go.Proofs.YtghlkjkdejebnaaGreatDoor
namespace Go.Proofs.YtghlkjkdejebnaaGreatDoor
open Rg Go
variable {H : Heap}
theorem abytes_u8s : ∀ l : List UInt8, abytes (u8s l) = some l
  | [] => rfl
  | c :: l => by
    have h1 := c.toNat_lt
    simp only [u8s, List.map_cons, abytes]
    rw [if_pos (by omega)]
    have := abytes_u8s l
    simp only [u8s] at this
    rw [this]
    simp
theorem c_growB (n : Nat) (hn : n ≤ 1000000) : ACalls Tryz.prog 130 [.sl [] .nil, .sc (.int .i64 (n : Int))] H (fun v K => ∃ t, v = .sl [] t ∧ Grows H [] 1 5 t K) := by
  refine ACalls.nilArg (pre := []) (post := [.sc (.int .i64 (n : Int))]) ?_
  refine ACalls.ownRes' fun R' q1 q2 q3 => ?_
  simp only [List.nil_append]
  refine ACalls.into Tryz.func130 rfl Tryz.ntmps130 Tryz.results130 (by simp) ?_
  have hT : Tryz.prog.underlying 28 = some (.slice 5) := by kernel_rfl
  have hI : Tryz.prog.underlying 3 = some (.int .i64) := by kernel_rfl
  have h0 : ¬ (n : Int) < 0 := by omega
  have hw0 : IntKind.i64.wrap 0 = 0 := by decide
  have hw : IntKind.i64.wrap (n : Int) = (n : Int) := wrap_i64 (by omega) (by omega)
  simp -implicitDefEqProofs [h0]
  refine ACall.eq (c_capBare hT) ?_
  by_cases hn0 : n = 0
  · subst hn0
    simp -implicitDefEqProofs [hw0]
    exact AFin.intro _ H (wk_refl _) (HWk.refl _) (q2 _ ⟨_, rfl, .zero⟩)
  · have hp : (0 : Int) < (n : Int) := by omega
    have hp' : 0 < n := by omega
    simp -implicitDefEqProofs [hw0, hw, hp, hp']
    refine ACall.eq (c_capBare hT) ?_
    simp -implicitDefEqProofs
    refine ACall.eq (c_sliceNil (sz := 1) hT (by kernel_rfl)) ?_
    simp -implicitDefEqProofs
    refine ACall.intro (c_appendMake el_28 hI hp' (by omega) (by simp [maxLen]; omega) (fun z hz q hq => ?_)) ?_
    · obtain rfl : z = .int .u8 0 := by
        have : tzero Tryz.prog 5 = some (.int .u8 0) := by kernel_rfl
        rw [this] at hz
        cases hz
        rfl
      simp [Value.cells] at hq
      subst hq
      rfl
    · rintro v K ⟨g, cap, zs, hg, hc1, hc2, hz, rfl, rfl⟩
      simp -implicitDefEqProofs
      refine ACall.eq (c_sliceTo (sz := 1) hT (by kernel_rfl) (hi := 0) (Nat.zero_le _)) ?_
      simp -implicitDefEqProofs
      refine AFin.intro _ _ (wk_refl _) (HWk.refl _) (q3 g [] (zs.map .sc) cap 1 5 _ (by simp [Heap.set]) rfl (by simp [hz]) (by simp) hc2 ⟨_, rfl, .inr ⟨g, cap, hg, rfl, ?_⟩⟩)
      rw [Heap.set_set]
abbrev rowsAV (L : List (List UInt8 × Tok)) : List AV := L.map fun p => .sl (u8s p.1) p.2
def joinB (L : List (List UInt8 × Tok)) : List UInt8 := L.flatMap fun p => p.1
theorem joinB_take {L : List (List UInt8 × Tok)} {i : Nat} {p : List UInt8 × Tok} (h : L[i]? = some p) : joinB (L.take (i + 1)) = joinB (L.take i) ++ p.1 := by
  rw [List.take_add_one, h]
  simp [joinB]
theorem joinB_len (L : List (List UInt8 × Tok)) (i : Nat) : (joinB (L.take i)).length ≤ (joinB L).length := by
  have : joinB L = joinB (L.take i) ++ joinB (L.drop i) := by
    unfold joinB
    rw [← List.flatMap_append, List.take_append_drop]
  rw [this, List.length_append]
  omega
theorem c_concatB (L : List (List UInt8 × Tok)) (t : Tok) (hL : L.length ≤ 1000000) (hs : (joinB L).length ≤ 1000000) :
    ACalls Tryz.prog 99 [.sl (rowsAV L) t] H (fun v K => ∃ t', v = .sl (u8s (joinB L)) t' ∧ Grows H (u8s (joinB L)) 1 5 t' K) := by
  generalize hR : (fun (v : AV) (K : Heap) => ∃ t', v = .sl (u8s (joinB L)) t' ∧ Grows H (u8s (joinB L)) 1 5 t' K) = R
  refine ACalls.into Tryz.func99 rfl Tryz.ntmps99 Tryz.results99 (by simp) ?_
  simp -implicitDefEqProofs
  refine AGo.joinLoop (fun ρ K => ρ 3 = .sc (.int .i64 ((joinB L).length : Int)) ∧ ρ 0 = .sl (rowsAV L) t ∧ K = H) (fun k' hk => ?_) ?_
  · refine AGo.rounds (fun m ρ K => ∃ i, m = L.length - i ∧ i ≤ L.length ∧ ρ 3 = .sc (.int .i64 ((joinB (L.take i)).length : Int)) ∧ ρ 11 = .sc (.int .i64 (i : Int)) ∧ ρ 0 = .sl (rowsAV L) t ∧ ρ 9 = .sl (rowsAV L) t ∧ ρ 10 = .sc (.int .i64 (L.length : Int)) ∧ K = H) ?_ (m := L.length) (HLe.refl _)
      ⟨0, rfl, by omega, by simp [joinB], by simp, by simp, by simp, by simp, rfl⟩
    rintro m ρ K ih ⟨i, rfl, hi, r3, r11, r0, r9, r10, rfl⟩
    rcases Nat.lt_or_ge i L.length with hlt | hge
    · obtain ⟨p, hej, hp⟩ := getAt hlt
      have hlt' : (i : Int) < (L.length : Int) := by omega
      have hj := joinB_take hp
      have hjl := joinB_len L (i + 1)
      rw [hj, List.length_append] at hjl
      have hw : IntKind.i64.wrap (((joinB (L.take i)).length : Int) + (p.1.length : Int)) = ((joinB (L.take i)).length : Int) + (p.1.length : Int) := wrap_i64 (by omega) (by omega)
      have hn : ¬ ((joinB (L.take i)).length : Int) + (p.1.length : Int) < 0 := by omega
      have hw1 : IntKind.i64.wrap ((i : Int) + 1) = (i : Int) + 1 := wrap_i64 (by omega) (by omega)
      simp -implicitDefEqProofs [r3, r11, r0, r9, r10, hlt, hlt', hej, hw, hn, hw1]
      exact AGo.again ih (m' := L.length - (i + 1)) (by omega) (HLe.refl _) ⟨i + 1, rfl, by omega, by simp [hj], by simp, by simp [r0], by simp [r9], by simp [r10], rfl⟩
    · have hn : ¬ (i : Int) < (L.length : Int) := by omega
      have hn' : ¬ i < L.length := by omega
      simp -implicitDefEqProofs [r3, r11, r0, r9, r10, hn, hn']
      exact hk _ _ ⟨by simp [r3, List.take_of_length_le hge], by simp [r0], rfl⟩
  · rintro ρ K ⟨r3, r0, rfl⟩
    simp -implicitDefEqProofs [r3, r0]
    refine ACall.intro (c_growB _ hs) ?_
    rintro v K1 ⟨t1, rfl, hg⟩
    simp -implicitDefEqProofs [r3, r0]
    refine AGo.rounds (fun m ρ K2 => ∃ i t2, m = L.length - i ∧ i ≤ L.length ∧ ρ 6 = .sl (u8s (joinB (L.take i))) t2 ∧ Grows K (u8s (joinB (L.take i))) 1 5 t2 K2 ∧ ρ 27 = .sc (.int .i64 (i : Int)) ∧ ρ 25 = .sl (rowsAV L) t ∧ ρ 26 = .sc (.int .i64 (L.length : Int))) ?_ (m := L.length) (HLe.refl _)
      ⟨0, t1, rfl, by omega, by simp [joinB], by simpa [joinB] using hg, by simp, by simp, by simp⟩
    rintro m ρ K2 ih ⟨i, t2, rfl, hi, r6, hg2, r27, r25, r26⟩
    rcases Nat.lt_or_ge i L.length with hlt | hge
    · obtain ⟨p, hej, hp⟩ := getAt hlt
      have hlt' : (i : Int) < (L.length : Int) := by omega
      have hj := joinB_take hp
      have hjl := joinB_len L (i + 1)
      rw [hj, List.length_append] at hjl
      have hw1 : IntKind.i64.wrap ((i : Int) + 1) = (i : Int) + 1 := wrap_i64 (by omega) (by omega)
      simp -implicitDefEqProofs [r6, r27, r25, r26, hlt, hlt', hej]
      refine AApp.grows0 el_28 hg2 (HLe.refl _) (szs_u8s _) (szs_u8s _) (by simp; omega) (by simp [maxLen]; omega) fun t' K' Hn hg' hl' => ?_
      simp -implicitDefEqProofs [r6, r27, r25, r26, hw1]
      rw [← u8s_app, ← hj] at hg'
      exact AGo.again ih (m' := L.length - (i + 1)) (by omega) hl' ⟨i + 1, t', rfl, by omega, by simp [hj], hg', by simp, by simp [r25], by simp [r26]⟩
    · have hn : ¬ (i : Int) < (L.length : Int) := by omega
      have hn' : ¬ i < L.length := by omega
      simp -implicitDefEqProofs [r6, r27, r25, r26, hn, hn']
      rw [List.take_of_length_le hge] at hg2 r6
      subst hR
      exact AFin.intro _ _ (wk_refl _) (HWk.refl _) ⟨t2, by rw [List.take_of_length_le hge], hg2⟩
theorem c_packJoin (L : List (List UInt8 × Tok)) (t : Tok) (hL : L.length ≤ 1000000) (hs : (joinB L).length ≤ 1000000) :
    ACalls Tryz.prog 50 [.sl (rowsAV L) t] H (fun v K => ∃ t', v = .sl (u8s (joinB L)) t' ∧ Grows H (u8s (joinB L)) 1 5 t' K) := by
  generalize hR : (fun (v : AV) (K : Heap) => ∃ t', v = .sl (u8s (joinB L)) t' ∧ Grows H (u8s (joinB L)) 1 5 t' K) = R
  refine ACalls.into Tryz.func50 rfl Tryz.ntmps50 Tryz.results50 (by simp) ?_
  simp -implicitDefEqProofs
  refine ACall.intro (c_concatB L t hL hs) ?_
  rintro v K ⟨t', rfl, hg⟩
  simp -implicitDefEqProofs
  subst hR
  exact AFin.intro _ _ (wk_refl _) (HWk.refl _) ⟨t', rfl, hg⟩
end Go.Proofs.YtghlkjkdejebnaaGreatDoor
namespace Go.Proofs.YtghlkjkdejebnaaGreatDoor
open Rg Go
variable {H : Heap}
def putTextB (s : List UInt8) : List UInt8 := putB s.length ++ s
theorem c_putText (s : List UInt8) (hs : s.length ≤ 4096) : AOk Tryz.prog 97 [str s] H (.tup [.sl (u8s (putTextB s)) .no, .sc (.int .i64 0)]) H := by
  have h1 : ¬ (4096 : Int) < (s.length : Int) := by omega
  have h2 : ¬ 4096 < s.length := by omega
  have hw : IntKind.u64.wrap (s.length : Int) = (s.length : Int) := wrap_u64 (by omega) (by omega)
  refine ACalls.into Tryz.func97 rfl Tryz.ntmps97 Tryz.results97 (by simp) ?_
  simp -implicitDefEqProofs [h1, h2, hw]
  refine ACall.eq (c_packPut s.length (by omega)) ?_
  have hml : s.length ≤ maxLen := by simp only [maxLen]; omega
  simp -implicitDefEqProofs [aconv, hml]
  have hj : joinB [(putB s.length, Rg.Tok.no), (s, Rg.Tok.no)] = putTextB s := by simp [joinB, putTextB]
  have hl := putB_len s.length
  have hlen : (putTextB s).length ≤ 1000000 := by unfold putTextB; rw [List.length_append]; omega
  have hc := c_packJoin (H := H) [(putB s.length, Rg.Tok.no), (s, Rg.Tok.no)] .full (by simp only [List.length_cons, List.length_nil]; omega) (by rw [hj]; exact hlen)
  rw [hj] at hc
  simp only [rowsAV, List.map_cons, List.map_nil] at hc
  refine ACall.intro hc ?_
  rintro v K ⟨t', rfl, hg⟩
  simp -implicitDefEqProofs
  exact hg.le.wk
def takeTextK (b : List UInt8) (a : Nat) : List UInt8 × Nat × Nat :=
  if (takeK b a).2.2 ≠ 0 then ([], 0, (takeK b a).2.2) else if 4096 < (takeK b a).1 ∨ b.length - (takeK b a).2.1 < (takeK b a).1 then ([], 0, 4) else ((b.drop (takeK b a).2.1).take (takeK b a).1, (takeK b a).2.1 + (takeK b a).1, 0)
abbrev txAV (p : List UInt8 × Nat × Nat) : AV := .tup [str p.1, .sc (.int .i64 (p.2.1 : Nat)), .sc (.int .i64 (p.2.2 : Nat))]
theorem c_textNone (e : Int) : AOk Tryz.prog 132 [.sc (.int .i64 e)] H (.tup [str [], .sc (.int .i64 0), .sc (.int .i64 e)]) H := by
  refine ACalls.into Tryz.func132 rfl Tryz.ntmps132 Tryz.results132 (by simp) ?_
  simp -implicitDefEqProofs
theorem takeTextK_le (b : List UInt8) (a : Nat) (ha : a ≤ b.length) : (takeTextK b a).2.1 ≤ b.length := by
  unfold takeTextK
  have := takeK_le b a ha
  split
  · simp
  · split
    · simp
    · simp only; omega
set_option maxHeartbeats 1000000 in
theorem c_takeText (b : List UInt8) (t : Tok) (a : Nat) (ha : a ≤ b.length) (hb : b.length ≤ 1000000) : AOk Tryz.prog 105 [.sl (u8s b) t, .sc (.int .i64 (a : Int))] H (txAV (takeTextK b a)) H := by
  have hle := takeK_le b a ha
  have hlt := takeK_lt b a
  refine ACalls.into Tryz.func105 rfl Tryz.ntmps105 Tryz.results105 (by simp) ?_
  simp -implicitDefEqProofs
  refine ACall.eq (c_packTake b t a ha hb) ?_
  obtain ⟨n, nx, e, hp⟩ : ∃ n nx e, takeK b a = (n, nx, e) := ⟨_, _, _, rfl⟩
  unfold takeTextK
  rw [hp] at hle hlt ⊢
  simp only at hle hlt ⊢
  by_cases he : e = 0
  · subst he
    simp -implicitDefEqProofs
    by_cases h1 : 4096 < n
    · have h1' : (4096 : Int) < (n : Int) := by omega
      simp -implicitDefEqProofs [h1, h1']
      refine ACall.eq (c_textNone 4) ?_
      simp -implicitDefEqProofs
    · have h1' : ¬ (4096 : Int) < (n : Int) := by omega
      have hw : IntKind.i64.wrap ((b.length : Int) - (nx : Int)) = ((b.length - nx : Nat) : Int) := by rw [wrap_i64 (by omega) (by omega)]; omega
      have hw2 : IntKind.u64.wrap ((b.length - nx : Nat) : Int) = ((b.length - nx : Nat) : Int) := wrap_u64 (by omega) (by omega)
      by_cases h2 : b.length - nx < n
      · have h2' : ((b.length - nx : Nat) : Int) < (n : Int) := by omega
        simp -implicitDefEqProofs [h1, h1', hw, hw2, h2, h2']
        refine ACall.eq (c_textNone 4) ?_
        simp -implicitDefEqProofs
      · have h2' : ¬ ((b.length - nx : Nat) : Int) < (n : Int) := by omega
        have h3 : (nx : Int) ≤ (b.length : Int) := by omega
        have h4 : (n : Int) ≤ ((b.drop nx).length : Int) := by simp; omega
        have hw3 : IntKind.i64.wrap (n : Int) = (n : Int) := wrap_i64 (by omega) (by omega)
        have hw4 : IntKind.i64.wrap ((nx : Int) + (n : Int)) = (nx : Int) + (n : Int) := wrap_i64 (by omega) (by omega)
        have h5 : n ≤ b.length - nx := by omega
        have h6 := szs_drop (szs_u8s b) nx
        have h7 : abytes (List.take n (List.drop nx (u8s b))) = some ((b.drop nx).take n) := by rw [← List.map_drop, ← List.map_take]; exact abytes_u8s _
        simp -implicitDefEqProofs [h1, h1', hw, hw2, h2, h2', hle, h3, szs_u8s b, hw3, hw4, h5, h6, h7, aconv]
  · have he' : ¬ (e : Int) = 0 := by omega
    simp -implicitDefEqProofs [he, he']
    refine ACall.eq (c_textNone e) ?_
    simp -implicitDefEqProofs
def zig (n : Int) : Nat := if 0 ≤ n then (2 * n).toNat else (-2 * n - 1).toNat
def unzig (x : Nat) : Int := if x % 2 = 0 then ((x / 2 : Nat) : Int) else -1 - ((x / 2 : Nat) : Int)
theorem unzig_zig (n : Int) : unzig (zig n) = n := by
  unfold zig unzig
  split <;> split <;> omega
theorem zig_lt {n : Int} (h1 : -9223372036854775808 ≤ n) (h2 : n ≤ 9223372036854775807) : zig n < 18446744073709551616 := by
  unfold zig
  split <;> omega
theorem xor_ones (a : Nat) (h : a < 2 ^ 64) : a ^^^ (2 ^ 64 - 1) = 2 ^ 64 - 1 - a := by
  apply Nat.eq_of_testBit_eq
  intro i
  rw [Nat.testBit_xor, Nat.testBit_two_pow_sub_one, show 2 ^ 64 - 1 - a = 2 ^ 64 - (a + 1) by omega, Nat.testBit_two_pow_sub_succ h]
  by_cases hi : i < 64
  · simp [hi]
  · have : a.testBit i = false := Nat.testBit_lt_two_pow (Nat.lt_of_lt_of_le h (Nat.pow_le_pow_right (by omega) (by omega)))
    simp [hi, this]
theorem zig_bits {n : Int} (h1 : -9223372036854775808 ≤ n) (h2 : n ≤ 9223372036854775807) : bits .xor .u64 (IntKind.u64.wrap (IntKind.u64.wrap n * 2)) (IntKind.u64.wrap (n.fdiv 9223372036854775808)) = (zig n : Int) := by
  have w : ∀ i : Int, IntKind.u64.wrap i = i % 18446744073709551616 := fun i => by simp [IntKind.wrap, IntKind.bits, IntKind.signed]
  rw [w, w, w]
  unfold zig
  by_cases h : 0 ≤ n
  · rw [if_pos h]
    have e1 : n.fdiv 9223372036854775808 = 0 := by rw [Int.fdiv_eq_ediv_of_nonneg _ (by omega)]; omega
    rw [e1]
    have e2 : n % 18446744073709551616 * 2 % 18446744073709551616 = (((2 * n).toNat : Nat) : Int) := by omega
    rw [e2]
    have := u64_xor_nat (2 * n).toNat 0 (by omega) (by omega)
    rw [Nat.xor_zero] at this
    exact this
  · rw [if_neg h]
    have e1 : n.fdiv 9223372036854775808 = -1 := by rw [Int.fdiv_eq_ediv_of_nonneg _ (by omega)]; omega
    rw [e1]
    have e2 : n % 18446744073709551616 * 2 % 18446744073709551616 = (((2 * n + 18446744073709551616).toNat : Nat) : Int) := by omega
    have e3 : (-1 : Int) % 18446744073709551616 = ((2 ^ 64 - 1 : Nat) : Int) := by decide
    rw [e2, e3, u64_xor_nat _ _ (by omega) (by decide), xor_ones _ (by omega)]
    omega
theorem c_putInt (n : Int) (h1 : -9223372036854775808 ≤ n) (h2 : n ≤ 9223372036854775807) : AOk Tryz.prog 98 [.sc (.int .i64 n)] H (.sl (u8s (putB (zig n))) .no) H := by
  have hz := zig_bits h1 h2
  refine ACalls.into Tryz.func98 rfl Tryz.ntmps98 Tryz.results98 (by simp) ?_
  simp -implicitDefEqProofs [hz]
  refine ACall.eq (c_packPut (zig n) (zig_lt h1 h2)) ?_
  simp -implicitDefEqProofs
theorem xor_i64 (a : Nat) (h : a < 9223372036854775808) : bits .xor .i64 (a : Int) 0 = (a : Int) ∧ bits .xor .i64 (a : Int) (-1) = -1 - (a : Int) := by
  have ho : (BitVec.ofInt 64 (a : Int)).toNat = a := ofInt_u64 a (by omega)
  constructor
  · have e : bits .xor .i64 (a : Int) 0 = IntKind.i64.wrap ((BitVec.ofInt 64 (a : Int) ^^^ BitVec.ofInt 64 0).toNat : Int) := rfl
    rw [e, BitVec.toNat_xor, ho, show (BitVec.ofInt 64 0).toNat = 0 from rfl, Nat.xor_zero]
    exact wrap_i64 (by omega) (by omega)
  · have e : bits .xor .i64 (a : Int) (-1) = IntKind.i64.wrap ((BitVec.ofInt 64 (a : Int) ^^^ BitVec.ofInt 64 (-1)).toNat : Int) := rfl
    rw [e, BitVec.toNat_xor, ho, show (BitVec.ofInt 64 (-1)).toNat = 2 ^ 64 - 1 from by decide, xor_ones a (by omega)]
    rw [IntKind.wrap_i64]
    omega
theorem unzig_bits (x : Nat) (h : x < 18446744073709551616) : bits .xor .i64 ((x / 2 : Nat) : Int) (-((x % 2 : Nat) : Int)) = unzig x := by
  obtain ⟨h1, h2⟩ := xor_i64 (x / 2) (by omega)
  unfold unzig
  by_cases hx : x % 2 = 0
  · rw [if_pos hx, hx]; exact h1
  · rw [if_neg hx, show x % 2 = 1 by omega]; exact h2
abbrev tiAV (p : Nat × Nat × Nat) : AV := .tup [.sc (.int .i64 (unzig p.1)), .sc (.int .i64 (p.2.1 : Nat)), .sc (.int .i64 (p.2.2 : Nat))]
theorem c_takeInt (b : List UInt8) (t : Tok) (a : Nat) (ha : a ≤ b.length) (hb : b.length ≤ 1000000) : AOk Tryz.prog 69 [.sl (u8s b) t, .sc (.int .i64 (a : Int))] H (tiAV (takeK b a)) H := by
  have hlt := takeK_lt b a
  refine ACalls.into Tryz.func69 rfl Tryz.ntmps69 Tryz.results69 (by simp) ?_
  simp -implicitDefEqProofs
  refine ACall.eq (c_packTake b t a ha hb) ?_
  obtain ⟨n, nx, e, hp⟩ : ∃ n nx e, takeK b a = (n, nx, e) := ⟨_, _, _, rfl⟩
  rw [hp] at hlt ⊢
  simp only at hlt ⊢
  have hz := unzig_bits n hlt
  have e1 : (n : Int).fdiv 2 = ((n / 2 : Nat) : Int) := by rw [Int.fdiv_eq_ediv_of_nonneg _ (by omega)]; omega
  have e2 : bits .and .u64 (n : Int) 1 = ((n % 2 : Nat) : Int) := by
    have := u64_and_nat n 1 hlt (by omega)
    rw [nat_mask1] at this
    exact this
  have e3 : IntKind.i64.wrap ((n : Int) / 2) = ((n / 2 : Nat) : Int) := by rw [wrap_i64 (by omega) (by omega)]; omega
  have e4 : IntKind.i64.wrap ((n : Int) % 2) = ((n % 2 : Nat) : Int) := by rw [wrap_i64 (by omega) (by omega)]; omega
  have e5 : IntKind.i64.wrap (-((n % 2 : Nat) : Int)) = -((n % 2 : Nat) : Int) := wrap_i64 (by omega) (by omega)
  simp -implicitDefEqProofs [e1, e2]
  rw [e3, e4, e5, hz]
end Go.Proofs.YtghlkjkdejebnaaGreatDoor
namespace Go.Proofs.YtghlkjkdejebnaaGreatDoor
open Rg Go
variable {H : Heap}
structure Ex where
  a : Fld
  b : Fld
  c : Fld
  d : Fld
  e : Fld
deriving DecidableEq
abbrev exC (x : Ex) : List AV := [.sc (.int .u64 x.a.bits), .sc (.bool x.a.star), .sc (.int .u64 x.b.bits), .sc (.bool x.b.star), .sc (.int .u64 x.c.bits), .sc (.bool x.c.star), .sc (.int .u64 x.d.bits), .sc (.bool x.d.star), .sc (.int .u64 x.e.bits), .sc (.bool x.e.star)]
abbrev exAV (x : Ex) : AV := .agg (exC x)
def Ex.get (x : Ex) : Nat → Fld
  | 0 => x.a
  | 1 => x.b
  | 2 => x.c
  | 3 => x.d
  | _ => x.e
structure Ex.ok (x : Ex) : Prop where
  a : x.a.bits < 18446744073709551616
  b : x.b.bits < 18446744073709551616
  c : x.c.bits < 18446744073709551616
  d : x.d.bits < 18446744073709551616
  e : x.e.bits < 18446744073709551616
def f0 : Fld := ⟨0, false⟩
def ex0 : Ex := ⟨f0, f0, f0, f0, f0⟩
theorem lt_succ_all {P : Nat → Prop} {k : Nat} (h : ∀ i, i < k → P i) (hk : P k) : ∀ i, i < k + 1 → P i := fun i hi => by
  by_cases e : i = k
  · subst e; exact hk
  · exact h i (by omega)
end Go.Proofs.YtghlkjkdejebnaaGreatDoor
namespace Go.Proofs.YtghlkjkdejebnaaGreatDoor
open Rg Go
end Go.Proofs.YtghlkjkdejebnaaGreatDoor
namespace Go.Proofs.YtghlkjkdejebnaaGreatDoor
open Rg Go
section
variable {x : Ex} {t n mm h m D : Nat}
end
section
variable {x : Ex} {t n mm h m D : Nat}
end
end Go.Proofs.YtghlkjkdejebnaaGreatDoor
namespace Go.Proofs.YtghlkjkdejebnaaGreatDoor
open Rg Go
variable {H : Heap}
end Go.Proofs.YtghlkjkdejebnaaGreatDoor
namespace Go.Proofs.YtghlkjkdejebnaaGreatDoor
open Rg Go
variable {H : Heap}
end Go.Proofs.YtghlkjkdejebnaaGreatDoor
namespace Go.Proofs.YtghlkjkdejebnaaGreatDoor
open Rg Go
variable {H : Heap}
end Go.Proofs.YtghlkjkdejebnaaGreatDoor
namespace Go.Proofs.YtghlkjkdejebnaaGreatDoor
open Rg Go
variable {H : Heap}
end Go.Proofs.YtghlkjkdejebnaaGreatDoor
namespace Go.Proofs.YtghlkjkdejebnaaGreatDoor
open Rg Go
section
variable {b : Nat} (hb : b < 18446744073709551616)
include hb
end
end Go.Proofs.YtghlkjkdejebnaaGreatDoor
namespace Go.Proofs.YtghlkjkdejebnaaGreatDoor
open Rg Go
end Go.Proofs.YtghlkjkdejebnaaGreatDoor
namespace Go.Proofs.YtghlkjkdejebnaaGreatDoor
open Rg Go
end Go.Proofs.YtghlkjkdejebnaaGreatDoor
namespace Go.Proofs.YtghlkjkdejebnaaGreatDoor
open Rg Go
variable {H : Heap}
end Go.Proofs.YtghlkjkdejebnaaGreatDoor
namespace Go.Proofs.YtghlkjkdejebnaaGreatDoor
open Rg Go
variable {H : Heap}
theorem sp_len (c : UInt8) : ∀ s : List UInt8, ∀ x ∈ sp c s, x.length ≤ s.length
  | [], x, h => by simp [sp] at h; subst h; exact Nat.le_refl _
  | y :: s, x, h => by
    have ih := sp_len c s
    unfold sp at h
    split at h
    · rcases List.mem_cons.1 h with rfl | h
      · simp
      · have := ih x h; simp; omega
    · split at h
      · rename_i he; exact absurd he (sp_ne c s)
      · rename_i a t he
        rw [he] at ih
        rcases List.mem_cons.1 h with rfl | h
        · have := ih a (by simp); simp; omega
        · have := ih x (by simp [h]); simp; omega
end Go.Proofs.YtghlkjkdejebnaaGreatDoor
namespace Go.Proofs.YtghlkjkdejebnaaGreatDoor
open Rg Go
variable {H : Heap}
end Go.Proofs.YtghlkjkdejebnaaGreatDoor
namespace Go.Proofs.YtghlkjkdejebnaaGreatDoor
open Rg Go
variable {H : Heap}
end Go.Proofs.YtghlkjkdejebnaaGreatDoor
namespace Go.Proofs.YtghlkjkdejebnaaGreatDoor
open Rg Go
variable {H : Heap}
end Go.Proofs.YtghlkjkdejebnaaGreatDoor
namespace Go.Proofs.YtghlkjkdejebnaaGreatDoor
open Rg Go
variable {H : Heap}
def nHourly : List UInt8 := [64, 104, 111, 117, 114, 108, 121]
def nDaily : List UInt8 := [64, 100, 97, 105, 108, 121]
def nMidnight : List UInt8 := [64, 109, 105, 100, 110, 105, 103, 104, 116]
def nWeekly : List UInt8 := [64, 119, 101, 101, 107, 108, 121]
def nMonthly : List UInt8 := [64, 109, 111, 110, 116, 104, 108, 121]
def nYearly : List UInt8 := [64, 121, 101, 97, 114, 108, 121]
def nAnnually : List UInt8 := [64, 97, 110, 110, 117, 97, 108, 108, 121]
def xHourly : List UInt8 := [48, 32, 42, 32, 42, 32, 42, 32, 42]
def xDaily : List UInt8 := [48, 32, 48, 32, 42, 32, 42, 32, 42]
def xWeekly : List UInt8 := [48, 32, 48, 32, 42, 32, 42, 32, 48]
def xMonthly : List UInt8 := [48, 32, 48, 32, 49, 32, 42, 32, 42]
def xYearly : List UInt8 := [48, 32, 48, 32, 49, 32, 49, 32, 42]
def namedL (s : List UInt8) : List UInt8 :=
  if s = nHourly then xHourly else if s = nDaily then xDaily else if s = nMidnight then xDaily else if s = nWeekly then xWeekly else if s = nMonthly then xMonthly else if s = nYearly then xYearly else if s = nAnnually then xYearly else []
def Ex.set (x : Ex) (j : Nat) (f : Fld) : Ex :=
  match j with
  | 0 => { x with a := f }
  | 1 => { x with b := f }
  | 2 => { x with c := f }
  | 3 => { x with d := f }
  | _ => { x with e := f }
def goX : List (List UInt8) → Nat → Ex → Ex × Int
  | [], _, x => (x, 0)
  | p :: r, j, x => if (parseK (j : Int) p).2 ≠ 0 then (ex0, (parseK (j : Int) p).2) else goX r (j + 1) (x.set j (parseK (j : Int) p).1)
def cronB (s : List UInt8) : Ex × Int := if (sp 32 s).length ≠ 5 then (ex0, 70) else if [] ∈ sp 32 s then (ex0, 70) else goX (sp 32 s) 0 ex0
def cronK (s : List UInt8) : Ex × Int := if 400 < s.length then (ex0, 3) else cronB (if Lib.hasPrefix s [64] = true then namedL s else s)
theorem beq_dec (s t : List UInt8) : (s == t) = decide (s = t) := by
  rw [Bool.eq_iff_iff]; simp
theorem c_named (s : List UInt8) : AOk Tryz.prog 134 [str s] H (str (namedL s)) H := by
  refine ACalls.into Tryz.func134 rfl Tryz.ntmps134 Tryz.results134 (by simp) ?_
  unfold namedL
  by_cases h1 : s = nHourly
  · rw [if_pos h1]; simp -implicitDefEqProofs [h1, nHourly, xHourly]
  · rw [if_neg h1]
    have e1 : (s == [64, 104, 111, 117, 114, 108, 121]) = false := by rw [beq_dec]; simpa [nHourly] using h1
    by_cases h2 : s = nDaily
    · rw [if_pos h2]; simp -implicitDefEqProofs [h2, nDaily, xDaily]
    · rw [if_neg h2]
      have e2 : (s == [64, 100, 97, 105, 108, 121]) = false := by rw [beq_dec]; simpa [nDaily] using h2
      by_cases h3 : s = nMidnight
      · rw [if_pos h3]; simp -implicitDefEqProofs [h3, nMidnight, xDaily]
      · rw [if_neg h3]
        have e3 : (s == [64, 109, 105, 100, 110, 105, 103, 104, 116]) = false := by rw [beq_dec]; simpa [nMidnight] using h3
        by_cases h4 : s = nWeekly
        · rw [if_pos h4]; simp -implicitDefEqProofs [h4, nWeekly, xWeekly]
        · rw [if_neg h4]
          have e4 : (s == [64, 119, 101, 101, 107, 108, 121]) = false := by rw [beq_dec]; simpa [nWeekly] using h4
          by_cases h5 : s = nMonthly
          · rw [if_pos h5]; simp -implicitDefEqProofs [h5, nMonthly, xMonthly]
          · rw [if_neg h5]
            have e5 : (s == [64, 109, 111, 110, 116, 104, 108, 121]) = false := by rw [beq_dec]; simpa [nMonthly] using h5
            by_cases h6 : s = nYearly
            · rw [if_pos h6]; simp -implicitDefEqProofs [h6, nYearly, xYearly]
            · rw [if_neg h6]
              have e6 : (s == [64, 121, 101, 97, 114, 108, 121]) = false := by rw [beq_dec]; simpa [nYearly] using h6
              by_cases h7 : s = nAnnually
              · rw [if_pos h7]; simp -implicitDefEqProofs [h7, nAnnually, xYearly]
              · rw [if_neg h7]
                have e7 : (s == [64, 97, 110, 110, 117, 97, 108, 108, 121]) = false := by rw [beq_dec]; simpa [nAnnually] using h7
                simp -implicitDefEqProofs [e1, e2, e3, e4, e5, e6, e7]
theorem namedL_len (s : List UInt8) : (namedL s).length ≤ 9 := by
  unfold namedL
  (repeat' split) <;> decide
set_option maxHeartbeats 1000000 in
theorem c_cronParse (hG : Glob H) (s : List UInt8) (_ : s.length ≤ 9223372036854775807) : AOk Tryz.prog 107 [str s] H (.tup [exAV (cronK s).1, .sc (.int .i64 (cronK s).2)]) H := by
  unfold cronK
  refine ACalls.into Tryz.func107 rfl Tryz.ntmps107 Tryz.results107 (by simp) ?_
  simp -implicitDefEqProofs
  refine AAlloc.intro fun b2 h2 => ?_
  have hW : ∀ o, HWk H (H.set b2 o) := fun o => HWk.new h2 (HWk.refl _)
  have hW2 : ∀ o o', HWk H ((H.set b2 o).set b2 o') := fun o o' => by rw [Heap.set_set]; exact hW _
  by_cases hl : 400 < s.length
  · have hl' : (400 : Int) < s.length := by omega
    simp -implicitDefEqProofs [hl, hl', ex0, f0]
    exact hW _
  · have hl' : ¬ (400 : Int) < s.length := by omega
    rw [if_neg hl]
    simp -implicitDefEqProofs [hl']
    generalize hK : Heap.set _ b2 _ = K0
    have k2 : K0 b2 = some (.cells (exC ex0) 144) := by rw [← hK]; simp [Heap.set, ex0, f0]
    have kG : Glob K0 := by rw [← hK]; exact hG.new h2
    have kW : HWk H K0 := by rw [← hK]; exact hW _
    clear hK hW hW2
    refine ACall.eq (c_hasPrefix s [64]) ?_
    have hlen : (if Lib.hasPrefix s [64] = true then namedL s else s).length ≤ 1000000 := by
      split
      · have := namedL_len s; omega
      · omega
    obtain ⟨z, hz⟩ : ∃ z, (if Lib.hasPrefix s [64] = true then namedL s else s) = z := ⟨_, rfl⟩
    rw [hz] at hlen ⊢
    simp -implicitDefEqProofs
    refine ABr.join (fun ρ K => K = K0 ∧ ρ 0 = str z ∧ ρ 2 = .sc (.pointer (some ⟨b2, 0, none⟩))) (fun k' hk' => ?_) ?_
    · by_cases hp : Lib.hasPrefix s [64] = true
      · simp -implicitDefEqProofs [hp]
        refine ACall.eq (c_named s) ?_
        simp -implicitDefEqProofs
        exact hk' _ _ ⟨rfl, by rw [← hz, if_pos hp]; simp, by simp⟩
      · have hp' : Lib.hasPrefix s [64] = false := by simpa using hp
        simp -implicitDefEqProofs [hp']
        exact hk' _ _ ⟨rfl, by rw [← hz, if_neg hp]; simp, by simp⟩
    · rintro ρ K ⟨rfl, r0, r2⟩
      have hm : ∀ x ∈ sp 32 z, x.length ≤ 1000000 := fun x hx => Nat.le_trans (sp_len _ _ x hx) hlen
      have hsplit := c_split (H := K) kG z [32] (by omega) (by decide)
      rw [split_sp] at hsplit
      simp -implicitDefEqProofs [r0]
      refine ACall.eq hsplit ?_
      unfold cronB
      generalize sp 32 z = L at *
      by_cases h5 : L.length = 5
      · have h5' : (L.length : Int) = 5 := by omega
        rw [if_neg (by omega)]
        simp -implicitDefEqProofs [h5]
        refine AGo.joinLoop (fun ρ K2 => K2 = K ∧ ρ 2 = .sc (.pointer (some ⟨b2, 0, none⟩)) ∧ ρ 4 = .sl (strL L) .no ∧ ∀ i, i < 5 → L.getD i [] ≠ []) (fun k' hk' => ?_) ?_
        · refine AGo.rounds (fun m ρ K2 => ∃ j : Nat, j ≤ 5 ∧ m = 5 - j ∧ ρ 2 = .sc (.pointer (some ⟨b2, 0, none⟩)) ∧ ρ 4 = .sl (strL L) .no ∧ ρ 26 = .sl (strL L) .no ∧ ρ 27 = .sc (.int .i64 5) ∧ ρ 28 = .sc (.int .i64 j) ∧ (∀ i, i < j → L.getD i [] ≠ []) ∧ K2 = K) ?_ (m := 5) (HLe.refl _)
            ⟨0, by omega, rfl, by simp [r2], by simp, by simp, by simp, by simp, fun i hi => by omega, rfl⟩
          rintro m ρ K2 ih ⟨j, hj, rfl, r2, r4, r26, r27, r28, hne, rfl⟩
          by_cases hlt : j < 5
          · have hlt' : (j : Int) < 5 := by omega
            have hlL : j < L.length := by omega
            have hgd : L.getD j [] = L[j] := by rw [List.getD_eq_getElem?_getD, List.getElem?_eq_getElem hlL]; rfl
            have hwj : IntKind.i64.wrap ((j : Int) + 1) = ((j + 1 : Nat) : Int) := by rw [wrap_i64 (by omega) (by omega)]; push_cast; rfl
            obtain ⟨q, hq⟩ : ∃ q, L[j] = q := ⟨_, rfl⟩
            by_cases hz : q = []
            · have hin : [] ∈ L := by rw [← hz, ← hq]; exact List.getElem_mem hlL
              rw [if_pos hin]
              simp -implicitDefEqProofs [r26, r27, r28, hlt', hlL, hq, hz, r2, k2, ex0, f0]
              exact HWk.new h2 kW
            · have hzb : (q == []) = false := by simpa using hz
              simp -implicitDefEqProofs [r26, r27, r28, hlt', hlL, hq, hzb, hwj]
              exact AGo.again ih (m' := 5 - (j + 1)) (by omega) (HLe.refl _) ⟨j + 1, by omega, rfl, by simp [r2], by simp [r4], by simp [r26], by simp [r27], by simp, lt_succ_all hne (by rw [hgd, hq]; exact hz), rfl⟩
          · obtain rfl : j = 5 := by omega
            simp -implicitDefEqProofs [r27, r28]
            exact hk' _ _ ⟨rfl, by simp [r2], by simp [r4], hne⟩
        · rintro ρ K2 ⟨rfl, r2, r4, hne⟩
          have hnin : [] ∉ L := fun h => by
            obtain ⟨i, hi, he⟩ := List.getElem_of_mem h
            refine hne i (by omega) ?_
            rw [List.getD_eq_getElem?_getD, List.getElem?_eq_getElem hi, he]; rfl
          rw [if_neg hnin]
          simp -implicitDefEqProofs
          refine AAlloc.intro fun b7 h7 => ?_
          have n72 : b7 ≠ b2 := by intro e; subst e; rw [k2] at h7; cases h7
          have n27 := n72.symm
          have e7 : H b7 = none := kW.none h7
          simp -implicitDefEqProofs [r4, h5]
          generalize hK : Heap.set _ b7 _ = K3
          have k7 : K3 b7 = some (.cells (exC ex0) 144) := by rw [← hK]; simp [Heap.set, ex0, f0]
          have k2' : K3 b2 = some (.cells (exC ex0) 144) := by rw [← hK]; simp [Heap.set, n27, k2]
          have kG' : Glob K3 := by rw [← hK]; exact kG.new h7
          have kW' : HWk H K3 := by rw [← hK]; exact HWk.new e7 kW
          clear hK h7 k2 kG kW
          generalize hres : goX L 0 ex0 = res
          refine AGo.rounds (fun m ρ K2 => ∃ (j : Nat) (x : Ex), j ≤ 5 ∧ m = 5 - j ∧ ρ 2 = .sc (.pointer (some ⟨b2, 0, none⟩)) ∧ ρ 7 = .sc (.pointer (some ⟨b7, 0, none⟩)) ∧ ρ 36 = .sl (strL L) .no ∧ ρ 37 = .sc (.int .i64 5) ∧ ρ 38 = .sc (.int .i64 j) ∧ goX (L.drop j) j x = res ∧
            K2 b2 = some (.cells (exC ex0) 144) ∧ K2 b7 = some (.cells (exC x) 144) ∧ Glob K2 ∧ HWk H K2) ?_ (m := 5) (HLe.refl _)
            ⟨0, ex0, by omega, rfl, by simp [r2], by simp, by simp, by simp, by simp, by simpa using hres, k2', k7, kG', kW'⟩
          clear k7 k2' kG' kW'
          rintro m ρ K2 ih ⟨j, x, hj, rfl, r2, r7, r36, r37, r38, hgo, k2, k7, kG, kW⟩
          have hc : j = 0 ∨ j = 1 ∨ j = 2 ∨ j = 3 ∨ j = 4 ∨ j = 5 := by omega
          rcases hc with rfl | rfl | rfl | rfl | rfl | rfl
          · have hlj : 0 < L.length := by omega
            have hdrop : L.drop 0 = L[0] :: L.drop (0 + 1) := List.drop_eq_getElem_cons hlj
            simp -implicitDefEqProofs [r36, r37, r38, hlj]
            refine ACall.eq (c_parse kG (0 : Nat) L[0] (hm _ (List.getElem_mem (by omega)))) ?_
            simp -implicitDefEqProofs [fAV]
            refine AAlloc.intro fun b10 h10 => ?_
            have n107 : b10 ≠ b7 := by intro e; subst e; rw [k7] at h10; cases h10
            have n102 : b10 ≠ b2 := by intro e; subst e; rw [k2] at h10; cases h10
            have n710 := n107.symm
            have n210 := n102.symm
            have e10 : H b10 = none := kW.none h10
            rw [hdrop, goX] at hgo
            generalize parseK (0 : Nat) L[0] = pr at *
            obtain ⟨f, er⟩ := pr
            simp only at hgo ⊢
            by_cases he : er = 0
            · rw [if_neg (by simp [he])] at hgo
              simp -implicitDefEqProofs [n710, he, r7, r38, k7, wrap_i64]
              refine AGo.again ih (m' := 4) (by omega) (HLe.refl _) ⟨1, x.set 0 f, by omega, rfl, by simp [r2], by simp [r7], by simp [r36], by simp [r37], by simp, hgo, ?_, ?_, ?_, ?_⟩
              · simp [Heap.set, n210, n72.symm, k2]
              · simp [Heap.set, Ex.set]
              · exact kG.mono (fun c us e => by have c10 : c ≠ b10 := (by rintro rfl; rw [h10] at e; cases e); have c7 : c ≠ b7 := (by rintro rfl; rw [k7] at e; cases e); simp [Heap.set, c10, c7, e])
              · repeat (first | exact kW | refine HWk.new (by assumption) ?_)
            · rw [if_pos he] at hgo
              subst hgo
              simp -implicitDefEqProofs [n210, he, r2, k2, ex0, f0]
              repeat (first | exact kW | refine HWk.new (by assumption) ?_)
          · have hlj : 1 < L.length := by omega
            have hdrop : L.drop 1 = L[1] :: L.drop (1 + 1) := List.drop_eq_getElem_cons hlj
            simp -implicitDefEqProofs [r36, r37, r38, hlj]
            refine ACall.eq (c_parse kG (1 : Nat) L[1] (hm _ (List.getElem_mem (by omega)))) ?_
            simp -implicitDefEqProofs [fAV]
            refine AAlloc.intro fun b10 h10 => ?_
            have n107 : b10 ≠ b7 := by intro e; subst e; rw [k7] at h10; cases h10
            have n102 : b10 ≠ b2 := by intro e; subst e; rw [k2] at h10; cases h10
            have n710 := n107.symm
            have n210 := n102.symm
            have e10 : H b10 = none := kW.none h10
            rw [hdrop, goX] at hgo
            generalize parseK (1 : Nat) L[1] = pr at *
            obtain ⟨f, er⟩ := pr
            simp only at hgo ⊢
            by_cases he : er = 0
            · rw [if_neg (by simp [he])] at hgo
              simp -implicitDefEqProofs [n710, he, r7, r38, k7, wrap_i64]
              refine AGo.again ih (m' := 3) (by omega) (HLe.refl _) ⟨2, x.set 1 f, by omega, rfl, by simp [r2], by simp [r7], by simp [r36], by simp [r37], by simp, hgo, ?_, ?_, ?_, ?_⟩
              · simp [Heap.set, n210, n72.symm, k2]
              · simp [Heap.set, Ex.set]
              · exact kG.mono (fun c us e => by have c10 : c ≠ b10 := (by rintro rfl; rw [h10] at e; cases e); have c7 : c ≠ b7 := (by rintro rfl; rw [k7] at e; cases e); simp [Heap.set, c10, c7, e])
              · repeat (first | exact kW | refine HWk.new (by assumption) ?_)
            · rw [if_pos he] at hgo
              subst hgo
              simp -implicitDefEqProofs [n210, he, r2, k2, ex0, f0]
              repeat (first | exact kW | refine HWk.new (by assumption) ?_)
          · have hlj : 2 < L.length := by omega
            have hdrop : L.drop 2 = L[2] :: L.drop (2 + 1) := List.drop_eq_getElem_cons hlj
            simp -implicitDefEqProofs [r36, r37, r38, hlj]
            refine ACall.eq (c_parse kG (2 : Nat) L[2] (hm _ (List.getElem_mem (by omega)))) ?_
            simp -implicitDefEqProofs [fAV]
            refine AAlloc.intro fun b10 h10 => ?_
            have n107 : b10 ≠ b7 := by intro e; subst e; rw [k7] at h10; cases h10
            have n102 : b10 ≠ b2 := by intro e; subst e; rw [k2] at h10; cases h10
            have n710 := n107.symm
            have n210 := n102.symm
            have e10 : H b10 = none := kW.none h10
            rw [hdrop, goX] at hgo
            generalize parseK (2 : Nat) L[2] = pr at *
            obtain ⟨f, er⟩ := pr
            simp only at hgo ⊢
            by_cases he : er = 0
            · rw [if_neg (by simp [he])] at hgo
              simp -implicitDefEqProofs [n710, he, r7, r38, k7, wrap_i64]
              refine AGo.again ih (m' := 2) (by omega) (HLe.refl _) ⟨3, x.set 2 f, by omega, rfl, by simp [r2], by simp [r7], by simp [r36], by simp [r37], by simp, hgo, ?_, ?_, ?_, ?_⟩
              · simp [Heap.set, n210, n72.symm, k2]
              · simp [Heap.set, Ex.set]
              · exact kG.mono (fun c us e => by have c10 : c ≠ b10 := (by rintro rfl; rw [h10] at e; cases e); have c7 : c ≠ b7 := (by rintro rfl; rw [k7] at e; cases e); simp [Heap.set, c10, c7, e])
              · repeat (first | exact kW | refine HWk.new (by assumption) ?_)
            · rw [if_pos he] at hgo
              subst hgo
              simp -implicitDefEqProofs [n210, he, r2, k2, ex0, f0]
              repeat (first | exact kW | refine HWk.new (by assumption) ?_)
          · have hlj : 3 < L.length := by omega
            have hdrop : L.drop 3 = L[3] :: L.drop (3 + 1) := List.drop_eq_getElem_cons hlj
            simp -implicitDefEqProofs [r36, r37, r38, hlj]
            refine ACall.eq (c_parse kG (3 : Nat) L[3] (hm _ (List.getElem_mem (by omega)))) ?_
            simp -implicitDefEqProofs [fAV]
            refine AAlloc.intro fun b10 h10 => ?_
            have n107 : b10 ≠ b7 := by intro e; subst e; rw [k7] at h10; cases h10
            have n102 : b10 ≠ b2 := by intro e; subst e; rw [k2] at h10; cases h10
            have n710 := n107.symm
            have n210 := n102.symm
            have e10 : H b10 = none := kW.none h10
            rw [hdrop, goX] at hgo
            generalize parseK (3 : Nat) L[3] = pr at *
            obtain ⟨f, er⟩ := pr
            simp only at hgo ⊢
            by_cases he : er = 0
            · rw [if_neg (by simp [he])] at hgo
              simp -implicitDefEqProofs [n710, he, r7, r38, k7, wrap_i64]
              refine AGo.again ih (m' := 1) (by omega) (HLe.refl _) ⟨4, x.set 3 f, by omega, rfl, by simp [r2], by simp [r7], by simp [r36], by simp [r37], by simp, hgo, ?_, ?_, ?_, ?_⟩
              · simp [Heap.set, n210, n72.symm, k2]
              · simp [Heap.set, Ex.set]
              · exact kG.mono (fun c us e => by have c10 : c ≠ b10 := (by rintro rfl; rw [h10] at e; cases e); have c7 : c ≠ b7 := (by rintro rfl; rw [k7] at e; cases e); simp [Heap.set, c10, c7, e])
              · repeat (first | exact kW | refine HWk.new (by assumption) ?_)
            · rw [if_pos he] at hgo
              subst hgo
              simp -implicitDefEqProofs [n210, he, r2, k2, ex0, f0]
              repeat (first | exact kW | refine HWk.new (by assumption) ?_)
          · have hlj : 4 < L.length := by omega
            have hdrop : L.drop 4 = L[4] :: L.drop (4 + 1) := List.drop_eq_getElem_cons hlj
            simp -implicitDefEqProofs [r36, r37, r38, hlj]
            refine ACall.eq (c_parse kG (4 : Nat) L[4] (hm _ (List.getElem_mem (by omega)))) ?_
            simp -implicitDefEqProofs [fAV]
            refine AAlloc.intro fun b10 h10 => ?_
            have n107 : b10 ≠ b7 := by intro e; subst e; rw [k7] at h10; cases h10
            have n102 : b10 ≠ b2 := by intro e; subst e; rw [k2] at h10; cases h10
            have n710 := n107.symm
            have n210 := n102.symm
            have e10 : H b10 = none := kW.none h10
            rw [hdrop, goX] at hgo
            generalize parseK (4 : Nat) L[4] = pr at *
            obtain ⟨f, er⟩ := pr
            simp only at hgo ⊢
            by_cases he : er = 0
            · rw [if_neg (by simp [he])] at hgo
              simp -implicitDefEqProofs [n710, he, r7, r38, k7, wrap_i64]
              refine AGo.again ih (m' := 0) (by omega) (HLe.refl _) ⟨5, x.set 4 f, by omega, rfl, by simp [r2], by simp [r7], by simp [r36], by simp [r37], by simp, hgo, ?_, ?_, ?_, ?_⟩
              · simp [Heap.set, n210, n72.symm, k2]
              · simp [Heap.set, Ex.set]
              · exact kG.mono (fun c us e => by have c10 : c ≠ b10 := (by rintro rfl; rw [h10] at e; cases e); have c7 : c ≠ b7 := (by rintro rfl; rw [k7] at e; cases e); simp [Heap.set, c10, c7, e])
              · repeat (first | exact kW | refine HWk.new (by assumption) ?_)
            · rw [if_pos he] at hgo
              subst hgo
              simp -implicitDefEqProofs [n210, he, r2, k2, ex0, f0]
              repeat (first | exact kW | refine HWk.new (by assumption) ?_)
          · rw [List.drop_eq_nil_of_le (by omega), goX] at hgo
            subst hgo
            simp -implicitDefEqProofs [r2, r7, r37, r38, k2, k7]
            exact HWk.new h2 kW
      · have h5' : ¬ (L.length : Int) = 5 := by omega
        rw [if_pos h5]
        simp -implicitDefEqProofs [h5', r2, k2, ex0, f0]
        exact HWk.new h2 kW
end Go.Proofs.YtghlkjkdejebnaaGreatDoor
namespace Go.Proofs.YtghlkjkdejebnaaGreatDoor
open Rg Go
variable {H : Heap}
end Go.Proofs.YtghlkjkdejebnaaGreatDoor
namespace Go.Proofs.YtghlkjkdejebnaaGreatDoor
open Rg Go
variable {H : Heap}
end Go.Proofs.YtghlkjkdejebnaaGreatDoor
namespace Go.Proofs.YtghlkjkdejebnaaGreatDoor
open Rg Go
variable {H : Heap}
end Go.Proofs.YtghlkjkdejebnaaGreatDoor
namespace Go.Proofs.YtghlkjkdejebnaaGreatDoor
open Rg Go
variable {H : Heap}
end Go.Proofs.YtghlkjkdejebnaaGreatDoor
namespace Go.Proofs.YtghlkjkdejebnaaGreatDoor
open Rg Go
variable {H : Heap}
end Go.Proofs.YtghlkjkdejebnaaGreatDoor
namespace Go.Proofs.YtghlkjkdejebnaaGreatDoor
open Rg Go
variable {H : Heap}
end Go.Proofs.YtghlkjkdejebnaaGreatDoor
namespace Go.Proofs.YtghlkjkdejebnaaGreatDoor
open Rg Go
variable {H : Heap}
structure Jb where
  id : Nat
  name : List UInt8
  ex : List UInt8
  pol : Int
  gr : Int
  lim : Int
  ret : Int
  tim : Int
  deps : List Nat
  pau : Bool
  ver : Nat
  seen : Int
abbrev jbC (j : Jb) (t : Tok) : List AV := [.sc (.int .u64 (j.id : Nat)), str j.name, str j.ex, .sc (.int .i64 j.pol), .sc (.int .i64 j.gr), .sc (.int .i64 j.lim), .sc (.int .i64 j.ret), .sc (.int .i64 j.tim), .sl (j.deps.map fun n : Nat => .sc (.int .u64 n)) t, .sc (.bool j.pau), .sc (.int .u64 (j.ver : Nat)), .sc (.int .i64 j.seen)]
abbrev jbAV (j : Jb) (t : Tok) : AV := .agg (jbC j t)
def badJ (j : Jb) : Bool := decide (j.pol < 1) || decide (3 < j.pol) || decide (j.gr < 0) || decide (604800 < j.gr) || decide (j.lim < 1) || decide (8 < j.lim) || decide (j.ret < 0) || decide (5 < j.ret) || decide (j.tim < 1) || decide (86400 < j.tim) || decide (j.seen < -1) || decide (13569465600 ≤ j.seen)
def mayJ (j : Jb) : Int :=
  if j.name.length < 1 then 140 else if 32 < j.name.length then 140 else if (cronK j.ex).2 ≠ 0 then (cronK j.ex).2 else if 8 < j.deps.length then 3 else if badJ j = true then 2 else 0
set_option maxHeartbeats 4000000 in
theorem c_jobMay (hG : Glob H) (j : Jb) (t : Tok) (hs : j.ex.length ≤ 9223372036854775807) : AOk Tryz.prog 58 [jbAV j t] H (.sc (.int .i64 (mayJ j))) H := by
  unfold mayJ
  refine ACalls.into Tryz.func58 rfl Tryz.ntmps58 Tryz.results58 (by simp) ?_
  simp -implicitDefEqProofs
  refine AAlloc.intro fun b1 h1 => ?_
  simp -implicitDefEqProofs
  generalize hK : Heap.set _ b1 _ = K1
  have k1 : K1 b1 = some (.cells (jbC j t) 25) := by rw [← hK]; simp [Heap.set]
  have kG : Glob K1 := by rw [← hK]; exact hG.new h1
  have kW : HWk H K1 := by rw [← hK]; exact HWk.new h1 (HWk.refl _)
  clear hK
  by_cases c0 : j.name = []
  · simp -implicitDefEqProofs [c0]
    exact kW
  · have c1 : ¬ j.name.length < 1 := by
      have := List.length_pos_iff.2 c0
      omega
    have c1' : ¬ (j.name.length : Int) < 1 := by omega
    by_cases c2 : 32 < j.name.length
    · have c2' : (32 : Int) < (j.name.length : Int) := by omega
      simp -implicitDefEqProofs [k1, c0, c1', c2, c2']
      exact kW
    · have c2' : ¬ (32 : Int) < (j.name.length : Int) := by omega
      simp -implicitDefEqProofs [k1, c0, c1', c2, c2']
      have hp := c_cronParse kG j.ex hs
      generalize cronK j.ex = p at *
      obtain ⟨x, e⟩ := p
      simp only at hp ⊢
      refine ACall.eq hp ?_
      simp -implicitDefEqProofs
      refine AAlloc.intro fun b3 h3 => ?_
      have n13 : b1 ≠ b3 := by intro e; subst e; rw [k1] at h3; cases h3
      have kW3 : ∀ o, HWk H (K1.set b3 o) := fun o => HWk.new (kW.none h3) kW
      by_cases he : e = 0
      · subst he
        simp -implicitDefEqProofs [n13, k1]
        generalize hK : Heap.set K1 b3 _ = K3
        have k3 : K3 b1 = some (.cells (jbC j t) 25) := by rw [← hK]; simp [Heap.set, n13, k1]
        have kW3 : HWk H K3 := by rw [← hK]; exact kW3 _
        clear hK
        by_cases c3 : 8 < j.deps.length
        · have c3' : (8 : Int) < (j.deps.length : Int) := by omega
          simp -implicitDefEqProofs [c3, c3']
          exact kW3
        · have c3' : ¬ (8 : Int) < (j.deps.length : Int) := by omega
          by_cases q0 : j.pol < 1
          · simp -implicitDefEqProofs [k3, c3, c3', q0, badJ]
            exact kW3
          · by_cases q1 : 3 < j.pol
            · simp -implicitDefEqProofs [k3, c3, c3', q0, q1, badJ]
              exact kW3
            · by_cases q2 : j.gr < 0
              · simp -implicitDefEqProofs [k3, c3, c3', q0, q1, q2, badJ]
                exact kW3
              · by_cases q3 : 604800 < j.gr
                · simp -implicitDefEqProofs [k3, c3, c3', q0, q1, q2, q3, badJ]
                  exact kW3
                · by_cases q4 : j.lim < 1
                  · simp -implicitDefEqProofs [k3, c3, c3', q0, q1, q2, q3, q4, badJ]
                    exact kW3
                  · by_cases q5 : 8 < j.lim
                    · simp -implicitDefEqProofs [k3, c3, c3', q0, q1, q2, q3, q4, q5, badJ]
                      exact kW3
                    · by_cases q6 : j.ret < 0
                      · simp -implicitDefEqProofs [k3, c3, c3', q0, q1, q2, q3, q4, q5, q6, badJ]
                        exact kW3
                      · by_cases q7 : 5 < j.ret
                        · simp -implicitDefEqProofs [k3, c3, c3', q0, q1, q2, q3, q4, q5, q6, q7, badJ]
                          exact kW3
                        · by_cases q8 : j.tim < 1
                          · simp -implicitDefEqProofs [k3, c3, c3', q0, q1, q2, q3, q4, q5, q6, q7, q8, badJ]
                            exact kW3
                          · by_cases q9 : 86400 < j.tim
                            · simp -implicitDefEqProofs [k3, c3, c3', q0, q1, q2, q3, q4, q5, q6, q7, q8, q9, badJ]
                              exact kW3
                            · by_cases q10 : j.seen < -1
                              · simp -implicitDefEqProofs [k3, c3, c3', q0, q1, q2, q3, q4, q5, q6, q7, q8, q9, q10, badJ]
                                exact kW3
                              · by_cases q11 : 13569465600 ≤ j.seen
                                · simp -implicitDefEqProofs [k3, c3, c3', q0, q1, q2, q3, q4, q5, q6, q7, q8, q9, q10, q11, badJ]
                                  exact kW3
                                · simp -implicitDefEqProofs [k3, c3, c3', q0, q1, q2, q3, q4, q5, q6, q7, q8, q9, q10, q11, badJ]
                                  exact kW3
      · simp -implicitDefEqProofs [he]
        exact kW3 _
end Go.Proofs.YtghlkjkdejebnaaGreatDoor
