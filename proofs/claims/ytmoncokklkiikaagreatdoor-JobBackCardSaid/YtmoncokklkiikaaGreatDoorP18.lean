/- Numbers and texts as bytes: pack.Take. Numbers and texts as bytes: the rest of the program's package pack. Numbers and texts as bytes: texts, whole numbers. Expressions: which may be, which clocks fit. Firings, in plain words: the last one up to a moment, the next one behind it, all of a time; a day's date from its neighbour's. -/
import Derived.Test.YtmoncokklkiikaaGreatDoorP17
import Derived.Test.YtmoncokklkiikaaGreatDoorP10
set_option linter.unusedSimpArgs false
set_option linter.unusedVariables false
set_option linter.unnecessarySimpa false
namespace Go.Proofs.YtmoncokklkiikaaGreatDoor
open Rg Go
variable {H : Heap}
theorem getAt {α : Type} {L : List α} {i : Nat} (h : i < L.length) : ∃ e, L[i] = e ∧ L[i]? = some e := ⟨_, rfl, List.getElem?_eq_getElem h⟩
theorem pow7 (i : Nat) : (2 : Nat) ^ (7 * i) = 128 ^ i := by rw [Nat.pow_mul]
theorem and127 (x : Nat) (hx : x < 256) : bits .and .u8 (x : Int) 127 = ((x % 128 : Nat) : Int) := by
  have := u8_and_nat x 127 hx (by omega)
  rw [show ((127 : Nat) : Int) = 127 from rfl] at this
  rw [this]
  congr 1
  exact Nat.and_two_pow_sub_one_eq_mod x 7
theorem or_join {acc y i : Nat} (ha : acc < 128 ^ i) (hs : acc + y * 128 ^ i < 18446744073709551616) : bits .or .u64 (acc : Int) ((y * 128 ^ i : Nat) : Int) = ((acc + y * 128 ^ i : Nat) : Int) := by
  rw [u64_or_nat _ _ (by omega) (by omega), Nat.or_comm, nat_join (7 * i) _ _ (by rw [pow7]; exact Nat.mul_mod_left _ _) (by rw [pow7]; exact ha), Nat.add_comm]
theorem take_sum {x : UInt8} {acc i : Nat} (hi9 : i ≤ 9) (hacc : acc < 128 ^ i) (c1 : ¬ ((i = 9 ∧ 1 < x.toNat) ∨ (0 < i ∧ x.toNat = 0))) : acc + x.toNat % 128 * 128 ^ i < 18446744073709551616 ∧ (x.toNat % 128 * 128 ^ i < 18446744073709551616) ∧ (i ≠ 9 → acc + x.toNat % 128 * 128 ^ i < 128 ^ (i + 1)) := by
  have p0 : 0 < (128 : Nat) ^ i := Nat.pow_pos (by omega)
  by_cases h9 : i = 9
  · subst h9
    have h2 : x.toNat % 128 * 128 ^ 9 ≤ 1 * 128 ^ 9 := Nat.mul_le_mul_right _ (by omega)
    refine ⟨?_, ?_, fun h => absurd rfl h⟩ <;> omega
  · have h1 : x.toNat % 128 * 128 ^ i ≤ 127 * 128 ^ i := Nat.mul_le_mul_right _ (by omega)
    have h2 : acc + x.toNat % 128 * 128 ^ i < 128 ^ (i + 1) := by rw [Nat.pow_succ]; omega
    have h3 : 128 ^ (i + 1) ≤ 128 ^ 9 := Nat.pow_le_pow_right (by decide) (by omega)
    refine ⟨?_, ?_, fun _ => h2⟩ <;> omega
set_option maxHeartbeats 2000000 in
theorem c_packTake (b : List UInt8) (t : Tok) (a : Nat) (ha : a ≤ b.length) (hb : b.length ≤ 1000000) : AOk Tryz.prog 79 [.sl (u8s b) t, .sc (.int .i64 (a : Int))] H (tkAV (takeK b a)) H := by
  have ha' : ¬ (b.length : Int) < (a : Int) := by omega
  have ha2 : (a : Int) ≤ (b.length : Int) := by omega
  obtain ⟨res, hres⟩ : ∃ res, takeK b a = res := ⟨_, rfl⟩
  have hdr : (u8s b).drop a = u8s (b.drop a) := by simp
  obtain ⟨L, hL⟩ : ∃ L, b.drop a = L := ⟨_, rfl⟩
  have hLl : L.length ≤ 1000000 := by rw [← hL]; simp; omega
  have hk : ∀ r, takeGo L 0 0 = r → res = match r with | some (n, k) => (n, a + k, 0) | none => (0, 0, 4) := by
    intro r hr
    rw [← hres]; unfold takeK; rw [hL, hr] <;> rfl
  rw [hres]
  refine ACalls.into Tryz.func79 rfl Tryz.ntmps79 Tryz.results79 (by simp) ?_
  simp -implicitDefEqProofs [ha, ha', ha2, szs_u8s b]
  refine AGo.rounds (fun m ρ K => ∃ (i acc : Nat), m = L.length - i ∧ i ≤ L.length ∧ i ≤ 9 ∧ acc < 128 ^ i ∧ takeGo (L.drop i) i acc = takeGo L 0 0 ∧
    ρ 4 = .sc (.int .u64 (acc : Int)) ∧ ρ 21 = .sc (.int .i64 (i : Int)) ∧ ρ 1 = .sc (.int .i64 (a : Int)) ∧ ρ 19 = .sl (u8s L) .no ∧ ρ 20 = .sc (.int .i64 (L.length : Int)) ∧ K = H) ?_ (m := L.length) (HLe.refl _)
    ⟨0, 0, rfl, by omega, by omega, by simp, rfl, by simp, by simp, by simp, by simp [← hL], by simp [← hL], rfl⟩
  rintro m ρ K ih ⟨i, acc, rfl, hi, hi9, hacc, htk, r4, r21, r1, r19, r20, rfl⟩
  rcases Nat.lt_or_ge i L.length with hlt | hge
  · obtain ⟨x, hej, hx⟩ := getAt hlt
    have hd : L.drop i = x :: L.drop (i + 1) := by rw [List.drop_eq_getElem_cons hlt, hej]
    have hlt' : (i : Int) < (L.length : Int) := by omega
    have hxn := x.toNat_lt
    rw [hd] at htk
    simp only [takeGo] at htk
    by_cases c1 : (i = 9 ∧ 1 < x.toNat) ∨ (0 < i ∧ x.toNat = 0)
    · rw [if_pos c1] at htk
      have := hk _ htk.symm
      subst this
      by_cases h9 : i = 9
      · have h9' : decide ((i : Int) = 9) = true := decide_eq_true (by omega)
        have h9n : decide (i = 9) = true := decide_eq_true h9
        by_cases hx1 : 1 < x.toNat
        · have hx1' : (1 : Int) < (x.toNat : Int) := by omega
          simp -implicitDefEqProofs [r4, r21, r1, r19, r20, hlt, hlt', hej, h9', h9n, hx1, hx1']
        · have hx1' : ¬ (1 : Int) < (x.toNat : Int) := by omega
          have hx0 : x.toNat = 0 := by omega
          have h0 : 0 < i := by omega
          have h0' : (0 : Int) < (i : Int) := by omega
          simp -implicitDefEqProofs [r4, r21, r1, r19, r20, hlt, hlt', hej, h9', h9n, hx0, h0, h0']
      · have h9' : ¬ (i : Int) = 9 := by omega
        have h0 : 0 < i := by omega
        have h0' : (0 : Int) < (i : Int) := by omega
        have hx0 : x.toNat = 0 := by omega
        simp -implicitDefEqProofs [r4, r21, r1, r19, r20, hlt, hlt', hej, h9, h9', h0, h0', hx0]
    · rw [if_neg c1] at htk
      obtain ⟨hs1, hs2, hs3⟩ := take_sum hi9 hacc c1
      have hor := or_join hacc hs1
      have h7 : IntKind.i64.wrap (7 * (i : Int)) = 7 * (i : Int) := wrap_i64 (by omega) (by omega)
      have h7n : ¬ 7 * (i : Int) < 0 := by omega
      have h127 := and127 x.toNat hxn
      obtain ⟨acc', hq⟩ : ∃ q, acc + x.toNat % 128 * 128 ^ i = q := ⟨_, rfl⟩
      have hsh : bits .or .u64 (acc : Int) (IntKind.u64.wrap (IntKind.u64.wrap ((x.toNat : Int) % 128) * 2 ^ min (7 * (i : Int)).toNat 64)) = (acc' : Int) := by
        rw [← hq, ← hor]
        have e1 : min (7 * (i : Int)).toNat 64 = 7 * i := by omega
        have e2 : IntKind.u64.wrap ((x.toNat : Int) % 128) = ((x.toNat % 128 : Nat) : Int) := by rw [wrap_u64 (by omega) (by omega)]; omega
        have e3 : ((x.toNat % 128 : Nat) : Int) * 2 ^ (7 * i) = ((x.toNat % 128 * 128 ^ i : Nat) : Int) := by rw [← pow7]; push_cast; rfl
        rw [e1, e2, e3, wrap_u64 (by omega) (by omega)]
      have hw1 : IntKind.i64.wrap ((i : Int) + 1) = (i : Int) + 1 := wrap_i64 (by omega) (by omega)
      have hwa : IntKind.i64.wrap ((a : Int) + (i : Int)) = (a : Int) + (i : Int) := wrap_i64 (by omega) (by omega)
      have hwb : IntKind.i64.wrap ((a : Int) + (i : Int) + 1) = ((a + (i + 1) : Nat) : Int) := by rw [wrap_i64 (by omega) (by omega)]; omega
      have key : (i = 9 ∧ ¬ 1 < x.toNat ∧ 0 < i ∧ ¬ x.toNat = 0) ∨ (¬ i = 9 ∧ 0 < i ∧ ¬ x.toNat = 0) ∨ (¬ i = 9 ∧ i = 0) := by omega
      rw [hq] at htk hs3
      by_cases h128 : x.toNat < 128
      · have h128' : (x.toNat : Int) < 128 := by omega
        rw [if_pos h128] at htk
        have := hk _ htk.symm
        simp only at this
        subst this
        rcases key with ⟨h9, hx1, h0, hx0⟩ | ⟨h9, h0, hx0⟩ | ⟨h9, h0⟩
        · have h9' : decide ((i : Int) = 9) = true := decide_eq_true (by omega)
          have h9n : decide (i = 9) = true := decide_eq_true h9
          have hx1' : ¬ (1 : Int) < (x.toNat : Int) := by omega
          have h0' : (0 : Int) < (i : Int) := by omega
          have hx0' : ¬ (x.toNat : Int) = 0 := by omega
          simp -implicitDefEqProofs [r4, r21, r1, r19, r20, hlt, hlt', hej, h9', h9n, hx1, hx1', h0, h0', hx0, hx0', h7, h7n, h127, hsh, h128, h128', hwa, hwb]
        · have h9' : ¬ (i : Int) = 9 := by omega
          have h0' : (0 : Int) < (i : Int) := by omega
          have hx0' : ¬ (x.toNat : Int) = 0 := by omega
          simp -implicitDefEqProofs [r4, r21, r1, r19, r20, hlt, hlt', hej, h9, h9', h0, h0', hx0, hx0', h7, h7n, h127, hsh, h128, h128', hwa, hwb]
        · have h9' : ¬ (i : Int) = 9 := by omega
          have h0' : ¬ (0 : Int) < (i : Int) := by omega
          have h0n : ¬ 0 < i := by omega
          simp -implicitDefEqProofs [r4, r21, r1, r19, r20, hlt, hlt', hej, h9, h9', h0n, h0', h7, h7n, h127, hsh, h128, h128', hwa, hwb]
      · have h128' : ¬ (x.toNat : Int) < 128 := by omega
        rw [if_neg h128] at htk
        rcases key with ⟨h9, hx1, h0, hx0⟩ | ⟨h9, h0, hx0⟩ | ⟨h9, h0⟩
        · omega
        · have h9' : ¬ (i : Int) = 9 := by omega
          have h0' : (0 : Int) < (i : Int) := by omega
          have hx0' : ¬ (x.toNat : Int) = 0 := by omega
          simp -implicitDefEqProofs [r4, r21, r1, r19, r20, hlt, hlt', hej, h9, h9', h0, h0', hx0, hx0', h7, h7n, h127, hsh, h128, h128', hw1]
          refine AGo.again ih (m' := L.length - (i + 1)) (by omega) (HLe.refl _) ⟨i + 1, acc', rfl, by omega, by omega, hs3 h9, htk, by simp, by simp, by simp [r1], by simp [r19], by simp [r20], rfl⟩
        · have h9' : ¬ (i : Int) = 9 := by omega
          have h0' : ¬ (0 : Int) < (i : Int) := by omega
          have h0n : ¬ 0 < i := by omega
          simp -implicitDefEqProofs [r4, r21, r1, r19, r20, hlt, hlt', hej, h9, h9', h0n, h0', h7, h7n, h127, hsh, h128, h128', hw1]
          refine AGo.again ih (m' := L.length - (i + 1)) (by omega) (HLe.refl _) ⟨i + 1, acc', rfl, by omega, by omega, hs3 h9, htk, by simp, by simp, by simp [r1], by simp [r19], by simp [r20], rfl⟩
  · have : takeGo L 0 0 = none := by rw [← htk, List.drop_of_length_le hge]; rfl
    have hn : ¬ (i : Int) < (L.length : Int) := by omega
    have hn' : ¬ i < L.length := by omega
    have := hk _ this
    subst this
    simp -implicitDefEqProofs [r4, r21, r1, r19, r20, hn, hn']
end Go.Proofs.YtmoncokklkiikaaGreatDoor
namespace Go.Proofs.YtmoncokklkiikaaGreatDoor
open Rg Go
variable {H : Heap}
theorem abytes_u8s : ∀ l : List UInt8, abytes (u8s l) = some l
  | [] => rfl
  | c :: l => by
    have h1 := c.toNat_lt
    simp only [u8s, List.map_cons, abytes]
    rw [if_pos (by omega)]
    have := abytes_u8s l
    simp only [u8s] at this
    rw [this]
    simp
theorem c_growB (n : Nat) (hn : n ≤ 1000000) : ACalls Tryz.prog 180 [.sl [] .nil, .sc (.int .i64 (n : Int))] H (fun v K => ∃ t, v = .sl [] t ∧ Grows H [] 1 5 t K) := by
  refine ACalls.nilArg (pre := []) (post := [.sc (.int .i64 (n : Int))]) ?_
  refine ACalls.ownRes' fun R' q1 q2 q3 => ?_
  simp only [List.nil_append]
  refine ACalls.into Tryz.func180 rfl Tryz.ntmps180 Tryz.results180 (by simp) ?_
  have hT : Tryz.prog.underlying 26 = some (.slice 5) := by kernel_rfl
  have hI : Tryz.prog.underlying 3 = some (.int .i64) := by kernel_rfl
  have h0 : ¬ (n : Int) < 0 := by omega
  have hw0 : IntKind.i64.wrap 0 = 0 := by decide
  have hw : IntKind.i64.wrap (n : Int) = (n : Int) := wrap_i64 (by omega) (by omega)
  simp -implicitDefEqProofs [h0]
  refine ACall.eq (c_capBare hT) ?_
  by_cases hn0 : n = 0
  · subst hn0
    simp -implicitDefEqProofs [hw0]
    exact AFin.intro _ H (wk_refl _) (HWk.refl _) (q2 _ ⟨_, rfl, .zero⟩)
  · have hp : (0 : Int) < (n : Int) := by omega
    have hp' : 0 < n := by omega
    simp -implicitDefEqProofs [hw0, hw, hp, hp']
    refine ACall.eq (c_capBare hT) ?_
    simp -implicitDefEqProofs
    refine ACall.eq (c_sliceNil (sz := 1) hT (by kernel_rfl)) ?_
    simp -implicitDefEqProofs
    refine ACall.intro (c_appendMake el_26 hI hp' (by omega) (by simp [maxLen]; omega) (fun z hz q hq => ?_)) ?_
    · obtain rfl : z = .int .u8 0 := by
        have : tzero Tryz.prog 5 = some (.int .u8 0) := by kernel_rfl
        rw [this] at hz
        cases hz
        rfl
      simp [Value.cells] at hq
      subst hq
      rfl
    · rintro v K ⟨g, cap, zs, hg, hc1, hc2, hz, rfl, rfl⟩
      simp -implicitDefEqProofs
      refine ACall.eq (c_sliceTo (sz := 1) hT (by kernel_rfl) (hi := 0) (Nat.zero_le _)) ?_
      simp -implicitDefEqProofs
      refine AFin.intro _ _ (wk_refl _) (HWk.refl _) (q3 g [] (zs.map .sc) cap 1 5 _ (by simp [Heap.set]) rfl (by simp [hz]) (by simp) hc2 ⟨_, rfl, .inr ⟨g, cap, hg, rfl, ?_⟩⟩)
      rw [Heap.set_set]
abbrev rowsAV (L : List (List UInt8 × Tok)) : List AV := L.map fun p => .sl (u8s p.1) p.2
def joinB (L : List (List UInt8 × Tok)) : List UInt8 := L.flatMap fun p => p.1
theorem joinB_take {L : List (List UInt8 × Tok)} {i : Nat} {p : List UInt8 × Tok} (h : L[i]? = some p) : joinB (L.take (i + 1)) = joinB (L.take i) ++ p.1 := by
  rw [List.take_add_one, h]
  simp [joinB]
theorem joinB_len (L : List (List UInt8 × Tok)) (i : Nat) : (joinB (L.take i)).length ≤ (joinB L).length := by
  have : joinB L = joinB (L.take i) ++ joinB (L.drop i) := by
    unfold joinB
    rw [← List.flatMap_append, List.take_append_drop]
  rw [this, List.length_append]
  omega
theorem c_concatB (L : List (List UInt8 × Tok)) (t : Tok) (hL : L.length ≤ 1000000) (hs : (joinB L).length ≤ 1000000) :
    ACalls Tryz.prog 138 [.sl (rowsAV L) t] H (fun v K => ∃ t', v = .sl (u8s (joinB L)) t' ∧ Grows H (u8s (joinB L)) 1 5 t' K) := by
  generalize hR : (fun (v : AV) (K : Heap) => ∃ t', v = .sl (u8s (joinB L)) t' ∧ Grows H (u8s (joinB L)) 1 5 t' K) = R
  refine ACalls.into Tryz.func138 rfl Tryz.ntmps138 Tryz.results138 (by simp) ?_
  simp -implicitDefEqProofs
  refine AGo.joinLoop (fun ρ K => ρ 3 = .sc (.int .i64 ((joinB L).length : Int)) ∧ ρ 0 = .sl (rowsAV L) t ∧ K = H) (fun k' hk => ?_) ?_
  · refine AGo.rounds (fun m ρ K => ∃ i, m = L.length - i ∧ i ≤ L.length ∧ ρ 3 = .sc (.int .i64 ((joinB (L.take i)).length : Int)) ∧ ρ 11 = .sc (.int .i64 (i : Int)) ∧ ρ 0 = .sl (rowsAV L) t ∧ ρ 9 = .sl (rowsAV L) t ∧ ρ 10 = .sc (.int .i64 (L.length : Int)) ∧ K = H) ?_ (m := L.length) (HLe.refl _)
      ⟨0, rfl, by omega, by simp [joinB], by simp, by simp, by simp, by simp, rfl⟩
    rintro m ρ K ih ⟨i, rfl, hi, r3, r11, r0, r9, r10, rfl⟩
    rcases Nat.lt_or_ge i L.length with hlt | hge
    · obtain ⟨p, hej, hp⟩ := getAt hlt
      have hlt' : (i : Int) < (L.length : Int) := by omega
      have hj := joinB_take hp
      have hjl := joinB_len L (i + 1)
      rw [hj, List.length_append] at hjl
      have hw : IntKind.i64.wrap (((joinB (L.take i)).length : Int) + (p.1.length : Int)) = ((joinB (L.take i)).length : Int) + (p.1.length : Int) := wrap_i64 (by omega) (by omega)
      have hn : ¬ ((joinB (L.take i)).length : Int) + (p.1.length : Int) < 0 := by omega
      have hw1 : IntKind.i64.wrap ((i : Int) + 1) = (i : Int) + 1 := wrap_i64 (by omega) (by omega)
      simp -implicitDefEqProofs [r3, r11, r0, r9, r10, hlt, hlt', hej, hw, hn, hw1]
      exact AGo.again ih (m' := L.length - (i + 1)) (by omega) (HLe.refl _) ⟨i + 1, rfl, by omega, by simp [hj], by simp, by simp [r0], by simp [r9], by simp [r10], rfl⟩
    · have hn : ¬ (i : Int) < (L.length : Int) := by omega
      have hn' : ¬ i < L.length := by omega
      simp -implicitDefEqProofs [r3, r11, r0, r9, r10, hn, hn']
      exact hk _ _ ⟨by simp [r3, List.take_of_length_le hge], by simp [r0], rfl⟩
  · rintro ρ K ⟨r3, r0, rfl⟩
    simp -implicitDefEqProofs [r3, r0]
    refine ACall.intro (c_growB _ hs) ?_
    rintro v K1 ⟨t1, rfl, hg⟩
    simp -implicitDefEqProofs [r3, r0]
    refine AGo.rounds (fun m ρ K2 => ∃ i t2, m = L.length - i ∧ i ≤ L.length ∧ ρ 6 = .sl (u8s (joinB (L.take i))) t2 ∧ Grows K (u8s (joinB (L.take i))) 1 5 t2 K2 ∧ ρ 27 = .sc (.int .i64 (i : Int)) ∧ ρ 25 = .sl (rowsAV L) t ∧ ρ 26 = .sc (.int .i64 (L.length : Int))) ?_ (m := L.length) (HLe.refl _)
      ⟨0, t1, rfl, by omega, by simp [joinB], by simpa [joinB] using hg, by simp, by simp, by simp⟩
    rintro m ρ K2 ih ⟨i, t2, rfl, hi, r6, hg2, r27, r25, r26⟩
    rcases Nat.lt_or_ge i L.length with hlt | hge
    · obtain ⟨p, hej, hp⟩ := getAt hlt
      have hlt' : (i : Int) < (L.length : Int) := by omega
      have hj := joinB_take hp
      have hjl := joinB_len L (i + 1)
      rw [hj, List.length_append] at hjl
      have hw1 : IntKind.i64.wrap ((i : Int) + 1) = (i : Int) + 1 := wrap_i64 (by omega) (by omega)
      simp -implicitDefEqProofs [r6, r27, r25, r26, hlt, hlt', hej]
      refine AApp.grows0 el_26 hg2 (HLe.refl _) (szs_u8s _) (szs_u8s _) (by simp; omega) (by simp [maxLen]; omega) fun t' K' Hn hg' hl' => ?_
      simp -implicitDefEqProofs [r6, r27, r25, r26, hw1]
      rw [← u8s_app, ← hj] at hg'
      exact AGo.again ih (m' := L.length - (i + 1)) (by omega) hl' ⟨i + 1, t', rfl, by omega, by simp [hj], hg', by simp, by simp [r25], by simp [r26]⟩
    · have hn : ¬ (i : Int) < (L.length : Int) := by omega
      have hn' : ¬ i < L.length := by omega
      simp -implicitDefEqProofs [r6, r27, r25, r26, hn, hn']
      rw [List.take_of_length_le hge] at hg2 r6
      subst hR
      exact AFin.intro _ _ (wk_refl _) (HWk.refl _) ⟨t2, by rw [List.take_of_length_le hge], hg2⟩
theorem c_packJoin (L : List (List UInt8 × Tok)) (t : Tok) (hL : L.length ≤ 1000000) (hs : (joinB L).length ≤ 1000000) :
    ACalls Tryz.prog 76 [.sl (rowsAV L) t] H (fun v K => ∃ t', v = .sl (u8s (joinB L)) t' ∧ Grows H (u8s (joinB L)) 1 5 t' K) := by
  generalize hR : (fun (v : AV) (K : Heap) => ∃ t', v = .sl (u8s (joinB L)) t' ∧ Grows H (u8s (joinB L)) 1 5 t' K) = R
  refine ACalls.into Tryz.func76 rfl Tryz.ntmps76 Tryz.results76 (by simp) ?_
  simp -implicitDefEqProofs
  refine ACall.intro (c_concatB L t hL hs) ?_
  rintro v K ⟨t', rfl, hg⟩
  simp -implicitDefEqProofs
  subst hR
  exact AFin.intro _ _ (wk_refl _) (HWk.refl _) ⟨t', rfl, hg⟩
end Go.Proofs.YtmoncokklkiikaaGreatDoor
namespace Go.Proofs.YtmoncokklkiikaaGreatDoor
open Rg Go
variable {H : Heap}
def putTextB (s : List UInt8) : List UInt8 := putB s.length ++ s
theorem c_putText (s : List UInt8) (hs : s.length ≤ 4096) : AOk Tryz.prog 75 [str s] H (.tup [.sl (u8s (putTextB s)) .no, .sc (.int .i64 0)]) H := by
  have h1 : ¬ (4096 : Int) < (s.length : Int) := by omega
  have h2 : ¬ 4096 < s.length := by omega
  have hw : IntKind.u64.wrap (s.length : Int) = (s.length : Int) := wrap_u64 (by omega) (by omega)
  refine ACalls.into Tryz.func75 rfl Tryz.ntmps75 Tryz.results75 (by simp) ?_
  simp -implicitDefEqProofs [h1, h2, hw]
  refine ACall.eq (c_packPut s.length (by omega)) ?_
  have hml : s.length ≤ maxLen := by simp only [maxLen]; omega
  simp -implicitDefEqProofs [aconv, hml]
  have hj : joinB [(putB s.length, Rg.Tok.no), (s, Rg.Tok.no)] = putTextB s := by simp [joinB, putTextB]
  have hl := putB_len s.length
  have hlen : (putTextB s).length ≤ 1000000 := by unfold putTextB; rw [List.length_append]; omega
  have hc := c_packJoin (H := H) [(putB s.length, Rg.Tok.no), (s, Rg.Tok.no)] .full (by simp only [List.length_cons, List.length_nil]; omega) (by rw [hj]; exact hlen)
  rw [hj] at hc
  simp only [rowsAV, List.map_cons, List.map_nil] at hc
  refine ACall.intro hc ?_
  rintro v K ⟨t', rfl, hg⟩
  simp -implicitDefEqProofs
  exact hg.le.wk
theorem c_putText_long (s : List UInt8) (hs : 4096 < s.length) (hm : s.length ≤ 9223372036854775807) : AOk Tryz.prog 75 [str s] H (.tup [.sl [] .nil, .sc (.int .i64 3)]) H := by
  have h1 : (4096 : Int) < (s.length : Int) := by omega
  refine ACalls.into Tryz.func75 rfl Tryz.ntmps75 Tryz.results75 (by simp) ?_
  simp -implicitDefEqProofs [h1, hs]
def takeTextK (b : List UInt8) (a : Nat) : List UInt8 × Nat × Nat :=
  if (takeK b a).2.2 ≠ 0 then ([], 0, (takeK b a).2.2) else if 4096 < (takeK b a).1 ∨ b.length - (takeK b a).2.1 < (takeK b a).1 then ([], 0, 4) else ((b.drop (takeK b a).2.1).take (takeK b a).1, (takeK b a).2.1 + (takeK b a).1, 0)
abbrev txAV (p : List UInt8 × Nat × Nat) : AV := .tup [str p.1, .sc (.int .i64 (p.2.1 : Nat)), .sc (.int .i64 (p.2.2 : Nat))]
theorem c_textNone (e : Int) : AOk Tryz.prog 139 [.sc (.int .i64 e)] H (.tup [str [], .sc (.int .i64 0), .sc (.int .i64 e)]) H := by
  refine ACalls.into Tryz.func139 rfl Tryz.ntmps139 Tryz.results139 (by simp) ?_
  simp -implicitDefEqProofs
theorem takeK_e (b : List UInt8) (a : Nat) : (takeK b a).2.2 = 0 ∨ (takeK b a).2.2 = 4 := by
  unfold takeK
  split <;> simp
theorem takeTextK_e (b : List UInt8) (a : Nat) : (takeTextK b a).2.2 = 0 ∨ (takeTextK b a).2.2 = 4 := by
  unfold takeTextK
  split
  · exact takeK_e b a
  · split <;> simp
theorem takeTextK_le (b : List UInt8) (a : Nat) (ha : a ≤ b.length) : (takeTextK b a).2.1 ≤ b.length := by
  unfold takeTextK
  have := takeK_le b a ha
  split
  · simp
  · split
    · simp
    · simp only; omega
set_option maxHeartbeats 1000000 in
theorem c_takeText (b : List UInt8) (t : Tok) (a : Nat) (ha : a ≤ b.length) (hb : b.length ≤ 1000000) : AOk Tryz.prog 81 [.sl (u8s b) t, .sc (.int .i64 (a : Int))] H (txAV (takeTextK b a)) H := by
  have hle := takeK_le b a ha
  have hlt := takeK_lt b a
  refine ACalls.into Tryz.func81 rfl Tryz.ntmps81 Tryz.results81 (by simp) ?_
  simp -implicitDefEqProofs
  refine ACall.eq (c_packTake b t a ha hb) ?_
  obtain ⟨n, nx, e, hp⟩ : ∃ n nx e, takeK b a = (n, nx, e) := ⟨_, _, _, rfl⟩
  unfold takeTextK
  rw [hp] at hle hlt ⊢
  simp only at hle hlt ⊢
  by_cases he : e = 0
  · subst he
    simp -implicitDefEqProofs
    by_cases h1 : 4096 < n
    · have h1' : (4096 : Int) < (n : Int) := by omega
      simp -implicitDefEqProofs [h1, h1']
      refine ACall.eq (c_textNone 4) ?_
      simp -implicitDefEqProofs
    · have h1' : ¬ (4096 : Int) < (n : Int) := by omega
      have hw : IntKind.i64.wrap ((b.length : Int) - (nx : Int)) = ((b.length - nx : Nat) : Int) := by rw [wrap_i64 (by omega) (by omega)]; omega
      have hw2 : IntKind.u64.wrap ((b.length - nx : Nat) : Int) = ((b.length - nx : Nat) : Int) := wrap_u64 (by omega) (by omega)
      by_cases h2 : b.length - nx < n
      · have h2' : ((b.length - nx : Nat) : Int) < (n : Int) := by omega
        simp -implicitDefEqProofs [h1, h1', hw, hw2, h2, h2']
        refine ACall.eq (c_textNone 4) ?_
        simp -implicitDefEqProofs
      · have h2' : ¬ ((b.length - nx : Nat) : Int) < (n : Int) := by omega
        have h3 : (nx : Int) ≤ (b.length : Int) := by omega
        have h4 : (n : Int) ≤ ((b.drop nx).length : Int) := by simp; omega
        have hw3 : IntKind.i64.wrap (n : Int) = (n : Int) := wrap_i64 (by omega) (by omega)
        have hw4 : IntKind.i64.wrap ((nx : Int) + (n : Int)) = (nx : Int) + (n : Int) := wrap_i64 (by omega) (by omega)
        have h5 : n ≤ b.length - nx := by omega
        have h6 := szs_drop (szs_u8s b) nx
        have h7 : abytes (List.take n (List.drop nx (u8s b))) = some ((b.drop nx).take n) := by rw [← List.map_drop, ← List.map_take]; exact abytes_u8s _
        simp -implicitDefEqProofs [h1, h1', hw, hw2, h2, h2', hle, h3, szs_u8s b, hw3, hw4, h5, h6, h7, aconv]
  · have he' : ¬ (e : Int) = 0 := by omega
    simp -implicitDefEqProofs [he, he']
    refine ACall.eq (c_textNone e) ?_
    simp -implicitDefEqProofs
def zig (n : Int) : Nat := if 0 ≤ n then (2 * n).toNat else (-2 * n - 1).toNat
def unzig (x : Nat) : Int := if x % 2 = 0 then ((x / 2 : Nat) : Int) else -1 - ((x / 2 : Nat) : Int)
theorem unzig_zig (n : Int) : unzig (zig n) = n := by
  unfold zig unzig
  split <;> split <;> omega
theorem zig_lt {n : Int} (h1 : -9223372036854775808 ≤ n) (h2 : n ≤ 9223372036854775807) : zig n < 18446744073709551616 := by
  unfold zig
  split <;> omega
theorem xor_ones (a : Nat) (h : a < 2 ^ 64) : a ^^^ (2 ^ 64 - 1) = 2 ^ 64 - 1 - a := by
  apply Nat.eq_of_testBit_eq
  intro i
  rw [Nat.testBit_xor, Nat.testBit_two_pow_sub_one, show 2 ^ 64 - 1 - a = 2 ^ 64 - (a + 1) by omega, Nat.testBit_two_pow_sub_succ h]
  by_cases hi : i < 64
  · simp [hi]
  · have : a.testBit i = false := Nat.testBit_lt_two_pow (Nat.lt_of_lt_of_le h (Nat.pow_le_pow_right (by omega) (by omega)))
    simp [hi, this]
theorem zig_bits {n : Int} (h1 : -9223372036854775808 ≤ n) (h2 : n ≤ 9223372036854775807) : bits .xor .u64 (IntKind.u64.wrap (IntKind.u64.wrap n * 2)) (IntKind.u64.wrap (n.fdiv 9223372036854775808)) = (zig n : Int) := by
  have w : ∀ i : Int, IntKind.u64.wrap i = i % 18446744073709551616 := fun i => by simp [IntKind.wrap, IntKind.bits, IntKind.signed]
  rw [w, w, w]
  unfold zig
  by_cases h : 0 ≤ n
  · rw [if_pos h]
    have e1 : n.fdiv 9223372036854775808 = 0 := by rw [Int.fdiv_eq_ediv_of_nonneg _ (by omega)]; omega
    rw [e1]
    have e2 : n % 18446744073709551616 * 2 % 18446744073709551616 = (((2 * n).toNat : Nat) : Int) := by omega
    rw [e2]
    have := u64_xor_nat (2 * n).toNat 0 (by omega) (by omega)
    rw [Nat.xor_zero] at this
    exact this
  · rw [if_neg h]
    have e1 : n.fdiv 9223372036854775808 = -1 := by rw [Int.fdiv_eq_ediv_of_nonneg _ (by omega)]; omega
    rw [e1]
    have e2 : n % 18446744073709551616 * 2 % 18446744073709551616 = (((2 * n + 18446744073709551616).toNat : Nat) : Int) := by omega
    have e3 : (-1 : Int) % 18446744073709551616 = ((2 ^ 64 - 1 : Nat) : Int) := by decide
    rw [e2, e3, u64_xor_nat _ _ (by omega) (by decide), xor_ones _ (by omega)]
    omega
theorem c_putInt (n : Int) (h1 : -9223372036854775808 ≤ n) (h2 : n ≤ 9223372036854775807) : AOk Tryz.prog 77 [.sc (.int .i64 n)] H (.sl (u8s (putB (zig n))) .no) H := by
  have hz := zig_bits h1 h2
  refine ACalls.into Tryz.func77 rfl Tryz.ntmps77 Tryz.results77 (by simp) ?_
  simp -implicitDefEqProofs [hz]
  refine ACall.eq (c_packPut (zig n) (zig_lt h1 h2)) ?_
  simp -implicitDefEqProofs
theorem xor_i64 (a : Nat) (h : a < 9223372036854775808) : bits .xor .i64 (a : Int) 0 = (a : Int) ∧ bits .xor .i64 (a : Int) (-1) = -1 - (a : Int) := by
  have ho : (BitVec.ofInt 64 (a : Int)).toNat = a := ofInt_u64 a (by omega)
  constructor
  · have e : bits .xor .i64 (a : Int) 0 = IntKind.i64.wrap ((BitVec.ofInt 64 (a : Int) ^^^ BitVec.ofInt 64 0).toNat : Int) := rfl
    rw [e, BitVec.toNat_xor, ho, show (BitVec.ofInt 64 0).toNat = 0 from rfl, Nat.xor_zero]
    exact wrap_i64 (by omega) (by omega)
  · have e : bits .xor .i64 (a : Int) (-1) = IntKind.i64.wrap ((BitVec.ofInt 64 (a : Int) ^^^ BitVec.ofInt 64 (-1)).toNat : Int) := rfl
    rw [e, BitVec.toNat_xor, ho, show (BitVec.ofInt 64 (-1)).toNat = 2 ^ 64 - 1 from by decide, xor_ones a (by omega)]
    rw [IntKind.wrap_i64]
    omega
theorem unzig_bits (x : Nat) (h : x < 18446744073709551616) : bits .xor .i64 ((x / 2 : Nat) : Int) (-((x % 2 : Nat) : Int)) = unzig x := by
  obtain ⟨h1, h2⟩ := xor_i64 (x / 2) (by omega)
  unfold unzig
  by_cases hx : x % 2 = 0
  · rw [if_pos hx, hx]; exact h1
  · rw [if_neg hx, show x % 2 = 1 by omega]; exact h2
abbrev tiAV (p : Nat × Nat × Nat) : AV := .tup [.sc (.int .i64 (unzig p.1)), .sc (.int .i64 (p.2.1 : Nat)), .sc (.int .i64 (p.2.2 : Nat))]
theorem c_takeInt (b : List UInt8) (t : Tok) (a : Nat) (ha : a ≤ b.length) (hb : b.length ≤ 1000000) : AOk Tryz.prog 82 [.sl (u8s b) t, .sc (.int .i64 (a : Int))] H (tiAV (takeK b a)) H := by
  have hlt := takeK_lt b a
  refine ACalls.into Tryz.func82 rfl Tryz.ntmps82 Tryz.results82 (by simp) ?_
  simp -implicitDefEqProofs
  refine ACall.eq (c_packTake b t a ha hb) ?_
  obtain ⟨n, nx, e, hp⟩ : ∃ n nx e, takeK b a = (n, nx, e) := ⟨_, _, _, rfl⟩
  rw [hp] at hlt ⊢
  simp only at hlt ⊢
  have hz := unzig_bits n hlt
  have e1 : (n : Int).fdiv 2 = ((n / 2 : Nat) : Int) := by rw [Int.fdiv_eq_ediv_of_nonneg _ (by omega)]; omega
  have e2 : bits .and .u64 (n : Int) 1 = ((n % 2 : Nat) : Int) := by
    have := u64_and_nat n 1 hlt (by omega)
    rw [nat_mask1] at this
    exact this
  have e3 : IntKind.i64.wrap ((n : Int) / 2) = ((n / 2 : Nat) : Int) := by rw [wrap_i64 (by omega) (by omega)]; omega
  have e4 : IntKind.i64.wrap ((n : Int) % 2) = ((n % 2 : Nat) : Int) := by rw [wrap_i64 (by omega) (by omega)]; omega
  have e5 : IntKind.i64.wrap (-((n % 2 : Nat) : Int)) = -((n % 2 : Nat) : Int) := wrap_i64 (by omega) (by omega)
  simp -implicitDefEqProofs [e1, e2]
  rw [e3, e4, e5, hz]
end Go.Proofs.YtmoncokklkiikaaGreatDoor
namespace Go.Proofs.YtmoncokklkiikaaGreatDoor
open Rg Go
variable {H : Heap}
structure Ex where
  a : Fld
  b : Fld
  c : Fld
  d : Fld
  e : Fld
deriving DecidableEq
abbrev exC (x : Ex) : List AV := [.sc (.int .u64 x.a.bits), .sc (.bool x.a.star), .sc (.int .u64 x.b.bits), .sc (.bool x.b.star), .sc (.int .u64 x.c.bits), .sc (.bool x.c.star), .sc (.int .u64 x.d.bits), .sc (.bool x.d.star), .sc (.int .u64 x.e.bits), .sc (.bool x.e.star)]
abbrev exAV (x : Ex) : AV := .agg (exC x)
def Ex.get (x : Ex) : Nat → Fld
  | 0 => x.a
  | 1 => x.b
  | 2 => x.c
  | 3 => x.d
  | _ => x.e
structure Ex.ok (x : Ex) : Prop where
  a : x.a.bits < 18446744073709551616
  b : x.b.bits < 18446744073709551616
  c : x.c.bits < 18446744073709551616
  d : x.d.bits < 18446744073709551616
  e : x.e.bits < 18446744073709551616
def f0 : Fld := ⟨0, false⟩
def ex0 : Ex := ⟨f0, f0, f0, f0, f0⟩
def mayX (x : Ex) : Bool := mayB 0 x.a.bits && mayB 1 x.b.bits && mayB 2 x.c.bits && mayB 3 x.d.bits && mayB 4 x.e.bits
def dayFitsX (x : Ex) (c : Clk) : Bool :=
  mayX x && mayC c && hasB x.d.bits c.m && (if x.c.star = true ∨ x.e.star = true then hasB x.c.bits c.d && hasB x.e.bits c.w else hasB x.c.bits c.d || hasB x.e.bits c.w)
def fitsX (x : Ex) (c : Clk) : Bool := dayFitsX x c && hasB x.a.bits c.mi && hasB x.b.bits c.h
theorem lt_succ_all {P : Nat → Prop} {k : Nat} (h : ∀ i, i < k → P i) (hk : P k) : ∀ i, i < k + 1 → P i := fun i hi => by
  by_cases e : i = k
  · subst e; exact hk
  · exact h i (by omega)
theorem c_cronMay (x : Ex) (hx : x.ok) : AOk Tryz.prog 97 [exAV x] H (.sc (.bool (mayX x))) H := by
  refine ACalls.into Tryz.func97 rfl Tryz.ntmps97 Tryz.results97 (by simp) ?_
  simp -implicitDefEqProofs
  refine AAlloc.intro fun b1 h1 => ?_
  simp -implicitDefEqProofs
  refine AGo.rounds (fun m ρ K => ∃ j : Nat, j ≤ 5 ∧ m = 5 - j ∧ ρ 5 = exAV x ∧ ρ 6 = .sc (.int .i64 j) ∧ (∀ i, i < j → mayB (i : Int) (x.get i).bits = true) ∧ HWk H K) ?_ (m := 5) (HLe.refl _)
    ⟨0, by omega, rfl, by simp, by simp, fun i hi => by omega, HWk.new h1 (HWk.refl _)⟩
  rintro m ρ K ih ⟨j, hj, rfl, r5, r6, hm, hW⟩
  have hc : j = 0 ∨ j = 1 ∨ j = 2 ∨ j = 3 ∨ j = 4 ∨ j = 5 := by omega
  rcases hc with rfl | rfl | rfl | rfl | rfl | rfl
  · simp -implicitDefEqProofs [r5, r6]
    refine AAlloc.intro fun b hb => ?_
    have hW' : ∀ o, HWk H (K.set b o) := fun o => HWk.new (hW.none hb) hW
    simp -implicitDefEqProofs
    refine ACall.eq (c_may 0 x.a hx.a) ?_
    cases he : mayB 0 x.a.bits with
    | false => simp -implicitDefEqProofs [mayX, he]; exact hW' _
    | true =>
      simp -implicitDefEqProofs [r6, wrap_i64]
      exact AGo.again ih (m' := 4) (by omega) (HLe.refl _) ⟨1, by omega, rfl, by simp [r5], by simp, lt_succ_all (P := fun i : Nat => mayB (i : Int) (x.get i).bits = true) hm he, hW' _⟩
  · simp -implicitDefEqProofs [r5, r6]
    refine AAlloc.intro fun b hb => ?_
    have hW' : ∀ o, HWk H (K.set b o) := fun o => HWk.new (hW.none hb) hW
    simp -implicitDefEqProofs
    refine ACall.eq (c_may 1 x.b hx.b) ?_
    cases he : mayB 1 x.b.bits with
    | false => simp -implicitDefEqProofs [mayX, he]; exact hW' _
    | true =>
      simp -implicitDefEqProofs [r6, wrap_i64]
      exact AGo.again ih (m' := 3) (by omega) (HLe.refl _) ⟨2, by omega, rfl, by simp [r5], by simp, lt_succ_all (P := fun i : Nat => mayB (i : Int) (x.get i).bits = true) hm he, hW' _⟩
  · simp -implicitDefEqProofs [r5, r6]
    refine AAlloc.intro fun b hb => ?_
    have hW' : ∀ o, HWk H (K.set b o) := fun o => HWk.new (hW.none hb) hW
    simp -implicitDefEqProofs
    refine ACall.eq (c_may 2 x.c hx.c) ?_
    cases he : mayB 2 x.c.bits with
    | false => simp -implicitDefEqProofs [mayX, he]; exact hW' _
    | true =>
      simp -implicitDefEqProofs [r6, wrap_i64]
      exact AGo.again ih (m' := 2) (by omega) (HLe.refl _) ⟨3, by omega, rfl, by simp [r5], by simp, lt_succ_all (P := fun i : Nat => mayB (i : Int) (x.get i).bits = true) hm he, hW' _⟩
  · simp -implicitDefEqProofs [r5, r6]
    refine AAlloc.intro fun b hb => ?_
    have hW' : ∀ o, HWk H (K.set b o) := fun o => HWk.new (hW.none hb) hW
    simp -implicitDefEqProofs
    refine ACall.eq (c_may 3 x.d hx.d) ?_
    cases he : mayB 3 x.d.bits with
    | false => simp -implicitDefEqProofs [mayX, he]; exact hW' _
    | true =>
      simp -implicitDefEqProofs [r6, wrap_i64]
      exact AGo.again ih (m' := 1) (by omega) (HLe.refl _) ⟨4, by omega, rfl, by simp [r5], by simp, lt_succ_all (P := fun i : Nat => mayB (i : Int) (x.get i).bits = true) hm he, hW' _⟩
  · simp -implicitDefEqProofs [r5, r6]
    refine AAlloc.intro fun b hb => ?_
    have hW' : ∀ o, HWk H (K.set b o) := fun o => HWk.new (hW.none hb) hW
    simp -implicitDefEqProofs
    refine ACall.eq (c_may 4 x.e hx.e) ?_
    cases he : mayB 4 x.e.bits with
    | false => simp -implicitDefEqProofs [mayX, he]; exact hW' _
    | true =>
      simp -implicitDefEqProofs [r6, wrap_i64]
      exact AGo.again ih (m' := 0) (by omega) (HLe.refl _) ⟨5, by omega, rfl, by simp [r5], by simp, lt_succ_all (P := fun i : Nat => mayB (i : Int) (x.get i).bits = true) hm he, hW' _⟩
  · have g0 : mayB 0 x.a.bits = true := hm 0 (by omega)
    have g1 : mayB 1 x.b.bits = true := hm 1 (by omega)
    have g2 : mayB 2 x.c.bits = true := hm 2 (by omega)
    have g3 : mayB 3 x.d.bits = true := hm 3 (by omega)
    have g4 : mayB 4 x.e.bits = true := hm 4 (by omega)
    simp -implicitDefEqProofs [r5, r6, mayX, g0, g1, g2, g3, g4]
    exact hW
theorem c_allows {b : Nat} {x : Ex} (hb : H b = some (.cells (exC x) 42)) (hx : x.ok) (n : Int) :
    AOk Tryz.prog 145 [.sc (.int .i64 2), .sc (.int .i64 n), .sc (.pointer (some ⟨b, 0, none⟩))] H (.sc (.bool (hasB x.c.bits n))) H ∧
    AOk Tryz.prog 145 [.sc (.int .i64 3), .sc (.int .i64 n), .sc (.pointer (some ⟨b, 0, none⟩))] H (.sc (.bool (hasB x.d.bits n))) H ∧
    AOk Tryz.prog 145 [.sc (.int .i64 4), .sc (.int .i64 n), .sc (.pointer (some ⟨b, 0, none⟩))] H (.sc (.bool (hasB x.e.bits n))) H := by
  refine ⟨?_, ?_, ?_⟩
  · refine ACalls.into Tryz.func145 rfl Tryz.ntmps145 Tryz.results145 (by simp) ?_
    simp -implicitDefEqProofs [hb]
    refine ACall.eq (c_has x.c n hx.c) ?_
    simp -implicitDefEqProofs
  · refine ACalls.into Tryz.func145 rfl Tryz.ntmps145 Tryz.results145 (by simp) ?_
    simp -implicitDefEqProofs [hb]
    refine ACall.eq (c_has x.d n hx.d) ?_
    simp -implicitDefEqProofs
  · refine ACalls.into Tryz.func145 rfl Tryz.ntmps145 Tryz.results145 (by simp) ?_
    simp -implicitDefEqProofs [hb]
    refine ACall.eq (c_has x.e n hx.e) ?_
    simp -implicitDefEqProofs
theorem c_dayFits (x : Ex) (hx : x.ok) (c : Clk) : AOk Tryz.prog 93 [exAV x, cAV c] H (.sc (.bool (dayFitsX x c))) H := by
  refine ACalls.into Tryz.func93 rfl Tryz.ntmps93 Tryz.results93 (by simp) ?_
  simp -implicitDefEqProofs
  refine AAlloc.intro fun b2 h2 => ?_
  simp -implicitDefEqProofs
  refine AAlloc.intro fun b3 h3 => ?_
  have n32 : b3 ≠ b2 := by intro e; subst e; simp [Heap.set] at h3
  have n23 := n32.symm
  have e3 : H b3 = none := (HLe.set_fresh h2).none h3
  simp -implicitDefEqProofs [n32, n23]
  generalize hK : Heap.set _ b3 _ = K
  have k2 : K b2 = some (.cells (exC x) 42) := by rw [← hK]; simp [Heap.set, n23]
  have k3 : K b3 = some (.cells [.sc (.int .i64 c.y), .sc (.int .i64 c.m), .sc (.int .i64 c.d), .sc (.int .i64 c.h), .sc (.int .i64 c.mi), .sc (.int .i64 c.s), .sc (.int .i64 c.w)] 48) := by rw [← hK]; simp [Heap.set]
  have kW : HWk H K := by rw [← hK]; exact HWk.new e3 (HWk.new h2 (HWk.refl _))
  clear hK
  refine ACall.eq (c_cronMay x hx) ?_
  unfold dayFitsX
  cases hm : mayX x with
  | false => simp -implicitDefEqProofs; exact kW
  | true =>
    simp -implicitDefEqProofs [k3]
    refine ACall.eq (c_smay c) ?_
    cases hc : mayC c with
    | false => simp -implicitDefEqProofs; exact kW
    | true =>
      simp -implicitDefEqProofs
      refine go_draw 11 f_mixed (by decide +kernel) ?_
      simp -implicitDefEqProofs [k3]
      refine AQS.eq (c_allows k2 hx c.d).1 ?_
      simp -implicitDefEqProofs [k3]
      refine AQS.eq (c_allows k2 hx c.w).2.2 ?_
      obtain ⟨day, hday⟩ : ∃ z, hasB x.c.bits c.d = z := ⟨_, rfl⟩
      obtain ⟨week, hweek⟩ : ∃ z, hasB x.e.bits c.w = z := ⟨_, rfl⟩
      obtain ⟨mon, hmon⟩ : ∃ z, hasB x.d.bits c.m = z := ⟨_, rfl⟩
      have h3 := (c_allows (n := c.m) k2 hx).2.1
      rw [hmon] at h3
      rw [hday, hweek, hmon]
      cases hsc : x.c.star with
      | true =>
        simp -implicitDefEqProofs [k2, k3, hsc]
        refine ACall.eq h3 ?_
        cases mon <;> cases day <;> cases week <;> simp -implicitDefEqProofs <;> exact kW
      | false =>
        cases hse : x.e.star with
        | true =>
          simp -implicitDefEqProofs [k2, k3, hsc, hse]
          refine ACall.eq h3 ?_
          cases mon <;> cases day <;> cases week <;> simp -implicitDefEqProofs <;> exact kW
        | false =>
          simp -implicitDefEqProofs [k2, k3, hsc, hse]
          refine ACall.eq h3 ?_
          cases mon <;> cases day <;> cases week <;> simp -implicitDefEqProofs <;> exact kW
theorem c_fits (x : Ex) (hx : x.ok) (c : Clk) : AOk Tryz.prog 24 [exAV x, cAV c] H (.sc (.bool (fitsX x c))) H := by
  refine ACalls.into Tryz.func24 rfl Tryz.ntmps24 Tryz.results24 (by simp) ?_
  simp -implicitDefEqProofs
  refine AAlloc.intro fun b2 h2 => ?_
  simp -implicitDefEqProofs
  refine AAlloc.intro fun b3 h3 => ?_
  have n32 : b3 ≠ b2 := by intro e; subst e; simp [Heap.set] at h3
  have n23 := n32.symm
  have e3 : H b3 = none := (HLe.set_fresh h2).none h3
  simp -implicitDefEqProofs [n32, n23]
  generalize hK : Heap.set _ b3 _ = K
  have k2 : K b2 = some (.cells (exC x) 42) := by rw [← hK]; simp [Heap.set, n23]
  have k3 : K b3 = some (.cells [.sc (.int .i64 c.y), .sc (.int .i64 c.m), .sc (.int .i64 c.d), .sc (.int .i64 c.h), .sc (.int .i64 c.mi), .sc (.int .i64 c.s), .sc (.int .i64 c.w)] 48) := by rw [← hK]; simp [Heap.set]
  have kW : HWk H K := by rw [← hK]; exact HWk.new e3 (HWk.new h2 (HWk.refl _))
  clear hK
  refine ACall.eq (c_dayFits x hx c) ?_
  unfold fitsX
  cases hd : dayFitsX x c with
  | false => simp -implicitDefEqProofs; exact kW
  | true =>
    simp -implicitDefEqProofs [k2, k3]
    refine ACall.eq (c_has x.a c.mi hx.a) ?_
    cases hm : hasB x.a.bits c.mi with
    | false => simp -implicitDefEqProofs; exact kW
    | true =>
      simp -implicitDefEqProofs [k2, k3]
      refine ACall.eq (c_has x.b c.h hx.b) ?_
      simp -implicitDefEqProofs
      exact kW
end Go.Proofs.YtmoncokklkiikaaGreatDoor
namespace Go.Proofs.YtmoncokklkiikaaGreatDoor
open Rg Go
theorem mayC_clk {t : Nat} (h : t < 13569465600) : mayC (clk t) = true := by
  obtain ⟨i, d, hi, hd, hn⟩ := day_of (n := t / 86400) (by omega)
  have hc := civ_at hi hd
  rw [← hn] at hc
  unfold mayC wdayC clk
  rw [hc]
  simp only [Int.toNat_natCast, days_of, ← hn, mayD_of hi hd, Bool.and_eq_true, decide_eq_true_eq, and_true]
  omega
def dayB (x : Ex) (n : Nat) : Bool :=
  hasB x.d.bits (civ n).2.1 && (if x.c.star = true ∨ x.e.star = true then hasB x.c.bits (civ n).2.2 && hasB x.e.bits ((n + 4) % 7 : Nat) else hasB x.c.bits (civ n).2.2 || hasB x.e.bits ((n + 4) % 7 : Nat))
theorem day_clk (x : Ex) {t : Nat} (h : t < 13569465600) : dayFitsX x (clk t) = (mayX x && dayB x (t / 86400)) := by
  unfold dayFitsX dayB
  rw [mayC_clk h, Bool.and_true, Bool.and_assoc]
  rfl
theorem day_n (x : Ex) {n : Nat} (h : n < 157054) : dayFitsX x (clk (n * 86400)) = (mayX x && dayB x n) := by
  rw [day_clk x (by omega)]
  congr 2
  omega
def fireB (x : Ex) (t : Nat) : Bool := decide (t % 60 = 0) && fitsX x (clk t)
theorem fire_eq (x : Ex) {t : Nat} (h : t < 13569465600) : fireB x t = true ↔ t % 60 = 0 ∧ mayX x = true ∧ dayB x (t / 86400) = true ∧ hasB x.a.bits (t % 3600 / 60 : Nat) = true ∧ hasB x.b.bits (t % 86400 / 3600 : Nat) = true := by
  unfold fireB fitsX
  rw [day_clk x h]
  simp only [Bool.and_eq_true, decide_eq_true_eq, and_assoc]
  rfl
theorem fire_mk {x : Ex} {n h m : Nat} (hn : n < 157054) (hh : h < 24) (hm : m < 60) (hx : mayX x = true) (hd : dayB x n = true) (ha : hasB x.a.bits (m : Int) = true) (hb : hasB x.b.bits (h : Int) = true) : fireB x (n * 86400 + h * 3600 + m * 60) = true := by
  rw [fire_eq x (by omega)]
  rw [show (n * 86400 + h * 3600 + m * 60) / 86400 = n by omega, show (n * 86400 + h * 3600 + m * 60) % 3600 / 60 = m by omega, show (n * 86400 + h * 3600 + m * 60) % 86400 / 3600 = h by omega]
  exact ⟨by omega, hx, hd, ha, hb⟩
theorem fire_inv {x : Ex} {t : Nat} (h : t < 13569465600) (hf : fireB x t = true) : ∃ n h m : Nat, n < 157054 ∧ h < 24 ∧ m < 60 ∧ t = n * 86400 + h * 3600 + m * 60 ∧ mayX x = true ∧ dayB x n = true ∧ hasB x.a.bits (m : Int) = true ∧ hasB x.b.bits (h : Int) = true := by
  obtain ⟨h0, h1, h2, h3, h4⟩ := (fire_eq x h).1 hf
  exact ⟨t / 86400, t % 86400 / 3600, t % 3600 / 60, by omega, by omega, by omega, by omega, h1, h2, h3, h4⟩
def IsLast (x : Ex) (t : Nat) : Option Nat → Prop
  | some n => n ≤ t ∧ fireB x n = true ∧ ∀ k, n < k → k ≤ t → fireB x k = false
  | none => ∀ k, k ≤ t → fireB x k = false
def IsNext (x : Ex) (t : Nat) : Option Nat → Prop
  | some n => t < n ∧ n < 13569465600 ∧ fireB x n = true ∧ ∀ k, t < k → k < n → fireB x k = false
  | none => ∀ k, t < k → k < 13569465600 → fireB x k = false
theorem last_one {x : Ex} {t : Nat} : ∀ {r s : Option Nat}, IsLast x t r → IsLast x t s → r = s
  | none, none, _, _ => rfl
  | none, some m, hr, ⟨h1, h2, _⟩ => by have := hr m h1; rw [h2] at this; cases this
  | some m, none, ⟨h1, h2, _⟩, hs => by have := hs m h1; rw [h2] at this; cases this
  | some m, some n, ⟨h1, h2, h3⟩, ⟨g1, g2, g3⟩ => by
    rcases Nat.lt_trichotomy m n with h | h | h
    · have := h3 n h g1; rw [g2] at this; cases this
    · rw [h]
    · have := g3 m h h1; rw [h2] at this; cases this
theorem next_one {x : Ex} {t : Nat} : ∀ {r s : Option Nat}, IsNext x t r → IsNext x t s → r = s
  | none, none, _, _ => rfl
  | none, some m, hr, ⟨h1, h0, h2, _⟩ => by have := hr m h1 h0; rw [h2] at this; cases this
  | some m, none, ⟨h1, h0, h2, _⟩, hs => by have := hs m h1 h0; rw [h2] at this; cases this
  | some m, some n, ⟨h1, h0, h2, h3⟩, ⟨g1, g0, g2, g3⟩ => by
    rcases Nat.lt_trichotomy m n with h | h | h
    · have := g3 m h1 h; rw [h2] at this; cases this
    · rw [h]
    · have := h3 n g1 h; rw [g2] at this; cases this
theorem last_ex (x : Ex) : ∀ t : Nat, ∃ r, IsLast x t r
  | 0 => by
    cases h : fireB x 0 with
    | true => exact ⟨some 0, Nat.le_refl _, h, fun k h1 h2 => by omega⟩
    | false => exact ⟨none, fun k hk => by rw [show k = 0 by omega]; exact h⟩
  | t + 1 => by
    cases h : fireB x (t + 1) with
    | true => exact ⟨some (t + 1), Nat.le_refl _, h, fun k h1 h2 => by omega⟩
    | false =>
      have up : ∀ k, k ≤ t + 1 → (k ≤ t → fireB x k = false) → fireB x k = false := fun k hk h1 => by
        by_cases e : k = t + 1
        · rw [e]; exact h
        · exact h1 (by omega)
      obtain ⟨r, hr⟩ := last_ex x t
      match r, hr with
      | none, hr => exact ⟨none, fun k hk => up k hk (hr k)⟩
      | some n, ⟨h1, h2, h3⟩ => exact ⟨some n, by omega, h2, fun k g1 g2 => up k g2 (h3 k g1)⟩
theorem first_ex (P : Nat → Bool) (t : Nat) : ∀ m : Nat, (∃ n, t < n ∧ n < m ∧ P n = true ∧ ∀ k, t < k → k < n → P k = false) ∨ ∀ k, t < k → k < m → P k = false
  | 0 => .inr fun k _ h => by omega
  | m + 1 => by
    rcases first_ex P t m with ⟨n, h1, h2, h3, h4⟩ | h
    · exact .inl ⟨n, h1, by omega, h3, h4⟩
    · by_cases hm : t < m ∧ P m = true
      · exact .inl ⟨m, hm.1, by omega, hm.2, fun k g1 g2 => h k g1 g2⟩
      · refine .inr fun k g1 g2 => ?_
        by_cases e : k = m
        · subst e
          cases hp : P k with
          | false => rfl
          | true => exact absurd ⟨g1, hp⟩ hm
        · exact h k g1 (by omega)
theorem next_ex (x : Ex) (t : Nat) : ∃ r, IsNext x t r := by
  rcases first_ex (fireB x) t 13569465600 with ⟨n, h1, h2, h3, h4⟩ | h
  · exact ⟨some n, h1, h2, h3, h4⟩
  · exact ⟨none, h⟩
def optN : Option Nat → Nat
  | some n => n
  | none => 0
def errN : Option Nat → Nat
  | some _ => 0
  | none => 5
theorem last_of_none {x : Ex} {t : Nat} (hx : mayX x = false) (ht : t < 13569465600) : IsLast x t none := fun k hk => by
  cases h : fireB x k with
  | false => rfl
  | true => obtain ⟨_, h1, _⟩ := (fire_eq x (by omega)).1 h; rw [hx] at h1; cases h1
theorem day_at {n : Nat} (h : n < 157054) : ∃ i d, i < 5160 ∧ d < mLen i ∧ n = mFirst i + d ∧ (civ n).1 = 1970 + i / 12 ∧ (civ n).2.1 = i % 12 + 1 ∧ (civ n).2.2 = d + 1 := by
  obtain ⟨i, d, hi, hd, rfl⟩ := day_of h
  refine ⟨i, d, hi, hd, rfl, ?_⟩
  rw [civ_at hi hd]
  exact ⟨rfl, rfl, rfl⟩
theorem civ_month {n : Nat} (h : n < 157054) : 1 ≤ (civ n).2.1 ∧ (civ n).2.1 ≤ 12 ∧ 1 ≤ (civ n).2.2 ∧ (civ n).2.2 ≤ mLong (civ n).1 (civ n).2.1 ∧ mLong (civ n).1 (civ n).2.1 ≤ 31 ∧ 1970 ≤ (civ n).1 ∧ (civ n).1 ≤ 2399 ∧ (civ n).2.2 ≤ n + 1 := by
  obtain ⟨i, d, hi, hd, hn, e1, e2, e3⟩ := day_at h
  have := mLen_le i
  rw [e1, e2, e3]
  unfold mLen at *
  omega
theorem civ_same {n k : Nat} (hn : n < 157054) (h1 : n ≤ k + ((civ n).2.2 - 1)) (h2 : k + (civ n).2.2 ≤ n + mLong (civ n).1 (civ n).2.1) : k < 157054 ∧ (civ k).2.1 = (civ n).2.1 := by
  obtain ⟨i, d, hi, hd, hn, e1, e2, e3⟩ := day_at hn
  rw [e1, e2, e3] at h2
  rw [e3] at h1
  have e : k = mFirst i + (k - mFirst i) := by omega
  have hk : k - mFirst i < mLen i := by unfold mLen; omega
  have h4 := mFirst_mono (i := i + 1) (j := 5160) (by omega) (Nat.le_refl _)
  rw [mFirst_succ hi, mFirst_end] at h4
  refine ⟨by omega, ?_⟩
  rw [e2, e, civ_at hi hk]
theorem civ_succ {n : Nat} (h : n + 1 < 157054) : civ (n + 1) = if (civ n).2.2 < mLong (civ n).1 (civ n).2.1 then ((civ n).1, (civ n).2.1, (civ n).2.2 + 1) else if (civ n).2.1 < 12 then ((civ n).1, (civ n).2.1 + 1, 1) else ((civ n).1 + 1, 1, 1) := by
  obtain ⟨i, d, hi, hd, hn, e1, e2, e3⟩ := day_at (n := n) (by omega)
  have hm : mLong (1970 + i / 12) (i % 12 + 1) = mLen i := rfl
  rw [e1, e2, e3, hm]
  by_cases hl : d + 1 < mLen i
  · have := civ_at hi hl
    rw [if_pos hl, hn, Nat.add_assoc, this]
  · have hs := mFirst_succ hi
    have hi2 : i + 1 < 5160 := by
      refine Nat.lt_of_not_le fun hc => ?_
      rw [show i + 1 = 5160 by omega, mFirst_end] at hs
      omega
    have := civ_at hi2 (d := 0) (mLen_pos hi2)
    rw [if_neg hl, show n + 1 = mFirst (i + 1) + 0 by omega, this]
    split
    · have : (i + 1) / 12 = i / 12 := by omega
      rw [this]
      simp only [Prod.mk.injEq, true_and]
      refine ⟨by omega, trivial⟩
    · simp only [Prod.mk.injEq]
      refine ⟨by omega, by omega, trivial⟩
theorem civ_pred {n : Nat} (h : n + 1 < 157054) : civ n = if 1 < (civ (n + 1)).2.2 then ((civ (n + 1)).1, (civ (n + 1)).2.1, (civ (n + 1)).2.2 - 1) else if 1 < (civ (n + 1)).2.1 then ((civ (n + 1)).1, (civ (n + 1)).2.1 - 1, mLong (civ (n + 1)).1 ((civ (n + 1)).2.1 - 1)) else ((civ (n + 1)).1 - 1, 12, 31) := by
  obtain ⟨i, d, hi, hd, hn, e1, e2, e3⟩ := day_at (n := n) (by omega)
  have hs := civ_succ h
  rw [e1, e2, e3] at hs
  have hcn : civ n = (1970 + i / 12, i % 12 + 1, d + 1) := by rw [hn]; exact civ_at hi hd
  rw [hcn]
  by_cases hl : d + 1 < mLong (1970 + i / 12) (i % 12 + 1)
  · rw [if_pos hl] at hs
    rw [hs, if_pos (by simp)]
    simp
  · rw [if_neg hl] at hs
    have hd1 : d + 1 = mLong (1970 + i / 12) (i % 12 + 1) := by unfold mLen at hd; omega
    by_cases hm : i % 12 + 1 < 12
    · rw [if_pos hm] at hs
      rw [hs, if_neg (by simp), if_pos (by simp)]
      simp only [Nat.add_sub_cancel, Prod.mk.injEq, true_and]
      exact hd1
    · rw [if_neg hm] at hs
      rw [hs, if_neg (by simp), if_neg (by simp)]
      have h12 : i % 12 + 1 = 12 := by omega
      rw [h12] at hd1 ⊢
      have : mLong (1970 + i / 12) 12 = 31 := by simp [mLong]
      simp only [Prod.mk.injEq, true_and]
      omega
def firesL (x : Ex) (a b : Int) : List Nat := (List.range (b + 1).toNat).filter fun k => decide (a < (k : Int)) && fireB x k
def newest {α : Type} (m : Nat) (L : List α) : List α := L.drop (L.length - m)
theorem fires_mem {x : Ex} {a b : Int} {n : Nat} : n ∈ firesL x a b ↔ (n : Int) ≤ b ∧ a < (n : Int) ∧ fireB x n = true := by
  unfold firesL
  rw [List.mem_filter, List.mem_range]
  simp only [Bool.and_eq_true, decide_eq_true_eq]
  exact ⟨fun h => ⟨by omega, h.2.1, h.2.2⟩, fun h => ⟨by omega, h.2.1, h.2.2⟩⟩
theorem range_split : ∀ (b a : Nat), a ≤ b → List.range b = List.range a ++ List.range' a (b - a)
  | b, a, h => by
    rw [List.range_eq_range', List.range_eq_range']
    have := List.range'_append_1 (s := 0) (m := a) (n := b - a)
    rw [Nat.zero_add, show a + (b - a) = b by omega] at this
    exact this.symm
theorem fires_none {x : Ex} {a b : Int} (h : ∀ k : Nat, a < (k : Int) → (k : Int) ≤ b → fireB x k = false) : firesL x a b = [] := by
  rw [List.eq_nil_iff_forall_not_mem]
  intro n hn
  obtain ⟨h1, h2, h3⟩ := fires_mem.1 hn
  rw [h n h2 h1] at h3
  cases h3
theorem fires_split {x : Ex} {a m b : Int} (h1 : a ≤ m) (h2 : m ≤ b) (h0 : -1 ≤ a) : firesL x a b = firesL x a m ++ firesL x m b := by
  unfold firesL
  rw [range_split (b + 1).toNat (m + 1).toNat (by omega), List.filter_append, List.filter_append]
  have e1 : ∀ L : List Nat, (∀ k ∈ L, (k : Int) ≤ m) → L.filter (fun k : Nat => decide (m < (k : Int)) && fireB x k) = [] := by
    intro L hL
    rw [List.filter_eq_nil_iff]
    intro k hk
    have := hL k hk
    simp only [Bool.and_eq_true, decide_eq_true_eq, not_and]
    omega
  rw [e1 (List.range (m + 1).toNat) fun k hk => by rw [List.mem_range] at hk; omega, List.nil_append]
  congr 1
  refine List.filter_congr fun k hk => ?_
  rw [List.mem_range'_1] at hk
  rw [decide_eq_true (by omega : a < (k : Int)), decide_eq_true (by omega : m < (k : Int))]
theorem fires_last {x : Ex} {a : Int} {n t : Nat} (h0 : -1 ≤ a) (ha : a < (n : Int)) (hl : IsLast x t (some n)) : firesL x a (t : Int) = firesL x a ((n : Int) - 1) ++ [n] := by
  obtain ⟨h1, h2, h3⟩ := hl
  rw [fires_split (m := (n : Int) - 1) (by omega) (by omega) h0]
  congr 1
  rw [fires_split (m := (n : Int)) (by omega) (by omega) (by omega), fires_none (a := (n : Int)) fun k g1 g2 => h3 k (by omega) (by omega), List.append_nil]
  unfold firesL
  rw [show ((n : Int) + 1).toNat = n + 1 by omega, List.range_succ, List.filter_append]
  have : List.filter (fun k : Nat => decide ((n : Int) - 1 < (k : Int)) && fireB x k) (List.range n) = [] := by
    rw [List.filter_eq_nil_iff]
    intro k hk
    rw [List.mem_range] at hk
    simp only [Bool.and_eq_true, decide_eq_true_eq, not_and]
    omega
  rw [this, List.nil_append, List.filter_cons_of_pos]
  · rfl
  · simp only [Bool.and_eq_true, decide_eq_true_eq]
    exact ⟨by omega, h2⟩
theorem fires_nil_last {x : Ex} {a : Int} {t : Nat} {r : Option Nat} (hl : IsLast x t r) (h : ∀ n, r = some n → (n : Int) ≤ a) : firesL x a (t : Int) = [] := by
  refine fires_none fun k h1 h2 => ?_
  match r, hl, h with
  | none, hl, _ => exact hl k (by omega)
  | some n, ⟨g1, g2, g3⟩, h => exact g3 k (by have := h n rfl; omega) (by omega)
theorem newest_app {α : Type} (m : Nat) (A B : List α) : newest m (A ++ B) = newest m (newest m A ++ newest m B) := by
  unfold newest
  by_cases h : B.length ≤ m
  · have e : B.length - m = 0 := by omega
    rw [e, List.drop_zero]
    rw [List.drop_append, List.drop_append]
    simp only [List.length_append, List.length_drop]
    have e1 : A.length + B.length - m - A.length = 0 := by omega
    have e2 : (A.length - (A.length - m)) + B.length - m - (A.length - (A.length - m)) = 0 := by omega
    rw [e1, e2, List.drop_zero, List.drop_drop]
    congr 2
    omega
  · rw [List.drop_append, List.drop_append]
    simp only [List.length_append, List.length_drop]
    have e1 : List.drop (A.length + B.length - m) A = [] := List.drop_eq_nil_of_le (by omega)
    have e2 : List.drop ((A.length - (A.length - m)) + (B.length - (B.length - m)) - m) (List.drop (A.length - m) A) = [] := by
      refine List.drop_eq_nil_of_le ?_
      simp only [List.length_drop]
      omega
    rw [e1, e2, List.nil_append, List.nil_append, List.drop_drop]
    congr 1
    omega
theorem newest_snoc {α : Type} {m : Nat} (L : List α) (y : α) : newest (m + 1) (L ++ [y]) = newest m L ++ [y] := by
  unfold newest
  rw [List.length_append, List.length_singleton, List.drop_append, show L.length + 1 - (m + 1) = L.length - m by omega]
  congr 1
  rw [show L.length - m - L.length = 0 by omega, List.drop_zero]
theorem newest_nil {α : Type} (m : Nat) : newest m ([] : List α) = [] := by simp [newest]
theorem newest_zero {α : Type} (L : List α) : newest 0 L = [] := by simp [newest]
theorem newest_len {α : Type} (m : Nat) (L : List α) : (newest m L).length ≤ m := by simp [newest]; omega
theorem newest_sub {α : Type} {m : Nat} {L : List α} {y : α} (h : y ∈ newest m L) : y ∈ L := List.mem_of_mem_drop h
theorem fires_sorted (x : Ex) (a b : Int) : (firesL x a b).Pairwise (· < ·) := List.Pairwise.filter _ List.pairwise_lt_range
theorem newest_sorted {m : Nat} {L : List Nat} (h : L.Pairwise (· < ·)) : (newest m L).Pairwise (· < ·) := List.Pairwise.sublist (List.drop_sublist _ _) h
end Go.Proofs.YtmoncokklkiikaaGreatDoor
