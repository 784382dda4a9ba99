/- The document's parse of a field. -/
import Derived.Test.YtdpgnbinekcgdaaGreatDoorRefW
namespace Go.Proofs.YtdpgnbinekcgdaaGreatDoor
open Rg Go

variable {H : Heap}

theorem add_or {a i : Nat} (ha : a < 18446744073709551616) (hi : i < 64) (h : a.testBit i = false) : IntKind.u64.wrap ((a : Int) + (pow2 i : Int)) = ((a ||| pow2 i : Nat) : Int) := by
  have hp := pow2_small hi
  have hand : (BitVec.ofNat 64 a) &&& (BitVec.ofNat 64 (pow2 i)) = 0#64 := by
    apply BitVec.eq_of_toNat_eq
    rw [BitVec.toNat_and, BitVec.toNat_ofNat, BitVec.toNat_ofNat, Nat.mod_eq_of_lt ha, Nat.mod_eq_of_lt hp]
    show a &&& pow2 i = 0
    apply Nat.eq_of_testBit_eq
    intro j
    rw [Nat.testBit_and, testBit_pow2, Nat.zero_testBit]
    by_cases hj : i = j
    · subst hj; rw [h]; rfl
    · simp [hj]
  have e := congrArg BitVec.toNat (BitVec.add_eq_or_of_and_eq_zero _ _ hand)
  rw [BitVec.toNat_add, BitVec.toNat_or, BitVec.toNat_ofNat, BitVec.toNat_ofNat, Nat.mod_eq_of_lt ha, Nat.mod_eq_of_lt hp] at e
  rw [← e]
  simp [IntKind.wrap, IntKind.signed, IntKind.bits]
theorem or_same {a i : Nat} (h : a.testBit i = true) : a ||| pow2 i = a := by
  apply Nat.eq_of_testBit_eq
  intro j
  rw [Nat.testBit_or, testBit_pow2]
  by_cases hj : i = j
  · subst hj; simp [h]
  · simp [hj]
theorem orRow_snoc (M : Nat) (l : List Nat) (n set : Nat) : orRow M (l ++ [n]) set = orRow M l set ||| pow2 (modN n M) := by unfold orRow; rw [List.foldl_append]; rfl
theorem orRow_lt {M : Nat} (h0 : 0 < M) (h1 : M ≤ 64) : ∀ (l : List Nat) (set : Nat), set < 18446744073709551616 → orRow M l set < 18446744073709551616
  | [], set, h => h
  | n :: l, set, h => orRow_lt h0 h1 l _ (or_small h (pow2_small (Nat.lt_of_lt_of_le (modN_lt n h0) h1)))
theorem orRow_or (M : Nat) : ∀ (l : List Nat) (a b : Nat), orRow M l (a ||| b) = a ||| orRow M l b
  | [], a, b => rfl
  | n :: l, a, b => by
    show orRow M l ((a ||| b) ||| pow2 (modN n M)) = a ||| orRow M l (b ||| pow2 (modN n M))
    rw [← orRow_or M l a, Nat.or_assoc]
theorem seven {k : Int} (hk : isK k = true) {n : Nat} (hn : (n : Int) ≤ highK k) : (if k = 4 ∧ (n : Int) = 7 then (0 : Int) else n) = (modN n (mostK k + 1).toNat : Int) := by
  unfold modN
  rcases isK_cases hk with rfl | rfl | rfl | rfl | rfl
  · have : (n : Int) ≤ 59 := hn
    rw [if_neg (by omega), show (mostK 0 + 1).toNat = 60 from rfl, Nat.mod_eq_of_lt (by omega)]
  · have : (n : Int) ≤ 23 := hn
    rw [if_neg (by omega), show (mostK 1 + 1).toNat = 24 from rfl, Nat.mod_eq_of_lt (by omega)]
  · have : (n : Int) ≤ 31 := hn
    rw [if_neg (by omega), show (mostK 2 + 1).toNat = 32 from rfl, Nat.mod_eq_of_lt (by omega)]
  · have : (n : Int) ≤ 12 := hn
    rw [if_neg (by omega), show (mostK 3 + 1).toNat = 13 from rfl, Nat.mod_eq_of_lt (by omega)]
  · have : (n : Int) ≤ 7 := hn
    rw [show (mostK 4 + 1).toNat = 7 from rfl]
    by_cases h : (n : Int) = 7
    · rw [if_pos ⟨rfl, h⟩]; omega
    · rw [if_neg (fun e => h e.2), Nat.mod_eq_of_lt (by omega)]

theorem rowFrom_len (step : Nat) (last : Int) : ∀ (f n : Nat), (rowFrom step last f n).length ≤ f
  | 0, n => by simp [rowFrom]
  | f + 1, n => by
    unfold rowFrom
    split
    · have := rowFrom_len step last f (n + step); simp; omega
    · simp
theorem refItem_len (k : Int) (s : List UInt8) : (refItem k s).1.length ≤ 200 := by
  have hE : ∀ {a b c : Int}, (refEnd a b c).1.length ≤ 200 := fun {a b c} => by
    unfold refEnd
    split
    · simp
    · exact rowFrom_len _ _ _ _
  have hEs : ∀ {a b c : Int}, (refEnds k a b c).1.length ≤ 200 := fun {a b c} => by
    unfold refEnds
    (repeat' split) <;> first | exact hE | simp
  have hB : ∀ {b : List UInt8} {t : Bool} {c : Int}, (refBody k b t c).1.length ≤ 200 := fun {b t c} => by
    unfold refBody
    (repeat' split) <;> first | exact hE | exact hEs | simp
  unfold refItem
  (repeat' split) <;> first | exact hB | simp
theorem parseGo_ref {k : Int} (hk : isK k = true) (x : List UInt8) (r : List (List UInt8)) (f : Fld) :
    parseGo k (x :: r) f = if (refItem k x).2 ≠ 0 then (⟨0, false⟩, (refItem k x).2) else parseGo k r ⟨f.bits ||| orRow (mostK k + 1).toNat (refItem k x).1 0, f.star⟩ := by
  have e := item_ref hk x
  rw [parseGo, e]
  rfl
theorem parse_sp (k : Int) (s : List UInt8) : parseK k s = if isK k = false then (⟨0, false⟩, 2) else if 150 < s.length then (⟨0, false⟩, 3) else parseGo k (sp 44 s) ⟨0, Lib.hasPrefix s [42]⟩ := by
  unfold parseK; rw [split_sp]

theorem c_refParse (k : Int) (s : List UInt8) (hs : s.length ≤ 1000000) : AOk Tryz.prog 12 [.sc (.int .i64 k), str s] H (.tup [fAV (parseK k s).1, .sc (.int .i64 (parseK k s).2)]) H := by
  rw [parse_sp]
  refine ACalls.into Tryz.func12 rfl Tryz.ntmps12 Tryz.results12 (by simp) ?_
  simp -implicitDefEqProofs [fAV]
  refine AAlloc.intro fun b4 h4 => ?_
  have hW : ∀ o, HWk H (H.set b4 o) := fun o => HWk.new h4 (HWk.refl _)
  have hW2 : ∀ o o', HWk H ((H.set b4 o).set b4 o') := fun o o' => by rw [Heap.set_set]; exact hW _
  by_cases k0 : k < 0
  · have e : isK k = false := by simp [isK]; omega
    simp -implicitDefEqProofs [k0, e]
    exact hW _
  · by_cases k4 : 4 < k
    · have e : isK k = false := by simp [isK]; omega
      simp -implicitDefEqProofs [k0, k4, e]
      exact hW _
    · have hk : isK k = true := by simp [isK]; omega
      rw [if_neg (by simp [hk])]
      by_cases hl : 150 < s.length
      · have hl' : (150 : Int) < s.length := by omega
        simp -implicitDefEqProofs [k0, k4, hl, hl']
        exact hW _
      · have hl' : ¬ (150 : Int) < s.length := by omega
        rw [if_neg hl]
        obtain ⟨st, hst⟩ : ∃ st, Lib.hasPrefix s [42] = st := ⟨_, rfl⟩
        rw [hst]
        have hcase : (¬ 0 < s.length ∧ st = false) ∨ (∃ h : 0 < s.length, s[0] = 42 ∧ st = true) ∨ (∃ h : 0 < s.length, ¬ s[0] = 42 ∧ st = false) := by
          cases s with
          | nil => exact .inl ⟨by simp, by rw [← hst]; rfl⟩
          | cons c r =>
            have e : st = (42 == c) := by rw [← hst]; unfold Lib.hasPrefix; simp [List.isPrefixOf]
            by_cases hc : c = 42
            · exact .inr (.inl ⟨by simp, hc, by rw [e, hc]; rfl⟩)
            · exact .inr (.inr ⟨by simp, hc, by rw [e]; simpa using Ne.symm hc⟩)
        have hm : ∀ x ∈ sp 44 s, x.length ≤ 1000000 := fun x hx => Nat.le_trans (sp_len _ _ x hx) hs
        have hL := split_length s [44] (by decide)
        rw [split_sp] at hL
        clear hst
        rcases hcase with ⟨c0, rfl⟩ | ⟨c0, c1, rfl⟩ | ⟨c0, c1, rfl⟩
        · have c0' : ¬ (0 : Int) < s.length := by omega
          simp -implicitDefEqProofs [k0, k4, hl, hl', c0, c0']
          refine AAlloc.intro fun b6 h6 => ?_
          have n64 : b6 ≠ b4 := by intro e; subst e; simp [Heap.set] at h6
          have e6 : H b6 = none := (HLe.set_fresh h4).none h6
          simp -implicitDefEqProofs
          generalize hK : Heap.set _ b6 _ = K
          have k6 : K b6 = some (.cells [.sc (.int .u64 (0 : Nat)), .sc (.bool false)] 25) := by rw [← hK]; simp [Heap.set]
          have k4' : K b4 = some (.cells [.sc (.int .u64 (0 : Nat)), .sc (.bool false)] 25) := by rw [← hK]; simp [Heap.set, n64.symm]
          have kW : HWk H K := by rw [← hK]; exact HWk.new e6 (HWk.new h4 (HWk.refl _))
          clear hK hW hW2
          refine ACall.eq (c_refSplit44 s hs) ?_
          generalize sp 44 s = L at hm hL ⊢
          simp -implicitDefEqProofs
          generalize hres : parseGo k L _ = res
          refine AGo.rounds (fun m ρ K => ∃ (j : Nat) (f : Fld), j ≤ L.length ∧ m = L.length - j ∧ ρ 0 = .sc (.int .i64 k) ∧ ρ 4 = .sc (.pointer (some ⟨b4, 0, none⟩)) ∧ ρ 6 = .sc (.pointer (some ⟨b6, 0, none⟩)) ∧ ρ 7 = .sl (strL L) .no ∧ ρ 8 = .sc (.int .i64 j) ∧
            f.bits < 18446744073709551616 ∧ parseGo k (L.drop j) f = res ∧ K b4 = some (.cells [.sc (.int .u64 (0 : Nat)), .sc (.bool false)] 25) ∧ K b6 = some (.cells [.sc (.int .u64 f.bits), .sc (.bool f.star)] 25) ∧ HWk H K) ?_ (m := L.length) (HLe.refl _)
            ⟨0, ⟨0, false⟩, by omega, by omega, by simp, by simp, by simp, by simp, by simp, (by decide : (0 : Nat) < 18446744073709551616), by simpa using hres, k4', k6, kW⟩
          clear k4' k6 kW
          rintro m ρ K1 ih ⟨j, f, hj, rfl, r0, r4, r6, r7, r8, hf, hgo, q4, q6, qW⟩
          by_cases hlt : j < L.length
          · have hmem : L[j] ∈ L := List.getElem_mem hlt
            rw [List.drop_eq_getElem_cons hlt] at hgo
            rw [parseGo_ref hk] at hgo
            have hin := refItem_in hk L[j]
            have hlen := refItem_len k L[j]
            simp -implicitDefEqProofs [r0, r7, r8, hlt]
            refine ACall.eq (c_refItem hk L[j] (hm _ hmem)) ?_
            generalize refItem k L[j] = it at *
            obtain ⟨l, er⟩ := it
            simp only at hgo hin hlen ⊢
            by_cases he : er = 0
            · rw [if_neg (by simp [he])] at hgo
              obtain ⟨M, hM⟩ : ∃ M, (mostK k + 1).toNat = M := ⟨_, rfl⟩
              obtain ⟨M', hM1, hM7, hM60⟩ := mostK_nat hk
              have hMM : M = M' := by omega
              rw [hM] at hgo
              have hwj : IntKind.i64.wrap ((j : Int) + 1) = ((j + 1 : Nat) : Int) := by rw [wrap_i64 (by omega) (by omega)]; push_cast; rfl
              simp -implicitDefEqProofs [he]
              refine AGo.joinLoop (fun ρ K => ρ 0 = .sc (.int .i64 k) ∧ ρ 4 = .sc (.pointer (some ⟨b4, 0, none⟩)) ∧ ρ 6 = .sc (.pointer (some ⟨b6, 0, none⟩)) ∧ ρ 7 = .sl (strL L) .no ∧ ρ 8 = .sc (.int .i64 j) ∧ K b4 = some (.cells [.sc (.int .u64 (0 : Nat)), .sc (.bool false)] 25) ∧ K b6 = some (.cells [.sc (.int .u64 (orRow M l f.bits : Nat)), .sc (.bool f.star)] 25) ∧ HWk H K) (fun k' hk' => ?_) ?_
              · refine AGo.rounds (fun m ρ K => ∃ i : Nat, i ≤ l.length ∧ m = l.length - i ∧ ρ 0 = .sc (.int .i64 k) ∧ ρ 4 = .sc (.pointer (some ⟨b4, 0, none⟩)) ∧ ρ 6 = .sc (.pointer (some ⟨b6, 0, none⟩)) ∧ ρ 7 = .sl (strL L) .no ∧ ρ 8 = .sc (.int .i64 j) ∧ ρ 9 = .sl (ints l) .no ∧ ρ 11 = .sc (.int .i64 i) ∧ K b4 = some (.cells [.sc (.int .u64 (0 : Nat)), .sc (.bool false)] 25) ∧ K b6 = some (.cells [.sc (.int .u64 (orRow M (l.take i) f.bits : Nat)), .sc (.bool f.star)] 25) ∧ HWk H K) ?_ (m := l.length) (HLe.refl _)
                  ⟨0, by omega, rfl, by simp [r0], by simp [r4], by simp [r6], by simp [r7], by simp [r8], by simp, by simp, q4, by simpa [orRow] using q6, qW⟩
                clear q4 q6 qW r0 r4 r6 r7 r8
                rintro m ρ K ih2 ⟨i, hi, rfl, r0, r4, r6, r7, r8, r9, r11, q4, q6, qW⟩
                by_cases hil : i < l.length
                · have hwi : IntKind.i64.wrap ((i : Int) + 1) = ((i + 1 : Nat) : Int) := by rw [wrap_i64 (by omega) (by omega)]; push_cast; rfl
                  obtain ⟨n, hn⟩ : ∃ n, l[i] = n := ⟨_, rfl⟩
                  have hnh : (n : Int) ≤ highK k := by rw [← hn]; exact hin _ (List.getElem_mem hil)
                  have h7 := seven hk hnh
                  rw [hM] at h7
                  have hbnd := bounds_le hk
                  have hsn : l.take (i + 1) = l.take i ++ [n] := by rw [List.take_add_one, List.getElem?_eq_getElem hil, hn]; rfl
                  have hnext := orRow_snoc M (l.take i) n f.bits
                  have hbits := orRow_lt (M := M) (by omega) (by omega) (l.take i) f.bits hf
                  by_cases c4 : k = 4
                  · by_cases c7 : (n : Int) = 7
                    · rw [if_pos ⟨c4, c7⟩] at h7
                      have hm0 : modN n M = 0 := by omega
                      rw [hm0] at hnext
                      have c7' : n = 7 := by omega
                      simp -implicitDefEqProofs [r0, r6, r9, r11, hil, hn, c4, c7, c7', q6]
                      refine ACall.eq (c_refHas ⟨orRow M (l.take i) f.bits, f.star⟩ ((0 : Nat) : Int) hbits) ?_
                      rw [hasB_nat2 _ _ (by omega)]
                      cases ht : (orRow M (l.take i) f.bits).testBit 0 with
                      | true =>
                        have hor := or_same ht
                        rw [hor] at hnext
                        simp -implicitDefEqProofs [r11, hwi, ht]
                        exact AGo.again ih2 (m' := l.length - (i + 1)) (by omega) (HLe.refl _) ⟨i + 1, by omega, rfl, by simp [r0], by simp [r4], by simp [r6], by simp [r7], by simp [r8], by simp [r9], by simp, q4, by rw [hsn, hnext]; exact q6, qW⟩
                      | false =>
                        have hadd := add_or hbits (i := 0) (by omega) ht
                        have hadd0 : IntKind.u64.wrap (((orRow M (l.take i) f.bits : Nat) : Int) + 1) = ((orRow M (l.take i) f.bits ||| 1 : Nat) : Int) := by simpa [pow2] using hadd
                        have hw0 : IntKind.u64.wrap 0 = 0 := rfl
                        have hw1 : IntKind.u64.wrap 1 = 1 := rfl
                        simp -implicitDefEqProofs [r6, r11, hwi, ht, q6, hadd0, hw0, hw1]
                        exact AGo.again ih2 (m' := l.length - (i + 1)) (by omega) (HLe.refl _) ⟨i + 1, by omega, rfl, by simp [r0], by simp [r4], by simp [r6], by simp [r7], by simp [r8], by simp [r9], by simp, by simp [Heap.set, n64.symm, q4], by simp [Heap.set, hsn, hnext, pow2], HWk.new e6 qW⟩

                    · rw [if_neg (fun h => c7 h.2)] at h7
                      have hm0 : modN n M = n := by omega
                      rw [hm0] at hnext
                      have c7' : ¬ n = 7 := by omega
                      simp -implicitDefEqProofs [r0, r6, r9, r11, hil, hn, c4, c7, c7', q6]
                      refine ACall.eq (c_refHas ⟨orRow M (l.take i) f.bits, f.star⟩ ((n : Nat) : Int) hbits) ?_
                      rw [hasB_nat2 _ _ (by omega)]
                      cases ht : (orRow M (l.take i) f.bits).testBit n with
                      | true =>
                        have hor := or_same ht
                        rw [hor] at hnext
                        simp -implicitDefEqProofs [r11, hwi, ht]
                        exact AGo.again ih2 (m' := l.length - (i + 1)) (by omega) (HLe.refl _) ⟨i + 1, by omega, rfl, by simp [r0], by simp [r4], by simp [r6], by simp [r7], by simp [r8], by simp [r9], by simp, q4, by rw [hsn, hnext]; exact q6, qW⟩
                      | false =>
                        have hadd := add_or hbits (i := n) (by omega) ht
                        have hmin : min n 64 = n := by omega
                        have hwu : IntKind.u64.wrap (n : Int) = (n : Int) := wrap_u64 (by omega) (by omega)
                        have hsh := shl_nat (r := n) (by omega)
                        simp -implicitDefEqProofs [r6, r11, hwi, ht, q6, hmin, hwu, hsh, hadd]
                        exact AGo.again ih2 (m' := l.length - (i + 1)) (by omega) (HLe.refl _) ⟨i + 1, by omega, rfl, by simp [r0], by simp [r4], by simp [r6], by simp [r7], by simp [r8], by simp [r9], by simp, by simp [Heap.set, n64.symm, q4], by simp [Heap.set, hsn, hnext, pow2], HWk.new e6 qW⟩

                  · rw [if_neg (fun h => c4 h.1)] at h7
                    have hm0 : modN n M = n := by omega
                    rw [hm0] at hnext
                    simp -implicitDefEqProofs [r0, r6, r9, r11, hil, hn, c4, q6]
                    refine ACall.eq (c_refHas ⟨orRow M (l.take i) f.bits, f.star⟩ ((n : Nat) : Int) hbits) ?_
                    rw [hasB_nat2 _ _ (by omega)]
                    cases ht : (orRow M (l.take i) f.bits).testBit n with
                    | true =>
                      have hor := or_same ht
                      rw [hor] at hnext
                      simp -implicitDefEqProofs [r11, hwi, ht]
                      exact AGo.again ih2 (m' := l.length - (i + 1)) (by omega) (HLe.refl _) ⟨i + 1, by omega, rfl, by simp [r0], by simp [r4], by simp [r6], by simp [r7], by simp [r8], by simp [r9], by simp, q4, by rw [hsn, hnext]; exact q6, qW⟩
                    | false =>
                      have hadd := add_or hbits (i := n) (by omega) ht
                      have hmin : min n 64 = n := by omega
                      have hwu : IntKind.u64.wrap (n : Int) = (n : Int) := wrap_u64 (by omega) (by omega)
                      have hsh := shl_nat (r := n) (by omega)
                      simp -implicitDefEqProofs [r6, r11, hwi, ht, q6, hmin, hwu, hsh, hadd]
                      exact AGo.again ih2 (m' := l.length - (i + 1)) (by omega) (HLe.refl _) ⟨i + 1, by omega, rfl, by simp [r0], by simp [r4], by simp [r6], by simp [r7], by simp [r8], by simp [r9], by simp, by simp [Heap.set, n64.symm, q4], by simp [Heap.set, hsn, hnext, pow2], HWk.new e6 qW⟩

                · have hie : l.take i = l := List.take_of_length_le (by omega)
                  rw [hie] at q6
                  simp -implicitDefEqProofs [r9, r11, hil]
                  exact hk' _ _ ⟨by simp [r0], by simp [r4], by simp [r6], by simp [r7], by simp [r8], q4, q6, qW⟩
              · clear r0 r4 r6 r7 r8 q4 q6 qW
                rintro ρ K ⟨r0, r4, r6, r7, r8, q4, q6, qW⟩
                simp -implicitDefEqProofs [r8, hwj]
                refine AGo.again ih (m' := L.length - (j + 1)) (by omega) (HLe.refl _) ⟨j + 1, ⟨orRow M l f.bits, f.star⟩, by omega, rfl, by simp [r0], by simp [r4], by simp [r6], by simp [r7], by simp, orRow_lt (by omega) (by omega) _ _ hf, ?_, q4, q6, qW⟩
                rw [← hgo]
                congr 2
                rw [← orRow_or]; simp
            · rw [if_pos he] at hgo
              subst hgo
              simp -implicitDefEqProofs [he, r4, q4, fAV]
              exact HWk.new h4 qW
          · have hje : j = L.length := by omega
            subst hje
            simp only [List.drop_length, parseGo] at hgo
            subst hgo
            simp -implicitDefEqProofs [r4, r6, r7, r8, q6, q4, fAV]
            exact HWk.new h4 qW
        · have c0' : (0 : Int) < s.length := by omega
          have c2 : s[0].toNat = 42 := by rw [c1]; rfl
          simp -implicitDefEqProofs [k0, k4, hl, hl', c0, c0', c2]
          refine AAlloc.intro fun b6 h6 => ?_
          have n64 : b6 ≠ b4 := by intro e; subst e; simp [Heap.set] at h6
          have e6 : H b6 = none := (HLe.set_fresh h4).none h6
          simp -implicitDefEqProofs
          generalize hK : Heap.set _ b6 _ = K
          have k6 : K b6 = some (.cells [.sc (.int .u64 (0 : Nat)), .sc (.bool true)] 25) := by rw [← hK]; simp [Heap.set]
          have k4' : K b4 = some (.cells [.sc (.int .u64 (0 : Nat)), .sc (.bool false)] 25) := by rw [← hK]; simp [Heap.set, n64.symm]
          have kW : HWk H K := by rw [← hK]; exact HWk.new e6 (HWk.new h4 (HWk.refl _))
          clear hK hW hW2
          refine ACall.eq (c_refSplit44 s hs) ?_
          generalize sp 44 s = L at hm hL ⊢
          simp -implicitDefEqProofs
          generalize hres : parseGo k L _ = res
          refine AGo.rounds (fun m ρ K => ∃ (j : Nat) (f : Fld), j ≤ L.length ∧ m = L.length - j ∧ ρ 0 = .sc (.int .i64 k) ∧ ρ 4 = .sc (.pointer (some ⟨b4, 0, none⟩)) ∧ ρ 6 = .sc (.pointer (some ⟨b6, 0, none⟩)) ∧ ρ 7 = .sl (strL L) .no ∧ ρ 8 = .sc (.int .i64 j) ∧
            f.bits < 18446744073709551616 ∧ parseGo k (L.drop j) f = res ∧ K b4 = some (.cells [.sc (.int .u64 (0 : Nat)), .sc (.bool false)] 25) ∧ K b6 = some (.cells [.sc (.int .u64 f.bits), .sc (.bool f.star)] 25) ∧ HWk H K) ?_ (m := L.length) (HLe.refl _)
            ⟨0, ⟨0, true⟩, by omega, by omega, by simp, by simp, by simp, by simp, by simp, (by decide : (0 : Nat) < 18446744073709551616), by simpa using hres, k4', k6, kW⟩
          clear k4' k6 kW
          rintro m ρ K1 ih ⟨j, f, hj, rfl, r0, r4, r6, r7, r8, hf, hgo, q4, q6, qW⟩
          by_cases hlt : j < L.length
          · have hmem : L[j] ∈ L := List.getElem_mem hlt
            rw [List.drop_eq_getElem_cons hlt] at hgo
            rw [parseGo_ref hk] at hgo
            have hin := refItem_in hk L[j]
            have hlen := refItem_len k L[j]
            simp -implicitDefEqProofs [r0, r7, r8, hlt]
            refine ACall.eq (c_refItem hk L[j] (hm _ hmem)) ?_
            generalize refItem k L[j] = it at *
            obtain ⟨l, er⟩ := it
            simp only at hgo hin hlen ⊢
            by_cases he : er = 0
            · rw [if_neg (by simp [he])] at hgo
              obtain ⟨M, hM⟩ : ∃ M, (mostK k + 1).toNat = M := ⟨_, rfl⟩
              obtain ⟨M', hM1, hM7, hM60⟩ := mostK_nat hk
              have hMM : M = M' := by omega
              rw [hM] at hgo
              have hwj : IntKind.i64.wrap ((j : Int) + 1) = ((j + 1 : Nat) : Int) := by rw [wrap_i64 (by omega) (by omega)]; push_cast; rfl
              simp -implicitDefEqProofs [he]
              refine AGo.joinLoop (fun ρ K => ρ 0 = .sc (.int .i64 k) ∧ ρ 4 = .sc (.pointer (some ⟨b4, 0, none⟩)) ∧ ρ 6 = .sc (.pointer (some ⟨b6, 0, none⟩)) ∧ ρ 7 = .sl (strL L) .no ∧ ρ 8 = .sc (.int .i64 j) ∧ K b4 = some (.cells [.sc (.int .u64 (0 : Nat)), .sc (.bool false)] 25) ∧ K b6 = some (.cells [.sc (.int .u64 (orRow M l f.bits : Nat)), .sc (.bool f.star)] 25) ∧ HWk H K) (fun k' hk' => ?_) ?_
              · refine AGo.rounds (fun m ρ K => ∃ i : Nat, i ≤ l.length ∧ m = l.length - i ∧ ρ 0 = .sc (.int .i64 k) ∧ ρ 4 = .sc (.pointer (some ⟨b4, 0, none⟩)) ∧ ρ 6 = .sc (.pointer (some ⟨b6, 0, none⟩)) ∧ ρ 7 = .sl (strL L) .no ∧ ρ 8 = .sc (.int .i64 j) ∧ ρ 9 = .sl (ints l) .no ∧ ρ 11 = .sc (.int .i64 i) ∧ K b4 = some (.cells [.sc (.int .u64 (0 : Nat)), .sc (.bool false)] 25) ∧ K b6 = some (.cells [.sc (.int .u64 (orRow M (l.take i) f.bits : Nat)), .sc (.bool f.star)] 25) ∧ HWk H K) ?_ (m := l.length) (HLe.refl _)
                  ⟨0, by omega, rfl, by simp [r0], by simp [r4], by simp [r6], by simp [r7], by simp [r8], by simp, by simp, q4, by simpa [orRow] using q6, qW⟩
                clear q4 q6 qW r0 r4 r6 r7 r8
                rintro m ρ K ih2 ⟨i, hi, rfl, r0, r4, r6, r7, r8, r9, r11, q4, q6, qW⟩
                by_cases hil : i < l.length
                · have hwi : IntKind.i64.wrap ((i : Int) + 1) = ((i + 1 : Nat) : Int) := by rw [wrap_i64 (by omega) (by omega)]; push_cast; rfl
                  obtain ⟨n, hn⟩ : ∃ n, l[i] = n := ⟨_, rfl⟩
                  have hnh : (n : Int) ≤ highK k := by rw [← hn]; exact hin _ (List.getElem_mem hil)
                  have h7 := seven hk hnh
                  rw [hM] at h7
                  have hbnd := bounds_le hk
                  have hsn : l.take (i + 1) = l.take i ++ [n] := by rw [List.take_add_one, List.getElem?_eq_getElem hil, hn]; rfl
                  have hnext := orRow_snoc M (l.take i) n f.bits
                  have hbits := orRow_lt (M := M) (by omega) (by omega) (l.take i) f.bits hf
                  by_cases c4 : k = 4
                  · by_cases c7 : (n : Int) = 7
                    · rw [if_pos ⟨c4, c7⟩] at h7
                      have hm0 : modN n M = 0 := by omega
                      rw [hm0] at hnext
                      have c7' : n = 7 := by omega
                      simp -implicitDefEqProofs [r0, r6, r9, r11, hil, hn, c4, c7, c7', q6]
                      refine ACall.eq (c_refHas ⟨orRow M (l.take i) f.bits, f.star⟩ ((0 : Nat) : Int) hbits) ?_
                      rw [hasB_nat2 _ _ (by omega)]
                      cases ht : (orRow M (l.take i) f.bits).testBit 0 with
                      | true =>
                        have hor := or_same ht
                        rw [hor] at hnext
                        simp -implicitDefEqProofs [r11, hwi, ht]
                        exact AGo.again ih2 (m' := l.length - (i + 1)) (by omega) (HLe.refl _) ⟨i + 1, by omega, rfl, by simp [r0], by simp [r4], by simp [r6], by simp [r7], by simp [r8], by simp [r9], by simp, q4, by rw [hsn, hnext]; exact q6, qW⟩
                      | false =>
                        have hadd := add_or hbits (i := 0) (by omega) ht
                        have hadd0 : IntKind.u64.wrap (((orRow M (l.take i) f.bits : Nat) : Int) + 1) = ((orRow M (l.take i) f.bits ||| 1 : Nat) : Int) := by simpa [pow2] using hadd
                        have hw0 : IntKind.u64.wrap 0 = 0 := rfl
                        have hw1 : IntKind.u64.wrap 1 = 1 := rfl
                        simp -implicitDefEqProofs [r6, r11, hwi, ht, q6, hadd0, hw0, hw1]
                        exact AGo.again ih2 (m' := l.length - (i + 1)) (by omega) (HLe.refl _) ⟨i + 1, by omega, rfl, by simp [r0], by simp [r4], by simp [r6], by simp [r7], by simp [r8], by simp [r9], by simp, by simp [Heap.set, n64.symm, q4], by simp [Heap.set, hsn, hnext, pow2], HWk.new e6 qW⟩

                    · rw [if_neg (fun h => c7 h.2)] at h7
                      have hm0 : modN n M = n := by omega
                      rw [hm0] at hnext
                      have c7' : ¬ n = 7 := by omega
                      simp -implicitDefEqProofs [r0, r6, r9, r11, hil, hn, c4, c7, c7', q6]
                      refine ACall.eq (c_refHas ⟨orRow M (l.take i) f.bits, f.star⟩ ((n : Nat) : Int) hbits) ?_
                      rw [hasB_nat2 _ _ (by omega)]
                      cases ht : (orRow M (l.take i) f.bits).testBit n with
                      | true =>
                        have hor := or_same ht
                        rw [hor] at hnext
                        simp -implicitDefEqProofs [r11, hwi, ht]
                        exact AGo.again ih2 (m' := l.length - (i + 1)) (by omega) (HLe.refl _) ⟨i + 1, by omega, rfl, by simp [r0], by simp [r4], by simp [r6], by simp [r7], by simp [r8], by simp [r9], by simp, q4, by rw [hsn, hnext]; exact q6, qW⟩
                      | false =>
                        have hadd := add_or hbits (i := n) (by omega) ht
                        have hmin : min n 64 = n := by omega
                        have hwu : IntKind.u64.wrap (n : Int) = (n : Int) := wrap_u64 (by omega) (by omega)
                        have hsh := shl_nat (r := n) (by omega)
                        simp -implicitDefEqProofs [r6, r11, hwi, ht, q6, hmin, hwu, hsh, hadd]
                        exact AGo.again ih2 (m' := l.length - (i + 1)) (by omega) (HLe.refl _) ⟨i + 1, by omega, rfl, by simp [r0], by simp [r4], by simp [r6], by simp [r7], by simp [r8], by simp [r9], by simp, by simp [Heap.set, n64.symm, q4], by simp [Heap.set, hsn, hnext, pow2], HWk.new e6 qW⟩

                  · rw [if_neg (fun h => c4 h.1)] at h7
                    have hm0 : modN n M = n := by omega
                    rw [hm0] at hnext
                    simp -implicitDefEqProofs [r0, r6, r9, r11, hil, hn, c4, q6]
                    refine ACall.eq (c_refHas ⟨orRow M (l.take i) f.bits, f.star⟩ ((n : Nat) : Int) hbits) ?_
                    rw [hasB_nat2 _ _ (by omega)]
                    cases ht : (orRow M (l.take i) f.bits).testBit n with
                    | true =>
                      have hor := or_same ht
                      rw [hor] at hnext
                      simp -implicitDefEqProofs [r11, hwi, ht]
                      exact AGo.again ih2 (m' := l.length - (i + 1)) (by omega) (HLe.refl _) ⟨i + 1, by omega, rfl, by simp [r0], by simp [r4], by simp [r6], by simp [r7], by simp [r8], by simp [r9], by simp, q4, by rw [hsn, hnext]; exact q6, qW⟩
                    | false =>
                      have hadd := add_or hbits (i := n) (by omega) ht
                      have hmin : min n 64 = n := by omega
                      have hwu : IntKind.u64.wrap (n : Int) = (n : Int) := wrap_u64 (by omega) (by omega)
                      have hsh := shl_nat (r := n) (by omega)
                      simp -implicitDefEqProofs [r6, r11, hwi, ht, q6, hmin, hwu, hsh, hadd]
                      exact AGo.again ih2 (m' := l.length - (i + 1)) (by omega) (HLe.refl _) ⟨i + 1, by omega, rfl, by simp [r0], by simp [r4], by simp [r6], by simp [r7], by simp [r8], by simp [r9], by simp, by simp [Heap.set, n64.symm, q4], by simp [Heap.set, hsn, hnext, pow2], HWk.new e6 qW⟩

                · have hie : l.take i = l := List.take_of_length_le (by omega)
                  rw [hie] at q6
                  simp -implicitDefEqProofs [r9, r11, hil]
                  exact hk' _ _ ⟨by simp [r0], by simp [r4], by simp [r6], by simp [r7], by simp [r8], q4, q6, qW⟩
              · clear r0 r4 r6 r7 r8 q4 q6 qW
                rintro ρ K ⟨r0, r4, r6, r7, r8, q4, q6, qW⟩
                simp -implicitDefEqProofs [r8, hwj]
                refine AGo.again ih (m' := L.length - (j + 1)) (by omega) (HLe.refl _) ⟨j + 1, ⟨orRow M l f.bits, f.star⟩, by omega, rfl, by simp [r0], by simp [r4], by simp [r6], by simp [r7], by simp, orRow_lt (by omega) (by omega) _ _ hf, ?_, q4, q6, qW⟩
                rw [← hgo]
                congr 2
                rw [← orRow_or]; simp
            · rw [if_pos he] at hgo
              subst hgo
              simp -implicitDefEqProofs [he, r4, q4, fAV]
              exact HWk.new h4 qW
          · have hje : j = L.length := by omega
            subst hje
            simp only [List.drop_length, parseGo] at hgo
            subst hgo
            simp -implicitDefEqProofs [r4, r6, r7, r8, q6, q4, fAV]
            exact HWk.new h4 qW
        · have c0' : (0 : Int) < s.length := by omega
          have c2 : ¬ s[0].toNat = 42 := fun h => c1 (UInt8.toNat_inj.1 (by rw [h]; rfl))
          have c2' : ¬ (s[0].toNat : Int) = 42 := by omega
          simp -implicitDefEqProofs [k0, k4, hl, hl', c0, c0', c2, c2']
          refine AAlloc.intro fun b6 h6 => ?_
          have n64 : b6 ≠ b4 := by intro e; subst e; simp [Heap.set] at h6
          have e6 : H b6 = none := (HLe.set_fresh h4).none h6
          simp -implicitDefEqProofs
          generalize hK : Heap.set _ b6 _ = K
          have k6 : K b6 = some (.cells [.sc (.int .u64 (0 : Nat)), .sc (.bool false)] 25) := by rw [← hK]; simp [Heap.set]
          have k4' : K b4 = some (.cells [.sc (.int .u64 (0 : Nat)), .sc (.bool false)] 25) := by rw [← hK]; simp [Heap.set, n64.symm]
          have kW : HWk H K := by rw [← hK]; exact HWk.new e6 (HWk.new h4 (HWk.refl _))
          clear hK hW hW2
          refine ACall.eq (c_refSplit44 s hs) ?_
          generalize sp 44 s = L at hm hL ⊢
          simp -implicitDefEqProofs
          generalize hres : parseGo k L _ = res
          refine AGo.rounds (fun m ρ K => ∃ (j : Nat) (f : Fld), j ≤ L.length ∧ m = L.length - j ∧ ρ 0 = .sc (.int .i64 k) ∧ ρ 4 = .sc (.pointer (some ⟨b4, 0, none⟩)) ∧ ρ 6 = .sc (.pointer (some ⟨b6, 0, none⟩)) ∧ ρ 7 = .sl (strL L) .no ∧ ρ 8 = .sc (.int .i64 j) ∧
            f.bits < 18446744073709551616 ∧ parseGo k (L.drop j) f = res ∧ K b4 = some (.cells [.sc (.int .u64 (0 : Nat)), .sc (.bool false)] 25) ∧ K b6 = some (.cells [.sc (.int .u64 f.bits), .sc (.bool f.star)] 25) ∧ HWk H K) ?_ (m := L.length) (HLe.refl _)
            ⟨0, ⟨0, false⟩, by omega, by omega, by simp, by simp, by simp, by simp, by simp, (by decide : (0 : Nat) < 18446744073709551616), by simpa using hres, k4', k6, kW⟩
          clear k4' k6 kW
          rintro m ρ K1 ih ⟨j, f, hj, rfl, r0, r4, r6, r7, r8, hf, hgo, q4, q6, qW⟩
          by_cases hlt : j < L.length
          · have hmem : L[j] ∈ L := List.getElem_mem hlt
            rw [List.drop_eq_getElem_cons hlt] at hgo
            rw [parseGo_ref hk] at hgo
            have hin := refItem_in hk L[j]
            have hlen := refItem_len k L[j]
            simp -implicitDefEqProofs [r0, r7, r8, hlt]
            refine ACall.eq (c_refItem hk L[j] (hm _ hmem)) ?_
            generalize refItem k L[j] = it at *
            obtain ⟨l, er⟩ := it
            simp only at hgo hin hlen ⊢
            by_cases he : er = 0
            · rw [if_neg (by simp [he])] at hgo
              obtain ⟨M, hM⟩ : ∃ M, (mostK k + 1).toNat = M := ⟨_, rfl⟩
              obtain ⟨M', hM1, hM7, hM60⟩ := mostK_nat hk
              have hMM : M = M' := by omega
              rw [hM] at hgo
              have hwj : IntKind.i64.wrap ((j : Int) + 1) = ((j + 1 : Nat) : Int) := by rw [wrap_i64 (by omega) (by omega)]; push_cast; rfl
              simp -implicitDefEqProofs [he]
              refine AGo.joinLoop (fun ρ K => ρ 0 = .sc (.int .i64 k) ∧ ρ 4 = .sc (.pointer (some ⟨b4, 0, none⟩)) ∧ ρ 6 = .sc (.pointer (some ⟨b6, 0, none⟩)) ∧ ρ 7 = .sl (strL L) .no ∧ ρ 8 = .sc (.int .i64 j) ∧ K b4 = some (.cells [.sc (.int .u64 (0 : Nat)), .sc (.bool false)] 25) ∧ K b6 = some (.cells [.sc (.int .u64 (orRow M l f.bits : Nat)), .sc (.bool f.star)] 25) ∧ HWk H K) (fun k' hk' => ?_) ?_
              · refine AGo.rounds (fun m ρ K => ∃ i : Nat, i ≤ l.length ∧ m = l.length - i ∧ ρ 0 = .sc (.int .i64 k) ∧ ρ 4 = .sc (.pointer (some ⟨b4, 0, none⟩)) ∧ ρ 6 = .sc (.pointer (some ⟨b6, 0, none⟩)) ∧ ρ 7 = .sl (strL L) .no ∧ ρ 8 = .sc (.int .i64 j) ∧ ρ 9 = .sl (ints l) .no ∧ ρ 11 = .sc (.int .i64 i) ∧ K b4 = some (.cells [.sc (.int .u64 (0 : Nat)), .sc (.bool false)] 25) ∧ K b6 = some (.cells [.sc (.int .u64 (orRow M (l.take i) f.bits : Nat)), .sc (.bool f.star)] 25) ∧ HWk H K) ?_ (m := l.length) (HLe.refl _)
                  ⟨0, by omega, rfl, by simp [r0], by simp [r4], by simp [r6], by simp [r7], by simp [r8], by simp, by simp, q4, by simpa [orRow] using q6, qW⟩
                clear q4 q6 qW r0 r4 r6 r7 r8
                rintro m ρ K ih2 ⟨i, hi, rfl, r0, r4, r6, r7, r8, r9, r11, q4, q6, qW⟩
                by_cases hil : i < l.length
                · have hwi : IntKind.i64.wrap ((i : Int) + 1) = ((i + 1 : Nat) : Int) := by rw [wrap_i64 (by omega) (by omega)]; push_cast; rfl
                  obtain ⟨n, hn⟩ : ∃ n, l[i] = n := ⟨_, rfl⟩
                  have hnh : (n : Int) ≤ highK k := by rw [← hn]; exact hin _ (List.getElem_mem hil)
                  have h7 := seven hk hnh
                  rw [hM] at h7
                  have hbnd := bounds_le hk
                  have hsn : l.take (i + 1) = l.take i ++ [n] := by rw [List.take_add_one, List.getElem?_eq_getElem hil, hn]; rfl
                  have hnext := orRow_snoc M (l.take i) n f.bits
                  have hbits := orRow_lt (M := M) (by omega) (by omega) (l.take i) f.bits hf
                  by_cases c4 : k = 4
                  · by_cases c7 : (n : Int) = 7
                    · rw [if_pos ⟨c4, c7⟩] at h7
                      have hm0 : modN n M = 0 := by omega
                      rw [hm0] at hnext
                      have c7' : n = 7 := by omega
                      simp -implicitDefEqProofs [r0, r6, r9, r11, hil, hn, c4, c7, c7', q6]
                      refine ACall.eq (c_refHas ⟨orRow M (l.take i) f.bits, f.star⟩ ((0 : Nat) : Int) hbits) ?_
                      rw [hasB_nat2 _ _ (by omega)]
                      cases ht : (orRow M (l.take i) f.bits).testBit 0 with
                      | true =>
                        have hor := or_same ht
                        rw [hor] at hnext
                        simp -implicitDefEqProofs [r11, hwi, ht]
                        exact AGo.again ih2 (m' := l.length - (i + 1)) (by omega) (HLe.refl _) ⟨i + 1, by omega, rfl, by simp [r0], by simp [r4], by simp [r6], by simp [r7], by simp [r8], by simp [r9], by simp, q4, by rw [hsn, hnext]; exact q6, qW⟩
                      | false =>
                        have hadd := add_or hbits (i := 0) (by omega) ht
                        have hadd0 : IntKind.u64.wrap (((orRow M (l.take i) f.bits : Nat) : Int) + 1) = ((orRow M (l.take i) f.bits ||| 1 : Nat) : Int) := by simpa [pow2] using hadd
                        have hw0 : IntKind.u64.wrap 0 = 0 := rfl
                        have hw1 : IntKind.u64.wrap 1 = 1 := rfl
                        simp -implicitDefEqProofs [r6, r11, hwi, ht, q6, hadd0, hw0, hw1]
                        exact AGo.again ih2 (m' := l.length - (i + 1)) (by omega) (HLe.refl _) ⟨i + 1, by omega, rfl, by simp [r0], by simp [r4], by simp [r6], by simp [r7], by simp [r8], by simp [r9], by simp, by simp [Heap.set, n64.symm, q4], by simp [Heap.set, hsn, hnext, pow2], HWk.new e6 qW⟩

                    · rw [if_neg (fun h => c7 h.2)] at h7
                      have hm0 : modN n M = n := by omega
                      rw [hm0] at hnext
                      have c7' : ¬ n = 7 := by omega
                      simp -implicitDefEqProofs [r0, r6, r9, r11, hil, hn, c4, c7, c7', q6]
                      refine ACall.eq (c_refHas ⟨orRow M (l.take i) f.bits, f.star⟩ ((n : Nat) : Int) hbits) ?_
                      rw [hasB_nat2 _ _ (by omega)]
                      cases ht : (orRow M (l.take i) f.bits).testBit n with
                      | true =>
                        have hor := or_same ht
                        rw [hor] at hnext
                        simp -implicitDefEqProofs [r11, hwi, ht]
                        exact AGo.again ih2 (m' := l.length - (i + 1)) (by omega) (HLe.refl _) ⟨i + 1, by omega, rfl, by simp [r0], by simp [r4], by simp [r6], by simp [r7], by simp [r8], by simp [r9], by simp, q4, by rw [hsn, hnext]; exact q6, qW⟩
                      | false =>
                        have hadd := add_or hbits (i := n) (by omega) ht
                        have hmin : min n 64 = n := by omega
                        have hwu : IntKind.u64.wrap (n : Int) = (n : Int) := wrap_u64 (by omega) (by omega)
                        have hsh := shl_nat (r := n) (by omega)
                        simp -implicitDefEqProofs [r6, r11, hwi, ht, q6, hmin, hwu, hsh, hadd]
                        exact AGo.again ih2 (m' := l.length - (i + 1)) (by omega) (HLe.refl _) ⟨i + 1, by omega, rfl, by simp [r0], by simp [r4], by simp [r6], by simp [r7], by simp [r8], by simp [r9], by simp, by simp [Heap.set, n64.symm, q4], by simp [Heap.set, hsn, hnext, pow2], HWk.new e6 qW⟩

                  · rw [if_neg (fun h => c4 h.1)] at h7
                    have hm0 : modN n M = n := by omega
                    rw [hm0] at hnext
                    simp -implicitDefEqProofs [r0, r6, r9, r11, hil, hn, c4, q6]
                    refine ACall.eq (c_refHas ⟨orRow M (l.take i) f.bits, f.star⟩ ((n : Nat) : Int) hbits) ?_
                    rw [hasB_nat2 _ _ (by omega)]
                    cases ht : (orRow M (l.take i) f.bits).testBit n with
                    | true =>
                      have hor := or_same ht
                      rw [hor] at hnext
                      simp -implicitDefEqProofs [r11, hwi, ht]
                      exact AGo.again ih2 (m' := l.length - (i + 1)) (by omega) (HLe.refl _) ⟨i + 1, by omega, rfl, by simp [r0], by simp [r4], by simp [r6], by simp [r7], by simp [r8], by simp [r9], by simp, q4, by rw [hsn, hnext]; exact q6, qW⟩
                    | false =>
                      have hadd := add_or hbits (i := n) (by omega) ht
                      have hmin : min n 64 = n := by omega
                      have hwu : IntKind.u64.wrap (n : Int) = (n : Int) := wrap_u64 (by omega) (by omega)
                      have hsh := shl_nat (r := n) (by omega)
                      simp -implicitDefEqProofs [r6, r11, hwi, ht, q6, hmin, hwu, hsh, hadd]
                      exact AGo.again ih2 (m' := l.length - (i + 1)) (by omega) (HLe.refl _) ⟨i + 1, by omega, rfl, by simp [r0], by simp [r4], by simp [r6], by simp [r7], by simp [r8], by simp [r9], by simp, by simp [Heap.set, n64.symm, q4], by simp [Heap.set, hsn, hnext, pow2], HWk.new e6 qW⟩

                · have hie : l.take i = l := List.take_of_length_le (by omega)
                  rw [hie] at q6
                  simp -implicitDefEqProofs [r9, r11, hil]
                  exact hk' _ _ ⟨by simp [r0], by simp [r4], by simp [r6], by simp [r7], by simp [r8], q4, q6, qW⟩
              · clear r0 r4 r6 r7 r8 q4 q6 qW
                rintro ρ K ⟨r0, r4, r6, r7, r8, q4, q6, qW⟩
                simp -implicitDefEqProofs [r8, hwj]
                refine AGo.again ih (m' := L.length - (j + 1)) (by omega) (HLe.refl _) ⟨j + 1, ⟨orRow M l f.bits, f.star⟩, by omega, rfl, by simp [r0], by simp [r4], by simp [r6], by simp [r7], by simp, orRow_lt (by omega) (by omega) _ _ hf, ?_, q4, q6, qW⟩
                rw [← hgo]
                congr 2
                rw [← orRow_or]; simp
            · rw [if_pos he] at hgo
              subst hgo
              simp -implicitDefEqProofs [he, r4, q4, fAV]
              exact HWk.new h4 qW
          · have hje : j = L.length := by omega
            subst hje
            simp only [List.drop_length, parseGo] at hgo
            subst hgo
            simp -implicitDefEqProofs [r4, r6, r7, r8, q6, q4, fAV]
            exact HWk.new h4 qW
end Go.Proofs.YtdpgnbinekcgdaaGreatDoor
