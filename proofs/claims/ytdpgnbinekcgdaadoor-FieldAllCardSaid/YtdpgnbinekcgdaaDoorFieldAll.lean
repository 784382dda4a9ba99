/- FieldAll gives true, whatever the input. -/
import Derived.Test.YtdpgnbinekcgdaaDoorFieldK
import Derived.Test.YtdpgnbinekcgdaaDoorWrap
import Derived.Test.YtdpgnbinekcgdaaDoorTie
namespace Go.Proofs.YtdpgnbinekcgdaaDoor
open Rg Go Go.RowKit Go.WideShapes Go.ChangeShapes

variable {H : Heap}

theorem hasB_nat (b k : Nat) (hk : k ≤ 63) : hasB b (k : Int) = b.testBit k := by
  simp [hasB]; omega

def not64 (n : Nat) : Nat := 18446744073709551615 ^^^ n
theorem not64_lt {n : Nat} (h : n < 18446744073709551616) : not64 n < 18446744073709551616 := by
  have : not64 n < 2 ^ 64 := Nat.xor_lt_two_pow (by decide) h
  exact this
theorem aun_not64 {n : Nat} (h : n < 18446744073709551616) : aun .xor (.sc (.int .u64 (n : Int))) = .val (.sc (.int .u64 (not64 n : Int))) := by
  have e := u64_xor_nat 18446744073709551615 n (by decide) h
  show ASR.val (.sc (.int .u64 (bits .xor .u64 (if IntKind.u64.signed then -1 else IntKind.u64.max) (n : Int)))) = _
  have e2 : (if IntKind.u64.signed then -1 else IntKind.u64.max : Int) = ((18446744073709551615 : Nat) : Int) := by decide
  rw [e2, e]
  rfl
theorem and_small {a b : Nat} (ha : a < 18446744073709551616) : a &&& b < 18446744073709551616 := Nat.lt_of_le_of_lt Nat.and_le_left ha
theorem testBit_not64 (N k : Nat) (hk : k ≤ 63) : (not64 (pow2 N)).testBit k = !decide (N = k) := by
  unfold not64 pow2
  rw [Nat.testBit_xor, Nat.testBit_two_pow, show 18446744073709551615 = 2 ^ 64 - 1 from rfl, Nat.testBit_two_pow_sub_one]
  have : decide (k < 64) = true := by simp; omega
  rw [this]
  cases decide (N = k) <;> rfl
theorem has_more {b N k : Nat} (hk : k ≤ 63) : hasB (b ||| pow2 N) (k : Int) = (hasB b (k : Int) || decide (N = k)) := by
  rw [hasB_nat _ _ hk, hasB_nat _ _ hk, Nat.testBit_or]
  unfold pow2
  rw [Nat.testBit_two_pow]
theorem has_less {b N k : Nat} (hk : k ≤ 63) : hasB (b &&& not64 (pow2 N)) (k : Int) = (hasB b (k : Int) && !decide (N = k)) := by
  rw [hasB_nat _ _ hk, hasB_nat _ _ hk, Nat.testBit_and, testBit_not64 _ _ hk]

theorem fieldAll_ok (hG : Glob H) (f : Fld) (hf : f.bits < 18446744073709551616) (fr n : Int) (hr1 : -9223372036854775808 ≤ fr) (hr2 : fr ≤ 9223372036854775807) (hn1 : -9223372036854775808 ≤ n) (hn2 : n ≤ 9223372036854775807) :
    AOk Tryd.prog 6 [fAV f, .sc (.int .i64 fr), .sc (.int .i64 n)] H (.sc (.bool true)) H := by
  refine ACalls.into Tryd.func6 rfl Tryd.ntmps6 Tryd.results6 (by simp) ?_
  simp -implicitDefEqProofs [fAV]
  refine AAlloc.intro fun b3 h3 => ?_
  simp -implicitDefEqProofs
  generalize hK : Heap.set _ b3 _ = K0
  have k3 : K0 b3 = some (.cells [.sc (.int .u64 f.bits), .sc (.bool f.star)] 24) := by rw [← hK]; simp [Heap.set]
  have kG : Glob K0 := by rw [← hK]; exact hG.new h3
  have kW : HWk H K0 := by rw [← hK]; exact HWk.new h3 (HWk.refl _)
  clear hK
  refine ACall.eq (c_known06 kG) ?_
  simp -implicitDefEqProofs
  refine AGo.joinLoop (fun ρ K => ρ 2 = .sc (.int .i64 n) ∧ ρ 3 = .sc (.pointer (some ⟨b3, 0, none⟩)) ∧ K = K0) (fun k' hk' => ?_) ?_
  · refine AGo.rounds (fun m ρ K => ∃ (i : Nat) (at_ last : Int), i ≤ 66 ∧ m = 66 - i ∧ ρ 2 = .sc (.int .i64 n) ∧ ρ 3 = .sc (.pointer (some ⟨b3, 0, none⟩)) ∧ ρ 7 = .sc (.int .i64 at_) ∧ ρ 8 = .sc (.int .i64 last) ∧ ρ 9 = .sc (.int .i64 i) ∧
      at_ ≤ 9223372036854775807 ∧ IntKind.i64.wrap (last + 1) = at_ ∧ K = K0) ?_ (m := 66) (HLe.refl _) ⟨0, fr, IntKind.i64.wrap (fr - 1), by omega, rfl, by simp, by simp, by simp, by simp, by simp, hr2, ?_, rfl⟩
    · rintro m ρ K ih ⟨i, a, l, hi, rfl, r2, r3, r7, r8, r9, ha2, hw, rfl⟩
      by_cases hlt : i < 66
      · have hlt' : (i : Int) < 66 := by omega
        simp -implicitDefEqProofs [r3, r7, r9, k3, hlt']
        refine ACall.eq (c_first kG f a hf) ?_
        have hmax : (if 0 < a then a else 0) = (a.toNat : Int) := by split <;> omega
        cases hfb : firstB f.bits a with
        | none =>
          have hz : ∀ k, a.toNat ≤ k → k < 64 → f.bits.testBit k = false := fun k h1 _ => firstB_none hf hfb k h1
          simp -implicitDefEqProofs [optAV, r8, hw, hmax]
          refine AGo.rounds (fun m2 ρ2 K2 => ∃ k : Nat, m2 = 64 - k ∧ a.toNat ≤ k ∧ ρ2 2 = .sc (.int .i64 n) ∧ ρ2 3 = .sc (.pointer (some ⟨b3, 0, none⟩)) ∧ ρ2 7 = .sc (.int .i64 a) ∧ ρ2 9 = .sc (.int .i64 i) ∧ ρ2 10 = .sc (.int .i64 0) ∧ ρ2 11 = .sc (.bool false) ∧ ρ2 12 = .sc (.int .i64 64) ∧ ρ2 13 = .sc (.int .i64 k) ∧ K2 = K) ?_ (m := 64 - a.toNat) (HLe.refl _)
            ⟨a.toNat, rfl, Nat.le_refl _, by simp [r2], by simp [r3], by simp [r7], by simp [r9], by simp, by simp, by simp, by simp, rfl⟩
          rintro m2 ρ2 K2 ih2 ⟨k, rfl, hka, q2, q3, q7, q9, q10, q11, q12, q13, rfl⟩
          by_cases hkE : k < 64
          · have hkE' : (k : Int) < 64 := by omega
            have hb : hasB f.bits (k : Int) = false := by rw [hasB_nat _ _ (by omega)]; exact hz k hka hkE
            have hwk : IntKind.i64.wrap ((k : Int) + 1) = ((k + 1 : Nat) : Int) := by rw [wrap_i64 (by omega) (by omega)]; push_cast; rfl
            simp -implicitDefEqProofs [q3, q12, q13, k3, hkE']
            refine ACall.eq (c_has f _ hf) ?_
            simp -implicitDefEqProofs [hb, q13, hwk]
            exact AGo.again ih2 (m' := 64 - (k + 1)) (by omega) (HLe.refl _) ⟨k + 1, rfl, by omega, by simp [q2], by simp [q3], by simp [q7], by simp [q9], by simp [q10], by simp [q11], by simp [q12], by simp, rfl⟩
          · have hkE' : ¬ (k : Int) < 64 := by omega
            simp -implicitDefEqProofs [q11, q12, q13, hkE']
            exact hk' _ _ ⟨by simp [q2], by simp [q3], rfl⟩
        | some x =>
          obtain ⟨x1, x2, x3, x4⟩ := firstB_some hf hfb
          have hz : ∀ k, a.toNat ≤ k → k < x → f.bits.testBit k = false := x4
          simp -implicitDefEqProofs [optAV, r8, hw, hmax]
          refine AGo.rounds (fun m2 ρ2 K2 => ∃ k : Nat, m2 = x - k ∧ a.toNat ≤ k ∧ ρ2 2 = .sc (.int .i64 n) ∧ ρ2 3 = .sc (.pointer (some ⟨b3, 0, none⟩)) ∧ ρ2 7 = .sc (.int .i64 a) ∧ ρ2 9 = .sc (.int .i64 i) ∧ ρ2 10 = .sc (.int .i64 x) ∧ ρ2 11 = .sc (.bool true) ∧ ρ2 12 = .sc (.int .i64 x) ∧ ρ2 13 = .sc (.int .i64 k) ∧ K2 = K) ?_ (m := x - a.toNat) (HLe.refl _)
            ⟨a.toNat, rfl, Nat.le_refl _, by simp [r2], by simp [r3], by simp [r7], by simp [r9], by simp, by simp, by simp, by simp, rfl⟩
          rintro m2 ρ2 K2 ih2 ⟨k, rfl, hka, q2, q3, q7, q9, q10, q11, q12, q13, rfl⟩
          by_cases hkE : k < x
          · have hkE' : (k : Int) < x := by omega
            have hb : hasB f.bits (k : Int) = false := by rw [hasB_nat _ _ (by omega)]; exact hz k hka hkE
            have hwk : IntKind.i64.wrap ((k : Int) + 1) = ((k + 1 : Nat) : Int) := by rw [wrap_i64 (by omega) (by omega)]; push_cast; rfl
            simp -implicitDefEqProofs [q3, q12, q13, k3, hkE']
            refine ACall.eq (c_has f _ hf) ?_
            simp -implicitDefEqProofs [hb, q13, hwk]
            exact AGo.again ih2 (m' := x - (k + 1)) (by omega) (HLe.refl _) ⟨k + 1, rfl, by omega, by simp [q2], by simp [q3], by simp [q7], by simp [q9], by simp [q10], by simp [q11], by simp [q12], by simp, rfl⟩
          · have hkE' : ¬ (k : Int) < x := by omega
            have hxa : ¬ (x : Int) < a := by omega
            have hb : hasB f.bits (x : Int) = true := by rw [hasB_nat _ _ x2]; exact x3
            have hwx : IntKind.i64.wrap ((x : Int) + 1) = ((x + 1 : Nat) : Int) := by rw [wrap_i64 (by omega) (by omega)]; push_cast; rfl
            have hwi : IntKind.i64.wrap ((i : Int) + 1) = ((i + 1 : Nat) : Int) := by rw [wrap_i64 (by omega) (by omega)]; push_cast; rfl
            simp -implicitDefEqProofs [q3, q7, q10, q11, q12, q13, hkE', hxa, k3]
            refine ACall.eq (c_has f _ hf) ?_
            simp -implicitDefEqProofs [hb, q9, q10, hwx, hwi]
            exact AGo.again ih (m' := 66 - (i + 1)) (by omega) (HLe.refl _) ⟨i + 1, (x : Int) + 1, x, by omega, rfl, by simp [q2], by simp [q3], by simp, by simp, by simp, by omega, by rw [hwx]; push_cast; rfl, rfl⟩
      · have hlt' : ¬ (i : Int) < 66 := by omega
        simp -implicitDefEqProofs [r9, hlt']
        exact hk' _ _ ⟨by simp [r2], by simp [r3], rfl⟩
    · by_cases hfr : fr = -9223372036854775808
      · subst hfr; decide
      · rw [wrap_i64 (i := fr - 1) (by omega) (by omega), wrap_i64 (by omega) (by omega)]; omega
  · rintro ρ K ⟨r2, r3, rfl⟩
    by_cases hn0 : n < 0
    · have hb : hasB f.bits n = false := by simp [hasB]; omega
      simp -implicitDefEqProofs [r2, r3, k3, hn0]
      refine ACall.eq (c_has f _ hf) ?_
      simp -implicitDefEqProofs [hb]
      exact kW
    · by_cases hn63 : 63 < n
      · have hb : hasB f.bits n = false := by simp [hasB]; omega
        simp -implicitDefEqProofs [r2, r3, k3, hn0, hn63]
        refine ACall.eq (c_has f _ hf) ?_
        simp -implicitDefEqProofs [hb]
        exact kW
      · simp -implicitDefEqProofs [r2, r3, k3, hn0, hn63]
        obtain ⟨N, rfl⟩ := Int.eq_ofNat_of_zero_le (a := n) (by omega)
        have hN : N ≤ 63 := by omega
        refine go_draw2 6 [0, 1] [2, 3, 4, 5] _ f_mixed (by decide +kernel) (HC.refl _) ?_
        simp -implicitDefEqProofs [r3, k3]
        refine AES.alloc fun b14 h14 => ?_
        simp -implicitDefEqProofs
        refine AES.alloc fun b15 h15 => ?_
        have n1514 : b15 ≠ b14 := by rintro rfl; simp [Heap.set] at h15
        have n1415 := n1514.symm
        have h15' : K b15 = none := (HLe.set_fresh h14).none h15
        have hcK : ∀ K', (∀ c, c ≠ b14 → c ≠ b15 → K' c = K c) → HC K K' := fun K' h c cs hc => by
          rw [h c (by rintro rfl; rw [h14] at hc; simp [rd] at hc) (by rintro rfl; rw [h15'] at hc; simp [rd] at hc)]; exact hc
        have hwN : IntKind.u64.wrap (N : Int) = (N : Int) := wrap_u64 (by omega) (by omega)
        have hmin : min N 64 = N := by omega
        have hp := pow2_small (n := N) (by omega)
        have hor := u64_or_nat f.bits (pow2 N) hf hp
        have hand := u64_and_nat f.bits (not64 (pow2 N)) hf (not64_lt hp)
        have n314 : b3 ≠ b14 := by rintro rfl; rw [h14] at k3; cases k3
        have n315 : b3 ≠ b15 := by rintro rfl; rw [h15'] at k3; cases k3
        simp -implicitDefEqProofs
        refine AES.store (by simp [n1415]; exact ⟨rfl, rfl⟩) (hcK _ (fun c c1 c2 => by simp [Heap.set, c1, c2])) ?_
        simp -implicitDefEqProofs [n1514, n1415]
        refine AES.store (by simp [n1514]; exact ⟨rfl, rfl⟩) (hcK _ (fun c c1 c2 => by simp [Heap.set, c1, c2])) ?_
        simp -implicitDefEqProofs [n1514, n1415, r2, hwN, hmin, shl_nat (r := N) (by omega), hor, aun_not64 hp, hand]
        generalize hK2 : Heap.set _ b15 _ = K2
        have j3 : K2 b3 = some (.cells [.sc (.int .u64 f.bits), .sc (.bool f.star)] 24) := by rw [← hK2]; simp [Heap.set, n314, n315, k3]
        have j14 : K2 b14 = some (.cells [.sc (.int .u64 (f.bits ||| pow2 N : Nat)), .sc (.bool f.star)] 24) := by rw [← hK2]; simp [Heap.set, n1415]
        have j15 : K2 b15 = some (.cells [.sc (.int .u64 (f.bits &&& not64 (pow2 N) : Nat)), .sc (.bool f.star)] 24) := by rw [← hK2]; simp [Heap.set]
        have jW : HWk H K2 := by
          have e14 : H b14 = none := kW.none h14
          have e15 : H b15 = none := kW.none h15'
          rw [← hK2]
          exact HWk.new e15 (HWk.new e14 (HWk.new e15 (HWk.new e14 (HWk.new e15 (HWk.new e14 kW)))))
        clear hK2
        refine AGo.rounds (fun m ρ4 K4 => ∃ k : Nat, k ≤ 64 ∧ m = 64 - k ∧ ρ4 2 = .sc (.int .i64 N) ∧ ρ4 3 = .sc (.pointer (some ⟨b3, 0, none⟩)) ∧ ρ4 14 = .sc (.pointer (some ⟨b14, 0, none⟩)) ∧ ρ4 15 = .sc (.pointer (some ⟨b15, 0, none⟩)) ∧ ρ4 16 = .sc (.int .i64 k) ∧ K4 = K2) ?_ (m := 64) (HLe.refl _)
          ⟨0, by omega, rfl, by simp [r2], by simp [r3], by simp, by simp, by simp, rfl⟩
        rintro m ρ4 K4 ih4 ⟨k, hk, rfl, p2, p3, p14, p15, p16, rfl⟩
        have hms := or_small hf hp
        have hls := and_small (b := not64 (pow2 N)) hf
        by_cases hlt : k < 64
        · have hlt' : (k : Int) < 64 := by omega
          have hwk : IntKind.i64.wrap ((k : Int) + 1) = ((k + 1 : Nat) : Int) := by rw [wrap_i64 (by omega) (by omega)]; push_cast; rfl
          simp -implicitDefEqProofs [p16, hlt']
          first | refine go_draw 21 f_mixed (by decide +kernel) ?_ | refine go_draw 2 f_mixed (by decide +kernel) ?_
          by_cases hkN : k = N
          · subst hkN
            simp -implicitDefEqProofs [p2, p16, hwk]
            exact AGo.again ih4 (m' := 64 - (k + 1)) (by omega) (HLe.refl _) ⟨k + 1, by omega, rfl, by simp [p2], by simp [p3], by simp [p14], by simp [p15], by simp, rfl⟩
          · have hkN' : ¬ (k : Int) = (N : Int) := by omega
            have e1 : hasB (f.bits ||| pow2 N) (k : Int) = hasB f.bits (k : Int) := by rw [has_more (by omega)]; simp; omega
            have e2 : hasB (f.bits &&& not64 (pow2 N)) (k : Int) = hasB f.bits (k : Int) := by rw [has_less (by omega)]; simp; omega
            simp -implicitDefEqProofs [p2, p3, p14, p15, p16, hkN', j3, j14, j15]
            refine AQS.eq (c_has ⟨f.bits ||| pow2 N, f.star⟩ _ hms) ?_
            simp -implicitDefEqProofs [p3, p16, j3]
            refine AQS.eq (c_has f _ hf) ?_
            simp -implicitDefEqProofs [e1, p15, p16, j15]
            refine AQS.eq (c_has ⟨f.bits &&& not64 (pow2 N), f.star⟩ _ hls) ?_
            simp -implicitDefEqProofs [p3, p16, j3]
            refine AQS.eq (c_has f _ hf) ?_
            simp -implicitDefEqProofs [e2, p16, hwk]
            exact AGo.again ih4 (m' := 64 - (k + 1)) (by omega) (HLe.refl _) ⟨k + 1, by omega, rfl, by simp [p2], by simp [p3], by simp [p14], by simp [p15], by simp, rfl⟩
        · have hlt' : ¬ (k : Int) < 64 := by omega
          have e1 : hasB (f.bits ||| pow2 N) (N : Int) = true := by rw [has_more (by omega)]; simp
          have e2 : hasB (f.bits &&& not64 (pow2 N)) (N : Int) = false := by rw [has_less (by omega)]; simp
          simp -implicitDefEqProofs [p2, p14, p16, hlt', j14]
          refine ACall.eq (c_has ⟨f.bits ||| pow2 N, f.star⟩ _ hms) ?_
          simp -implicitDefEqProofs [e1, p2, p15, j15]
          refine ACall.eq (c_has ⟨f.bits &&& not64 (pow2 N), f.star⟩ _ hls) ?_
          simp -implicitDefEqProofs [e2]
          exact jW
end Go.Proofs.YtdpgnbinekcgdaaDoor
