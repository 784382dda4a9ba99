/- The document's fields: the least number from one on; a number's digits. -/
import Derived.Test.YtdpgnbinekcgdaaGreatDoorRefA
import Derived.Test.YtdpgnbinekcgdaaGreatDoorRefL
namespace Go.Proofs.YtdpgnbinekcgdaaGreatDoor
open Rg Go

variable {H : Heap}

theorem c_refFirst (f : Fld) (n : Int) (hf : f.bits < 18446744073709551616) : AOk Tryz.prog 14 [fAV f, .sc (.int .i64 n)] H (optAV (firstB f.bits n)) H := by
  refine ACalls.into Tryz.func14 rfl Tryz.ntmps14 Tryz.results14 (by simp) ?_
  simp -implicitDefEqProofs [fAV]
  refine AAlloc.intro fun b2 h2 => ?_
  simp -implicitDefEqProofs
  generalize hK : Heap.set _ b2 _ = K0
  have k2 : K0 b2 = some (.cells [.sc (.int .u64 f.bits), .sc (.bool f.star)] 25) := by rw [← hK]; simp [Heap.set]
  have kW : HWk H K0 := by rw [← hK]; exact HWk.new h2 (HWk.refl _)
  clear hK
  refine AGo.rounds (fun m ρ K => ∃ i : Nat, i ≤ 64 ∧ m = 64 - i ∧ ρ 1 = .sc (.int .i64 n) ∧ ρ 2 = .sc (.pointer (some ⟨b2, 0, none⟩)) ∧ ρ 6 = .sc (.int .i64 i) ∧ (∀ j, n.toNat ≤ j → j < i → f.bits.testBit j = false) ∧ K = K0) ?_ (m := 64) (HLe.refl _)
    ⟨0, by omega, rfl, by simp, by simp, by simp, fun j _ h => by omega, rfl⟩
  rintro m ρ K ih ⟨i, hi, rfl, r1, r2, r6, hno, rfl⟩
  by_cases hlt : i < 64
  · have hlt' : (i : Int) < 64 := by omega
    have hwi : IntKind.i64.wrap ((i : Int) + 1) = ((i + 1 : Nat) : Int) := by rw [wrap_i64 (by omega) (by omega)]; push_cast; rfl
    have again : ∀ ρ' : Nat → AV, (n.toNat ≤ i → f.bits.testBit i = false) → ∀ j, n.toNat ≤ j → j < i + 1 → f.bits.testBit j = false := fun _ h j h1 h2 => by
      by_cases hj : j = i
      · subst hj; exact h h1
      · exact hno j h1 (by omega)
    by_cases hn : n ≤ (i : Int)
    · simp -implicitDefEqProofs [r1, r2, r6, hlt', hn, k2]
      refine ACall.eq (c_refHas f _ hf) ?_
      rw [hasB_nat2 _ _ (by omega)]
      cases ht : f.bits.testBit i with
      | false =>
        simp -implicitDefEqProofs [r6, hwi]
        exact AGo.again ih (m' := 64 - (i + 1)) (by omega) (HLe.refl _) ⟨i + 1, by omega, rfl, by simp [r1], by simp [r2], by simp, again ρ (fun _ => ht), rfl⟩
      | true =>
        have e : firstB f.bits n = some i := by
          cases hfb : firstB f.bits n with
          | none => have := firstB_none hf hfb i (by omega); rw [ht] at this; cases this
          | some x =>
            obtain ⟨x1, x2, x3, x4⟩ := firstB_some hf hfb
            rcases Nat.lt_trichotomy x i with h | h | h
            · rw [hno x x1 h] at x3; cases x3
            · rw [h]
            · rw [x4 i (by omega) h] at ht; cases ht
        simp -implicitDefEqProofs [r6, e, optAV]
        exact kW
    · simp -implicitDefEqProofs [r1, r2, r6, hlt', hn, k2, hwi]
      exact AGo.again ih (m' := 64 - (i + 1)) (by omega) (HLe.refl _) ⟨i + 1, by omega, rfl, by simp [r1], by simp [r2], by simp, again ρ (fun h => by omega), rfl⟩
  · have hlt' : ¬ (i : Int) < 64 := by omega
    have e : firstB f.bits n = none := by
      cases hfb : firstB f.bits n with
      | none => rfl
      | some x =>
        obtain ⟨x1, x2, x3, x4⟩ := firstB_some hf hfb
        rw [hno x x1 (by omega)] at x3; cases x3
    simp -implicitDefEqProofs [r6, hlt', e, optAV]
    exact kW

theorem c_refDigit {n : Nat} (hn : n < 10) : AOk Tryz.prog 54 [.sc (.int .i64 n)] H (str (dec2 n)) H := by
  refine ACalls.into Tryz.func54 rfl Tryz.ntmps54 Tryz.results54 (by simp) ?_
  have h : n = 0 ∨ n = 1 ∨ n = 2 ∨ n = 3 ∨ n = 4 ∨ n = 5 ∨ n = 6 ∨ n = 7 ∨ n = 8 ∨ n = 9 := by omega
  rcases h with rfl | rfl | rfl | rfl | rfl | rfl | rfl | rfl | rfl | rfl <;> simp -implicitDefEqProofs [dec2, wrap_i64]
theorem c_refDigits {n : Nat} (hn : n < 100) : AOk Tryz.prog 54 [.sc (.int .i64 n)] H (str (dec2 n)) H := by
  by_cases h : n < 10
  · exact c_refDigit h
  · refine ACalls.into Tryz.func54 rfl Tryz.ntmps54 Tryz.results54 (by simp) ?_
    have h1 : ¬ (n : Int) < 10 := by omega
    have hq : IntKind.i64.wrap ((n : Int) / 10) = ((n / 10 : Nat) : Int) := by rw [wrap_i64 (by omega) (by omega)]; push_cast; rfl
    have hm : (n : Int).tmod 10 = ((n % 10 : Nat) : Int) := rfl
    have e : dec2 n = dec2 (n / 10) ++ dec2 (n % 10) := by
      unfold dec2
      rw [if_neg h, if_pos (by omega), if_pos (by omega)]
      rfl
    have l1 := dec2_len (n / 10)
    have l2 := dec2_len (n % 10)
    have hl : (dec2 (n / 10)).length + (dec2 (n % 10)).length ≤ 9223372036854775807 := by omega
    rw [e]
    simp -implicitDefEqProofs [h1, hq, hm]
    refine ACall.eq (c_refDigit (n := n / 10) (by omega)) ?_
    simp -implicitDefEqProofs [hm]
    refine ACall.eq (c_refDigit (n := n % 10) (by omega)) ?_
    simp -implicitDefEqProofs [hl]
end Go.Proofs.YtdpgnbinekcgdaaGreatDoor
