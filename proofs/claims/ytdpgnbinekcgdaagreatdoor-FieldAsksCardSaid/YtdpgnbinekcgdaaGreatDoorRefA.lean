/- The document's fields: what is allowed. -/
import Derived.Test.YtdpgnbinekcgdaaGreatDoorFieldK
namespace Go.Proofs.YtdpgnbinekcgdaaGreatDoor
open Rg Go

variable {H : Heap}

theorem shr_succ (b i : Nat) : shr b i / 2 = shr b (i + 1) := by
  unfold shr
  rw [Nat.shiftRight_succ]
theorem shr_half {b i : Nat} (hb : b < 18446744073709551616) : IntKind.u64.wrap ((shr b i : Int) / 2) = (shr b (i + 1) : Int) := by
  have h1 := shr_lt (i + 1) hb
  have e : (shr b i : Int) / 2 = ((shr b i / 2 : Nat) : Int) := by push_cast; rfl
  rw [e, shr_succ]
  exact wrap_u64 (by omega) (by omega)
theorem shr_odd (b i : Nat) : ((shr b i : Int).tmod 2 = 1) = (b.testBit i = true) := by
  have e : (shr b i : Int).tmod 2 = ((shr b i % 2 : Nat) : Int) := rfl
  rw [e, Nat.testBit_eq_decide_div_mod_eq]
  unfold shr
  rw [Nat.shiftRight_eq_div_pow]
  simp only [decide_eq_true_eq]
  apply propext
  omega

theorem c_refHas (f : Fld) (n : Int) (hf : f.bits < 18446744073709551616) : AOk Tryz.prog 18 [fAV f, .sc (.int .i64 n)] H (.sc (.bool (hasB f.bits n))) H := by
  refine ACalls.into Tryz.func18 rfl Tryz.ntmps18 Tryz.results18 (by simp) ?_
  simp -implicitDefEqProofs [fAV]
  refine AAlloc.intro fun b hb => ?_
  by_cases h0 : n < 0
  · have e : hasB f.bits n = false := by simp [hasB]; omega
    simp -implicitDefEqProofs [h0, e]
    exact HWk.new hb (HWk.refl _)
  · by_cases h1 : 63 < n
    · have e : hasB f.bits n = false := by simp [hasB]; omega
      simp -implicitDefEqProofs [h0, h1, e]
      exact HWk.new hb (HWk.refl _)
    · obtain ⟨N, rfl⟩ := Int.eq_ofNat_of_zero_le (a := n) (by omega)
      have hN : N ≤ 63 := by omega
      have e : hasB f.bits (N : Int) = f.bits.testBit N := by simp [hasB]; omega
      rw [e]
      simp -implicitDefEqProofs [h0, h1]
      refine AGo.rounds (fun m ρ K => ∃ i : Nat, i ≤ N ∧ m = N - i ∧ ρ 1 = .sc (.int .i64 N) ∧ ρ 5 = .sc (.int .u64 (shr f.bits i)) ∧ ρ 6 = .sc (.int .i64 i) ∧ HWk H K) ?_ (m := N) (HLe.refl _) ⟨0, by omega, rfl, by simp, by simp [shr], by simp, HWk.new hb (HWk.refl _)⟩
      rintro m ρ K ih ⟨i, hi, rfl, r1, r5, r6, hW⟩
      by_cases hlt : i < N
      · have hlt' : (i : Int) < (N : Int) := by omega
        have hwi : IntKind.i64.wrap ((i : Int) + 1) = ((i + 1 : Nat) : Int) := by rw [wrap_i64 (by omega) (by omega)]; push_cast; rfl
        simp -implicitDefEqProofs [r1, r5, r6, hlt, shr_half hf, hwi]
        exact AGo.again ih (m' := N - (i + 1)) (by omega) (HLe.refl _) ⟨i + 1, by omega, rfl, by simp [r1], by simp, by simp, hW⟩
      · obtain rfl : i = N := by omega
        simp -implicitDefEqProofs [r1, r5, r6, shr_odd]
        exact hW
end Go.Proofs.YtdpgnbinekcgdaaGreatDoor
