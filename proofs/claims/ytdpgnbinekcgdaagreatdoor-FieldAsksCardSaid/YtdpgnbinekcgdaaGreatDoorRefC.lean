/- The document's fields: kinds, which may be. -/
import Derived.Test.YtdpgnbinekcgdaaGreatDoorRefA
import Derived.Test.YtdpgnbinekcgdaaGreatDoorFieldC
namespace Go.Proofs.YtdpgnbinekcgdaaGreatDoor
open Rg Go

variable {H : Heap}

theorem c_refLow {k : Int} (hk : isK k = true) : AOk Tryz.prog 50 [.sc (.int .i64 k)] H (.sc (.int .i64 (lowK k))) H := by
  refine ACalls.into Tryz.func50 rfl Tryz.ntmps50 Tryz.results50 (by simp) ?_
  rcases isK_cases hk with rfl | rfl | rfl | rfl | rfl <;> simp -implicitDefEqProofs [lowK]
theorem c_refHigh {k : Int} (hk : isK k = true) : AOk Tryz.prog 51 [.sc (.int .i64 k)] H (.sc (.int .i64 (mostK k))) H := by
  refine ACalls.into Tryz.func51 rfl Tryz.ntmps51 Tryz.results51 (by simp) ?_
  rcases isK_cases hk with rfl | rfl | rfl | rfl | rfl <;> simp -implicitDefEqProofs [mostK]
theorem c_refMay (k : Int) (f : Fld) (hf : f.bits < 18446744073709551616) : AOk Tryz.prog 16 [.sc (.int .i64 k), fAV f] H (.sc (.bool (mayB k f.bits))) H := by
  refine ACalls.into Tryz.func16 rfl Tryz.ntmps16 Tryz.results16 (by simp) ?_
  simp -implicitDefEqProofs [fAV]
  refine AAlloc.intro fun b3 h3 => ?_
  have hW : ∀ o, HWk H (H.set b3 o) := fun o => HWk.new h3 (HWk.refl _)
  by_cases k0 : k < 0
  · have e : mayB k f.bits = false := by simp [mayB, isK]; intro h; omega
    simp -implicitDefEqProofs [k0, e]
    exact hW _
  · by_cases k4 : 4 < k
    · have e : mayB k f.bits = false := by simp [mayB, isK]; intro _ h; omega
      simp -implicitDefEqProofs [k0, k4, e]
      exact hW _
    · have hk : isK k = true := by simp [isK]; omega
      by_cases hb : f.bits = 0
      · have e : mayB k f.bits = false := by simp [mayB, hb]
        rw [e]
        simp -implicitDefEqProofs [k0, k4, hb]
        exact hW _
      · simp -implicitDefEqProofs [k0, k4, hb]
        generalize hK : Heap.set _ b3 _ = K0
        have k3 : K0 b3 = some (.cells [.sc (.int .u64 f.bits), .sc (.bool f.star)] 25) := by rw [← hK]; simp [Heap.set]
        have kW : HWk H K0 := by rw [← hK]; exact hW _
        clear hK hW
        refine AGo.rounds (fun m ρ K => ∃ j : Nat, j ≤ 64 ∧ m = 64 - j ∧ ρ 0 = .sc (.int .i64 k) ∧ ρ 3 = .sc (.pointer (some ⟨b3, 0, none⟩)) ∧ ρ 5 = .sc (.int .i64 j) ∧ (∀ i, i < j → f.bits.testBit i = true → lowK k ≤ (i : Int) ∧ (i : Int) ≤ mostK k) ∧ K = K0) ?_ (m := 64) (HLe.refl _)
          ⟨0, by omega, rfl, by simp, by simp, by simp, fun i hi => by omega, rfl⟩
        rintro m ρ K ih ⟨j, hj, rfl, r0, r3, r5, hin, rfl⟩
        by_cases hlt : j < 64
        · have hlt' : (j : Int) < 64 := by omega
          have hwj : IntKind.i64.wrap ((j : Int) + 1) = ((j + 1 : Nat) : Int) := by rw [wrap_i64 (by omega) (by omega)]; push_cast; rfl
          have again : ∀ (ρ' : Nat → AV), (f.bits.testBit j = true → lowK k ≤ (j : Int) ∧ (j : Int) ≤ mostK k) → ∀ i, i < j + 1 → f.bits.testBit i = true → lowK k ≤ (i : Int) ∧ (i : Int) ≤ mostK k := fun _ h i hi ht => by
            by_cases he : i = j
            · subst he; exact h ht
            · exact hin i (by omega) ht
          simp -implicitDefEqProofs [r0, r3, r5, k3, hlt']
          refine ACall.eq (c_refHas f _ hf) ?_
          rw [hasB_nat2 _ _ (by omega)]
          cases ht : f.bits.testBit j with
          | false =>
            simp -implicitDefEqProofs [r5, hwj]
            exact AGo.again ih (m' := 64 - (j + 1)) (by omega) (HLe.refl _) ⟨j + 1, by omega, rfl, by simp [r0], by simp [r3], by simp, again ρ (fun h => by rw [ht] at h; cases h), rfl⟩
          | true =>
            have bad : ¬ (lowK k ≤ (j : Int) ∧ (j : Int) ≤ mostK k) → mayB k f.bits = false := fun h => by
              cases hm : mayB k f.bits with
              | false => rfl
              | true => exact absurd ((may_bits hf hm).2.2 j ht) h
            simp -implicitDefEqProofs [r0, r5]
            refine ACall.eq (c_refLow hk) ?_
            by_cases h1 : (j : Int) < lowK k
            · rw [bad (by omega)]
              simp -implicitDefEqProofs [h1]
              exact kW
            · simp -implicitDefEqProofs [h1, r0, r5]
              refine ACall.eq (c_refHigh hk) ?_
              by_cases h2 : mostK k < (j : Int)
              · rw [bad (by omega)]
                simp -implicitDefEqProofs [h2]
                exact kW
              · simp -implicitDefEqProofs [h2, r5, hwj]
                exact AGo.again ih (m' := 64 - (j + 1)) (by omega) (HLe.refl _) ⟨j + 1, by omega, rfl, by simp [r0], by simp [r3], by simp, again ρ (fun _ => by omega), rfl⟩
        · have hlt' : ¬ (j : Int) < 64 := by omega
          have e : mayB k f.bits = true := may_of hk hb fun i hi => hin i (by have := testBit_high hf hi; omega) hi
          rw [e]
          simp -implicitDefEqProofs [r5, hlt']
          exact kW
end Go.Proofs.YtdpgnbinekcgdaaGreatDoor
