/- The document's text of a field. -/
import Derived.Test.YtdpgnbinekcgdaaGreatDoorRefF
import Derived.Test.YtdpgnbinekcgdaaGreatDoorRefC
namespace Go.Proofs.YtdpgnbinekcgdaaGreatDoor
open Rg Go

variable {H : Heap}

theorem lowK_nat {k : Int} (hk : isK k = true) : ∃ l : Nat, lowK k = (l : Int) ∧ l ≤ 1 := by
  rcases isK_cases hk with rfl | rfl | rfl | rfl | rfl
  · exact ⟨0, rfl, by omega⟩
  · exact ⟨0, rfl, by omega⟩
  · exact ⟨1, rfl, by omega⟩
  · exact ⟨1, rfl, by omega⟩
  · exact ⟨0, rfl, by omega⟩

theorem c_refText (k : Int) (f : Fld) (hf : f.bits < 18446744073709551616) : AOk Tryz.prog 20 [.sc (.int .i64 k), fAV f] H (str (textK k f)) H := by
  refine ACalls.into Tryz.func20 rfl Tryz.ntmps20 Tryz.results20 (by simp) ?_
  simp -implicitDefEqProofs [fAV]
  refine AAlloc.intro fun b3 h3 => ?_
  simp -implicitDefEqProofs
  generalize hK : Heap.set _ b3 _ = K0
  have k3 : K0 b3 = some (.cells [.sc (.int .u64 f.bits), .sc (.bool f.star)] 25) := by rw [← hK]; simp [Heap.set]
  have kW : HWk H K0 := by rw [← hK]; exact HWk.new h3 (HWk.refl _)
  clear hK
  refine ACall.eq (c_refMay k f hf) ?_
  cases hm : mayB k f.bits with
  | false =>
    rw [text_none hm]
    simp -implicitDefEqProofs
    exact kW
  | true =>
    obtain ⟨hk, hb0, hr⟩ := may_bits hf hm
    have hbd := bounds_le hk
    obtain ⟨lo, hlo, hlo1⟩ := lowK_nat hk
    obtain ⟨M, hM, hM7, hM60⟩ := mostK_nat hk
    simp -implicitDefEqProofs [k3]
    refine ACall.eq (c_refLow hk) ?_
    simp -implicitDefEqProofs
    refine AGo.joinLoop (fun ρ K => K = K0 ∧ ρ 3 = .sc (.pointer (some ⟨b3, 0, none⟩)) ∧ ∃ w : Bool, ρ 5 = .sc (.bool w) ∧ (w = true ↔ wholeP k f)) (fun k' hk' => ?_) ?_
    · refine AGo.rounds (fun m ρ K => ∃ (i : Nat) (w : Bool), lo ≤ i ∧ i ≤ M ∧ m = M - i ∧ ρ 0 = .sc (.int .i64 k) ∧ ρ 3 = .sc (.pointer (some ⟨b3, 0, none⟩)) ∧ ρ 5 = .sc (.bool w) ∧ ρ 6 = .sc (.int .i64 i) ∧
        (w = true ↔ f.star = true ∧ ∀ j, lo ≤ j → j < i → f.bits.testBit j = true) ∧ K = K0) ?_ (m := M - lo) (HLe.refl _)
        ⟨lo, f.star, by omega, by omega, rfl, by simp, by simp, by simp, by simp [hlo], ⟨fun h => ⟨h, fun j h1 h2 => by omega⟩, fun h => h.1⟩, rfl⟩
      rintro m ρ K ih ⟨i, w, hi0, hi, rfl, r0, r3, r5, r6, hw, rfl⟩
      by_cases hlt : i < M
      · have hlt' : (i : Int) ≤ mostK k := by omega
        have hwi : IntKind.i64.wrap ((i : Int) + 1) = ((i + 1 : Nat) : Int) := by rw [wrap_i64 (by omega) (by omega)]; push_cast; rfl
        simp -implicitDefEqProofs [r0, r6]
        refine ACall.eq (c_refHigh hk) ?_
        cases w with
        | false =>
          simp -implicitDefEqProofs [r5, r6, hlt', hwi]
          refine AGo.again ih (m' := M - (i + 1)) (by omega) (HLe.refl _) ⟨i + 1, false, by omega, by omega, rfl, by simp [r0], by simp [r3], by simp, by simp, ⟨fun h => (by cases h), fun h => ?_⟩, rfl⟩
          exact hw.2 ⟨h.1, fun j h1 h2 => h.2 j h1 (by omega)⟩
        | true =>
          have hw1 := hw.1 rfl
          simp -implicitDefEqProofs [r3, r5, r6, hlt', k3]
          refine ACall.eq (c_refHas f _ hf) ?_
          rw [hasB_nat2 _ _ (by omega)]
          simp -implicitDefEqProofs [r6, hwi]
          refine AGo.again ih (m' := M - (i + 1)) (by omega) (HLe.refl _) ⟨i + 1, f.bits.testBit i, by omega, by omega, rfl, by simp [r0], by simp [r3], by simp, by simp, ⟨fun h => ⟨hw1.1, fun j h1 h2 => ?_⟩, fun h => h.2 i (by omega) (by omega)⟩, rfl⟩
          by_cases hj : j = i
          · subst hj; exact h
          · exact hw1.2 j h1 (by omega)
      · have hlt' : ¬ (i : Int) ≤ mostK k := by omega
        simp -implicitDefEqProofs [r0, r6]
        refine ACall.eq (c_refHigh hk) ?_
        simp -implicitDefEqProofs [r6, hlt']
        refine hk' _ _ ⟨rfl, by simp [r3], w, by simp [r5], hw.trans ⟨fun h => ⟨h.1, fun j h1 h2 => h.2 j (by omega) (by omega)⟩, fun h => ⟨h.1, fun j h1 h2 => h.2 j (by omega) (by omega)⟩⟩⟩
    · rintro ρ K ⟨rfl, r3, w, r5, hw⟩
      cases w with
      | true =>
        rw [text_star hf hm (hw.1 rfl)]
        simp -implicitDefEqProofs [r5]
        exact kW
      | false =>
        rw [text_ref hf hm (fun h => by have := hw.2 h; cases this)]
        simp -implicitDefEqProofs [r3, r5]
        refine AGo.rounds (fun m ρ K' => ∃ (i : Nat) (s : List UInt8), i ≤ 64 ∧ m = 64 - i ∧ s.length ≤ 3 * i ∧ ρ 3 = .sc (.pointer (some ⟨b3, 0, none⟩)) ∧ ρ 7 = str s ∧ ρ 8 = .sc (.int .i64 i) ∧ refText f.bits (64 - i) i s = refText f.bits 64 0 [] ∧ K' = K) ?_ (m := 64) (HLe.refl _)
          ⟨0, [], by omega, rfl, by simp, by simp [r3], by simp, by simp, rfl, rfl⟩
        rintro m ρ K' ih ⟨i, s, hi, rfl, hsl, r3, r7, r8, hs, rfl⟩
        by_cases hlt : i < 64
        · have hlt' : (i : Int) < 64 := by omega
          have hwi : IntKind.i64.wrap ((i : Int) + 1) = ((i + 1 : Nat) : Int) := by rw [wrap_i64 (by omega) (by omega)]; push_cast; rfl
          have hwi' : IntKind.i64.wrap ((i : Int) + 1) = (i : Int) + 1 := by rw [wrap_i64 (by omega) (by omega)]
          have hwm : IntKind.i64.wrap ((i : Int) - 1) = (i : Int) - 1 := by rw [wrap_i64 (by omega) (by omega)]
          have hwm2 : IntKind.i64.wrap ((i : Int) - 2) = (i : Int) - 2 := by rw [wrap_i64 (by omega) (by omega)]
          have hstep := refStep_len f.bits i s
          have hs' : refText f.bits (64 - (i + 1)) (i + 1) (refStep f.bits i s) = refText f.bits 64 0 [] := by
            rw [← hs, show 64 - i = (64 - (i + 1)) + 1 by omega]; rfl
          have hd := dec2_len i
          have again : ∀ (ρ' : Nat → AV), ρ' 3 = .sc (.pointer (some ⟨b3, 0, none⟩)) → ρ' 7 = str (refStep f.bits i s) → ρ' 8 = .sc (.int .i64 ((i + 1 : Nat) : Int)) → ∃ (i' : Nat) (s' : List UInt8), i' ≤ 64 ∧ 64 - (i + 1) = 64 - i' ∧ s'.length ≤ 3 * i' ∧ ρ' 3 = .sc (.pointer (some ⟨b3, 0, none⟩)) ∧ ρ' 7 = str s' ∧ ρ' 8 = .sc (.int .i64 i') ∧ refText f.bits (64 - i') i' s' = refText f.bits 64 0 [] ∧ K' = K' :=
            fun ρ' a b c => ⟨i + 1, _, by omega, rfl, by omega, a, b, c, hs', rfl⟩
          simp -implicitDefEqProofs [r3, r8, k3, hlt']
          refine ACall.eq (c_refHas f _ hf) ?_
          cases h0 : hasB f.bits (i : Int) with
          | false =>
            have e : refStep f.bits i s = s := by unfold refStep; rw [if_pos h0]
            simp -implicitDefEqProofs [r8, hwi]
            exact AGo.again ih (m' := 64 - (i + 1)) (by omega) (HLe.refl _) (again _ (by simp [r3]) (by simp [r7, e]) (by simp))
          | true =>
            have hl1 : s.length + 1 ≤ 9223372036854775807 := by omega
            have hl2 : s.length + 1 + (dec2 i).length ≤ 9223372036854775807 := by omega
            have hl3 : (dec2 i).length ≤ 9223372036854775807 := by omega
            cases hp : hasB f.bits ((i : Int) - 1) with
            | false =>
              have e : refStep f.bits i s = appT s (dec2 i) := by unfold refStep refAhead; rw [h0, hp]; simp
              simp -implicitDefEqProofs [r3, r8, k3, hwm]
              refine ACall.eq (c_refHas f _ hf) ?_
              by_cases hs0 : s = []
              · subst hs0
                simp -implicitDefEqProofs [hp, r3, r7, r8, k3]
                refine ACall.eq (c_refDigits (n := i) (by omega)) ?_
                simp -implicitDefEqProofs [r7, r8, hwi, hl1, hl2, hl3]
                exact AGo.again ih (m' := 64 - (i + 1)) (by omega) (HLe.refl _) (again _ (by simp [r3]) (by simp [e, appT]) (by simp))
              · have hsb : (s == []) = false := by simpa using hs0
                simp -implicitDefEqProofs [hsb, hl1, hp, r3, r7, r8, k3]
                refine ACall.eq (c_refDigits (n := i) (by omega)) ?_
                simp -implicitDefEqProofs [r7, r8, hwi, hl1, hl2, hl3]
                exact AGo.again ih (m' := 64 - (i + 1)) (by omega) (HLe.refl _) (again _ (by simp [r3]) (by simp [e, appT, hs0]) (by simp))
            | true =>
              simp -implicitDefEqProofs [r3, r8, k3, hwm]
              refine ACall.eq (c_refHas f _ hf) ?_
              simp -implicitDefEqProofs [hp, r3, r8, k3, hwm2]
              refine ACall.eq (c_refHas f _ hf) ?_
              cases hq : hasB f.bits ((i : Int) - 2) with
              | true =>
                simp -implicitDefEqProofs [hq, r3, r8, k3, hwi']
                refine ACall.eq (c_refHas f _ hf) ?_
                cases hn : hasB f.bits ((i : Int) + 1) with
                | true =>
                  have e : refStep f.bits i s = s := by unfold refStep refAhead; rw [h0, hp, hq, hn]; simp
                  simp -implicitDefEqProofs [hn, r8, hwi]
                  exact AGo.again ih (m' := 64 - (i + 1)) (by omega) (HLe.refl _) (again _ (by simp [r3]) (by simp [r7, e]) (by simp))
                | false =>
                  have e : refStep f.bits i s = s ++ 45 :: dec2 i := by unfold refStep refAhead; rw [h0, hp, hq, hn]; simp
                  simp -implicitDefEqProofs [hn, r7, r8, hl1]
                  refine ACall.eq (c_refDigits (n := i) (by omega)) ?_
                  simp -implicitDefEqProofs [r7, r8, hwi, hl1, hl2, hl3]
                  exact AGo.again ih (m' := 64 - (i + 1)) (by omega) (HLe.refl _) (again _ (by simp [r3]) (by simp [e]) (by simp))
              | false =>
                simp -implicitDefEqProofs [hq, r3, r8, k3, hwi']
                refine ACall.eq (c_refHas f _ hf) ?_
                cases hn : hasB f.bits ((i : Int) + 1) with
                | true =>
                  have e : refStep f.bits i s = s := by unfold refStep refAhead; rw [h0, hp, hq, hn]; simp
                  simp -implicitDefEqProofs [hn, r3, r8, k3, hwi']
                  refine ACall.eq (c_refHas f _ hf) ?_
                  simp -implicitDefEqProofs [hn, r8, hwi]
                  exact AGo.again ih (m' := 64 - (i + 1)) (by omega) (HLe.refl _) (again _ (by simp [r3]) (by simp [r7, e]) (by simp))
                | false =>
                  have e : refStep f.bits i s = appT s (dec2 i) := by unfold refStep refAhead; rw [h0, hp, hq, hn]; simp
                  by_cases hs0 : s = []
                  · subst hs0
                    simp -implicitDefEqProofs [hn, r3, r7, r8, k3]
                    refine ACall.eq (c_refDigits (n := i) (by omega)) ?_
                    simp -implicitDefEqProofs [r7, r8, hwi, hl1, hl2, hl3]
                    exact AGo.again ih (m' := 64 - (i + 1)) (by omega) (HLe.refl _) (again _ (by simp [r3]) (by simp [e, appT]) (by simp))
                  · have hsb : (s == []) = false := by simpa using hs0
                    simp -implicitDefEqProofs [hsb, hl1, hn, r3, r7, r8, k3]
                    refine ACall.eq (c_refDigits (n := i) (by omega)) ?_
                    simp -implicitDefEqProofs [r7, r8, hwi, hl1, hl2, hl3]
                    exact AGo.again ih (m' := 64 - (i + 1)) (by omega) (HLe.refl _) (again _ (by simp [r3]) (by simp [e, appT, hs0]) (by simp))
        · obtain rfl : i = 64 := by omega
          simp -implicitDefEqProofs [r7, r8]
          exact ⟨hs, kW⟩
end Go.Proofs.YtdpgnbinekcgdaaGreatDoor
