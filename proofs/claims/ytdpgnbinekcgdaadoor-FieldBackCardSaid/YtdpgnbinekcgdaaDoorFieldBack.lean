/- FieldBack gives true, whatever the input. -/
import Derived.Test.YtdpgnbinekcgdaaDoorFieldC
import Derived.Test.YtdpgnbinekcgdaaDoorWrap
import Derived.Test.YtdpgnbinekcgdaaDoorTie
namespace Go.Proofs.YtdpgnbinekcgdaaDoor
open Rg Go Go.RowKit

variable {H : Heap}

theorem beq_star (s : List UInt8) : (s == [42]) = decide (s = [42]) := by
  by_cases h : s = [42] <;> simp [h]

theorem fieldBack_ok (hG : Glob H) (k : Int) (f : Fld) (hf : f.bits < 18446744073709551616) (s t : List UInt8) (hs : s.length ≤ 9223372036854775807) (ht : t.length ≤ 9223372036854775807) :
    AOk Tryd.prog 5 [.sc (.int .i64 k), fAV f, str s, str t] H (.sc (.bool true)) H := by
  refine ACalls.into Tryd.func5 rfl Tryd.ntmps5 Tryd.results5 (by simp) ?_
  simp -implicitDefEqProofs [fAV]
  refine AAlloc.intro fun b5 h5 => ?_
  simp -implicitDefEqProofs
  generalize hK : Heap.set _ b5 _ = K0
  have k5 : K0 b5 = some (.cells [.sc (.int .u64 f.bits), .sc (.bool f.star)] 24) := by rw [← hK]; simp [Heap.set]
  have kG : Glob K0 := by rw [← hK]; exact hG.new h5
  have kW : HWk H K0 := by rw [← hK]; exact HWk.new h5 (HWk.refl _)
  clear hK
  refine ACall.eq (c_known06 kG) ?_
  simp -implicitDefEqProofs [k5]
  refine ACall.eq (c_may k f hf) ?_
  simp -implicitDefEqProofs
  refine ABr.join (fun ρ K => ρ 0 = .sc (.int .i64 k) ∧ ρ 2 = str s ∧ ρ 3 = str t ∧ Glob K ∧ HWk H K) (fun k' hk' => ?_) ?_
  · cases hm : mayB k f.bits with
    | false =>
      simp -implicitDefEqProofs
      exact hk' _ _ ⟨by simp, by simp, by simp, kG, kW⟩
    | true =>
      obtain ⟨tb, tl⟩ := text_back hf hm
      simp -implicitDefEqProofs [k5]
      refine ACall.eq (c_text kG k f hf) ?_
      simp -implicitDefEqProofs
      refine ACall.eq (c_parse kG k (textK k f) (by omega)) ?_
      rw [tb]
      simp -implicitDefEqProofs [fAV]
      refine AAlloc.intro fun b10 h10 => ?_
      have n510 : b5 ≠ b10 := by rintro rfl; rw [h10] at k5; cases k5
      have tl' : ¬ (150 : Int) < (textK k f).length := by omega
      simp -implicitDefEqProofs [n510, n510.symm, k5, beq_star, tl']
      exact hk' _ _ ⟨by simp, by simp, by simp, kG.new h10, HWk.new (kW.none h10) kW⟩
  · rintro ρ K ⟨r0, r2, r3, kG, kW⟩
    by_cases hs45 : (45 : Int) < s.length
    · simp -implicitDefEqProofs [r0, r2, r3, hs45]
      exact kW
    · by_cases ht45 : (45 : Int) < t.length
      · simp -implicitDefEqProofs [r0, r2, r3, hs45, ht45]
        exact kW
      · obtain ⟨j1, j2⟩ := parse_join (k := k) (s := s) (t := t) (by omega) (by omega)
        obtain ⟨j3, j4⟩ := parse_join (k := k) (s := t) (t := s) (by omega) (by omega)
        rw [show s ++ [44] ++ t = s ++ 44 :: t by simp] at j1 j2
        rw [show t ++ [44] ++ s = t ++ 44 :: s by simp] at j3 j4
        have lt1 := parse_lt k (s ++ 44 :: t)
        have s1 : s.length + 1 ≤ 9223372036854775807 := by omega
        have s2 : s.length + 1 + t.length ≤ 9223372036854775807 := by omega
        have s3 : t.length + 1 ≤ 9223372036854775807 := by omega
        have s4 : t.length + 1 + s.length ≤ 9223372036854775807 := by omega
        simp -implicitDefEqProofs [r0, r2, r3, hs45, ht45]
        refine ACall.eq (c_parse kG k s (by omega)) ?_
        simp -implicitDefEqProofs [fAV]
        refine AAlloc.intro fun b12 h12 => ?_
        simp -implicitDefEqProofs [r0, r3]
        refine ACall.eq (c_parse (kG.new h12) k t (by omega)) ?_
        simp -implicitDefEqProofs [fAV]
        refine AAlloc.intro fun b14 h14 => ?_
        have n42 : b14 ≠ b12 := by rintro rfl; simp [Heap.set] at h14
        simp -implicitDefEqProofs [r0, r2, r3, s1, s2]
        refine ACall.eq (c_parse ((kG.new h12).new h14) k _ (by simp; omega)) ?_
        simp -implicitDefEqProofs [fAV]
        refine AAlloc.intro fun b16 h16 => ?_
        have n64 : b16 ≠ b14 := by rintro rfl; simp [Heap.set] at h16
        have n62 : b16 ≠ b12 := by rintro rfl; simp [Heap.set, n42.symm] at h16
        simp -implicitDefEqProofs [r0, r2, r3, s3, s4]
        refine ACall.eq (c_parse (((kG.new h12).new h14).new h16) k _ (by simp; omega)) ?_
        simp -implicitDefEqProofs [fAV]
        refine AAlloc.intro fun b18 h18 => ?_
        have n86 : b18 ≠ b16 := by rintro rfl; simp [Heap.set] at h18
        have n84 : b18 ≠ b14 := by rintro rfl; simp [Heap.set, n64.symm] at h18
        have n82 : b18 ≠ b12 := by rintro rfl; simp [Heap.set, n62.symm, n42.symm] at h18
        have jW : ∀ o1 o2 o3 o4, HWk H ((((K.set b12 o1).set b14 o2).set b16 o3).set b18 o4) := fun o1 o2 o3 o4 => by
          have e14 : K b14 = none := (HLe.set_fresh h12).none h14
          have e16 : K b16 = none := (HLe.set_fresh h12).none ((HLe.set_fresh h14).none h16)
          have e18 : K b18 = none := (HLe.set_fresh h12).none ((HLe.set_fresh h14).none ((HLe.set_fresh h16).none h18))
          exact HWk.new (kW.none e18) (HWk.new (kW.none e16) (HWk.new (kW.none e14) (HWk.new (kW.none h12) kW)))
        by_cases hea : (parseK k s).2 = 0
        · by_cases heb : (parseK k t).2 = 0
          · obtain ⟨c1, m1⟩ := j1 hea heb
            obtain ⟨d1, _⟩ := j3 heb hea
            rw [Nat.or_comm] at d1
            have hor := u64_or_nat _ _ (parse_lt k s) (parse_lt k t)
            have l1 := or_small (parse_lt k s) (parse_lt k t)
            simp -implicitDefEqProofs [hea, heb, c1, d1, n42.symm, n62.symm, n64.symm, n82.symm, n84.symm, n86.symm, hor, r0]
            refine ACall.eq (c_may k ⟨(parseK k s).1.bits ||| (parseK k t).1.bits, (parseK k s).1.star⟩ l1) ?_
            rw [m1]
            simp -implicitDefEqProofs
            exact jW _ _ _ _
          · have c2 := j2 (fun h => heb h.2)
            have d2 := j4 (fun h => heb h.1)
            simp -implicitDefEqProofs [hea, heb, c2, d2]
            exact jW _ _ _ _
        · have c2 := j2 (fun h => hea h.1)
          have d2 := j4 (fun h => hea h.2)
          simp -implicitDefEqProofs [hea, c2, d2]
          exact jW _ _ _ _
end Go.Proofs.YtdpgnbinekcgdaaDoor
