/- Fields: kinds, bounds, what is allowed. -/
import Derived.Test.YtdpgnbinekcgdaaGreatDoorFieldS
import Derived.Laws.BitsAllLaws
namespace Go.Proofs.YtdpgnbinekcgdaaGreatDoor
open Rg Go

variable {H : Heap}

theorem c_is (k : Int) : AOk Tryz.prog 42 [.sc (.int .i64 k)] H (.sc (.bool (isK k))) H := by
  refine ACalls.into Tryz.func42 rfl Tryz.ntmps42 Tryz.results42 (by simp) ?_
  by_cases h0 : 0 ≤ k
  · by_cases h4 : k ≤ 4
    · simp -implicitDefEqProofs [h0, h4, isK]
    · simp -implicitDefEqProofs [h0, h4, isK]
  · simp -implicitDefEqProofs [h0, isK]

theorem c_bounds {k : Int} (hk : isK k = true) : AOk Tryz.prog 82 [.sc (.int .i64 k)] H (.tup [.sc (.int .i64 (lowK k)), .sc (.int .i64 (highK k)), .sc (.int .i64 (mostK k))]) H := by
  refine ACalls.into Tryz.func82 rfl Tryz.ntmps82 Tryz.results82 (by simp) ?_
  simp -implicitDefEqProofs
  refine AAlloc.intro fun b hb => ?_
  rcases isK_cases hk with rfl | rfl | rfl | rfl | rfl <;> simp -implicitDefEqProofs <;> refine go_draw 15 f_mixed (by decide +kernel) ?_ <;> simp -implicitDefEqProofs [lowK, highK, mostK] <;> exact HWk.new hb (HWk.refl _)

theorem c_all {k : Int} (hk : isK k = true) : AOk Tryz.prog 49 [.sc (.int .i64 k)] H (.sc (.int .u64 (allK k))) H := by
  refine ACalls.into Tryz.func49 rfl Tryz.ntmps49 Tryz.results49 (by simp) ?_
  simp -implicitDefEqProofs
  refine ACall.eq (c_bounds hk) ?_
  rcases isK_cases hk with rfl | rfl | rfl | rfl | rfl <;> simp -implicitDefEqProofs [lowK, highK, mostK] <;> refine go_draw 7 f_mixed (by decide +kernel) ?_ <;> simp -implicitDefEqProofs [allK, wrap_i64, wrap_u64]
theorem c_may (k : Int) (f : Fld) (hf : f.bits < 18446744073709551616) : AOk Tryz.prog 15 [.sc (.int .i64 k), fAV f] H (.sc (.bool (mayB k f.bits))) H := by
  refine ACalls.into Tryz.func15 rfl Tryz.ntmps15 Tryz.results15 (by simp) ?_
  simp -implicitDefEqProofs [fAV]
  refine AAlloc.intro fun b hb => ?_
  have ha : allK k < 18446744073709551616 := by
    unfold allK
    rcases h : k.toNat with _ | _ | _ | _ | _ | _ <;> simp
  cases hk : isK k with
  | false =>
    simp -implicitDefEqProofs
    refine go_draw 16 f_mixed (by decide +kernel) ?_
    simp -implicitDefEqProofs
    refine AQS.eq (c_is k) ?_
    simp -implicitDefEqProofs [hk, mayB]
    exact HWk.new hb (HWk.refl _)
  | true =>
    by_cases h0 : f.bits = 0
    · simp -implicitDefEqProofs
      refine go_draw 16 f_mixed (by decide +kernel) ?_
      simp -implicitDefEqProofs
      refine AQS.eq (c_is k) ?_
      simp -implicitDefEqProofs [hk, mayB, h0]
      exact HWk.new hb (HWk.refl _)
    · simp -implicitDefEqProofs
      refine go_draw 16 f_mixed (by decide +kernel) ?_
      simp -implicitDefEqProofs
      refine AQS.eq (c_is k) ?_
      simp -implicitDefEqProofs [hk, h0]
      refine AQS.eq (c_all hk) ?_
      simp -implicitDefEqProofs [hk, h0, mayB, u64_andNot_nat _ _ hf ha]
      exact HWk.new hb (HWk.refl _)

theorem c_has (f : Fld) (n : Int) (hf : f.bits < 18446744073709551616) : AOk Tryz.prog 17 [fAV f, .sc (.int .i64 n)] H (.sc (.bool (hasB f.bits n))) H := by
  refine ACalls.into Tryz.func17 rfl Tryz.ntmps17 Tryz.results17 (by simp) ?_
  simp -implicitDefEqProofs [fAV]
  refine AAlloc.intro fun b hb => ?_
  by_cases h0 : 0 ≤ n
  · obtain ⟨m, rfl⟩ := Int.eq_ofNat_of_zero_le h0
    by_cases h1 : (m : Int) ≤ 63
    · have hm : min m 64 = m := by omega
      simp -implicitDefEqProofs [h1, hm, shr_nat, and1_nat _ m hf, hasB]
      exact HWk.new hb (HWk.refl _)
    · simp -implicitDefEqProofs [h1, hasB]
      exact HWk.new hb (HWk.refl _)
  · simp -implicitDefEqProofs [h0, hasB]
    exact HWk.new hb (HWk.refl _)

theorem c_first (hG : Glob H) (f : Fld) (n : Int) (hf : f.bits < 18446744073709551616) : AOk Tryz.prog 13 [fAV f, .sc (.int .i64 n)] H (optAV (firstB f.bits n)) H := by
  rw [firstB_eq]
  have hmax : (if 0 < n then n else 0) = (n.toNat : Int) := by split <;> omega
  generalize n.toNat = m at *
  refine ACalls.into Tryz.func13 rfl Tryz.ntmps13 Tryz.results13 (by simp) ?_
  simp -implicitDefEqProofs [fAV]
  refine AAlloc.intro fun b hb => ?_
  by_cases h1 : 63 < m
  · have h1' : (63 : Int) < m := by omega
    simp -implicitDefEqProofs [hmax, h1, h1', optAV]
    exact HWk.new hb (HWk.refl _)
  · have h1' : ¬ (63 : Int) < m := by omega
    have hm : min m 64 = m := by omega
    have hsh := shr_lt m hf
    by_cases h2 : shr f.bits m = 0
    · simp -implicitDefEqProofs [hmax, h1, h1', hm, shr_nat, h2, optAV]
      exact HWk.new hb (HWk.refl _)
    · simp -implicitDefEqProofs [hmax, h1, h1', hm, shr_nat, h2]
      refine ACall.eq (c_ctz64 (hG.set (by simp [hb])) _ hsh) ?_
      have hc := ctz_le _ hsh
      have hw : IntKind.i64.wrap ((m : Int) + (Lib.ctz 64 (shr f.bits m) : Nat)) = ((m + Lib.ctz 64 (shr f.bits m) : Nat) : Int) := by rw [wrap_i64 (by omega) (by omega)]; push_cast; rfl
      simp -implicitDefEqProofs [hw, optAV]
      exact HWk.new hb (HWk.refl _)

end Go.Proofs.YtdpgnbinekcgdaaGreatDoor
