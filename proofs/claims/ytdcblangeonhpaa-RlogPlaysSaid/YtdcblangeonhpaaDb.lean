/- RlogBase gives true. -/
import Derived.Test.YtdcblangeonhpaaDa
namespace Go.Proofs.Ytdcblangeonhpaa
open Rg Go

theorem bodiesB_slim {L : List Ent} (h : bodiesB L = false) : Slim L := fun e he => by
  have := (List.any_eq_false.1 h) e he
  simp at this; omega

theorem rlogBase_ok {H : Heap} (i t : Int) (L : List Ent) (x : Int) (hi : 0 ≤ i ∧ i ≤ 18446744073709551615) (ht : 0 ≤ t ∧ t ≤ 18446744073709551615) (hx : 0 ≤ x ∧ x ≤ 18446744073709551615) (hf : Fits L) (hm : L.length ≤ maxLen) :
    AOk Try.prog 4 [u64 i, u64 t, rowAV L, u64 x] H (boolV true) H := by
  refine ACalls.into Try.func4 rfl Try.ntmps4 Try.results4 (by simp) ?_
  simp -implicitDefEqProofs
  refine ACall.eq known_ok ?_
  by_cases c1 : (30 : Int) < L.length
  · simp -implicitDefEqProofs [c1]
  simp -implicitDefEqProofs [c1]
  refine ACall.eq (bodies_ok L (by omega)) ?_
  cases c2 : bodiesB L with
  | true => simp -implicitDefEqProofs
  | false =>
  by_cases c3 : (4611686018427387904 : Int) ≤ i
  · simp -implicitDefEqProofs [c3]
  by_cases c4 : (4611686018427387904 : Int) ≤ x
  · simp -implicitDefEqProofs [c3, c4]
  simp -implicitDefEqProofs [c3, c4]
  have hsl := bodiesB_slim c2
  cases c5 : standB i L with
  | false =>
    refine ACall.eq (new_bad hf (by omega) hi c5) ?_
    simp -implicitDefEqProofs
  | true =>
  have s0 : St i t L := St.of hi.1 (by omega) ht.1 ht.2 (by omega) hsl c5 hf
  refine ACall.use (new_ok hf hsl (by omega) hi c5) (wkL_refl _) (HWk.refl _) ?_
  rintro v K ⟨b, hb, rfl, rfl⟩
  simp -implicitDefEqProofs
  refine ACall.use (copy_ok (i := i) (t := t) (L := L) (T := 61) (by simp) s0) (wkL_refl _) (HWk.refl _) ?_
  rintro v K ⟨c, hc, rfl, rfl⟩
  have n12 : b ≠ c := by rintro rfl; simp at hc
  have n21 := n12.symm
  have hc : H c = none := by simpa [n21] using hc
  simp -implicitDefEqProofs [n12, n21]
  refine ACall.eq (last_ok (T := 61) (by simp [n12]) s0) ?_
  simp -implicitDefEqProofs
  refine ACall.eq (term_ok (T := 61) (by simp [n12]) s0 x hx) ?_
  simp -implicitDefEqProofs
  cases c6 : termE i t L x with
  | none =>
    refine ACall.eq (compact_none (T := 61) (by simp [n12]) s0 x hx c6) ?_
    simp -implicitDefEqProofs
    refine ACall.eq (last_ok (T := 61) (by simp [n12]) s0) ?_
    simp -implicitDefEqProofs
    refine ACall.eq (base_ok (i := i) (t := t) (L := L) (T := 61) (by simp)) ?_
    have w1 : IntKind.u64.wrap (i + 1) = i + 1 := wrap_u64 (by omega) (by omega)
    simp -implicitDefEqProofs [w1]
    refine ACall.eq (slice_ok (T := 61) (by simp) s0 (i + 1) 1000 (by omega) (by omega)) ?_
    have w2 : sliceE i L (i + 1) 1000 = L := slice_whole (by omega) (by simp; omega)
    simp -implicitDefEqProofs [w2]
    refine ACall.eq (all_ok _ _ (by omega)) ?_
    simp -implicitDefEqProofs
    refine ACall.eq (base_ok (i := i) (t := t) (L := L) (T := 61) (by simp [n12])) ?_
    simp -implicitDefEqProofs
    exact ((HWk.refl H).new hb).new hc
  | some u =>
    obtain ⟨k, hk, hxk, _, _⟩ := termE_some c6
    have s1 := s0.drop (by omega) c6
    refine ACall.eq (compact_ok (T := 61) (by simp [n12]) s0 x hx c6) ?_
    simp -implicitDefEqProofs [n12, n21]
    refine ACall.eq (last_ok (T := 61) (by simp) s1) ?_
    have e1 : lastI x (L.drop (x - i).toNat) = lastI i L := by
      rw [hxk, show (i + (k : Int) - i).toNat = k by omega]; exact lastI_drop hk
    have e2 := lastT_drop c6
    have w1 : IntKind.u64.wrap (i + 1) = i + 1 := wrap_u64 (by omega) (by omega)
    have w2 : sliceE i L (i + 1) 1000 = L := slice_whole (by omega) (by simp; omega)
    have w3 : IntKind.u64.wrap (x + 1) = x + 1 := wrap_u64 (by omega) (by omega)
    simp -implicitDefEqProofs [e1, e2]
    refine ACall.eq (base_ok (i := i) (t := t) (L := L) (T := 61) (by simp [n21])) ?_
    simp -implicitDefEqProofs [w1]
    refine ACall.eq (slice_ok (T := 61) (by simp [n21]) s0 (i + 1) 1000 (by omega) (by omega)) ?_
    simp -implicitDefEqProofs [w2]
    refine ACall.eq (all_ok _ _ (by omega)) ?_
    simp -implicitDefEqProofs
    refine ACall.eq (base_ok (i := x) (t := u) (L := L.drop (x - i).toNat) (T := 61) (by simp)) ?_
    simp -implicitDefEqProofs [w3]
    refine ACall.eq (slice_ok (T := 61) (by simp) s1 (x + 1) 1000 (by omega) (by omega)) ?_
    simp -implicitDefEqProofs [w3]
    refine ACall.eq (slice_ok (T := 61) (by simp [n21]) s0 (x + 1) 1000 (by omega) (by omega)) ?_
    simp -implicitDefEqProofs [slice_drop c6]
    refine ACall.eq (all_ok _ _ ?_) ?_
    · simp [sliceE]; split <;> simp; omega
    simp -implicitDefEqProofs
    refine ACall.eq (newer_ok (T := 61) (by simp) s1 _ _) ?_
    simp -implicitDefEqProofs [e1, e2]
    by_cases c7 : lastI i L = 0
    · simp -implicitDefEqProofs [c7]
      exact (((HWk.refl H).new hb).new hc).new hb
    · have w4 : IntKind.u64.wrap (lastI i L - 1) = lastI i L - 1 := wrap_u64 (by unfold lastI at *; omega) (by unfold lastI; omega)
      simp -implicitDefEqProofs [c7, w4]
      refine ACall.eq (newer_ok (T := 61) (by simp) s1 _ _) ?_
      simp -implicitDefEqProofs [e1, e2]
      exact ⟨by omega, (((HWk.refl H).new hb).new hc).new hb⟩

end Go.Proofs.Ytdcblangeonhpaa
