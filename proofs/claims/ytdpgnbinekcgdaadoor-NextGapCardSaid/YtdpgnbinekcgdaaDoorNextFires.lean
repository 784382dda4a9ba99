/- The first firing behind any moment, and the last one up to it, is the document's. -/
import Derived.Test.YtdpgnbinekcgdaaDoorKnown8
namespace Go.Proofs.YtdpgnbinekcgdaaDoor
open Rg Go

variable {H : Heap}

theorem badE_zero {x : Ex} {t : Int} (h : badE x t = 0) : mayX x = true ∧ ∃ u : Nat, t = u ∧ u < 13569465600 := by
  unfold badE at h
  split at h
  · cases h
  · rename_i hm
    split at h
    · cases h
    · rename_i ht
      refine ⟨by simpa using hm, t.toNat, by omega, by omega⟩
theorem badE_of {x : Ex} {t : Int} (h : badE x t ≠ 0) : mayX x = false ∨ t < 0 ∨ 13569465600 ≤ t := by
  unfold badE at h
  split at h
  · rename_i hm; exact .inl hm
  · split at h
    · rename_i ht; exact .inr ht
    · exact absurd rfl h
set_option maxHeartbeats 1000000 in
theorem nextFires_ok (hG : GlobT H) (x : Ex) (hx : x.ok) (t : Int) : AOk Tryd.prog 3 [exAV x, .sc (.int .i64 t)] H (.sc (.bool true)) H := by
  refine ACalls.into Tryd.func3 rfl Tryd.ntmps3 Tryd.results3 (by simp) ?_
  simp -implicitDefEqProofs
  refine AAlloc.intro fun b2 h2 => ?_
  simp -implicitDefEqProofs
  generalize hK : Heap.set _ b2 _ = K
  have k2 : K b2 = some (.cells (exC x) 26) := by rw [← hK]; simp [Heap.set]
  have kG : GlobT K := by rw [← hK]; exact hG.new h2
  have kW : HWk H K := by rw [← hK]; exact HWk.new h2 (HWk.refl _)
  clear hK
  refine ACall.eq (c_known08 kG) ?_
  simp -implicitDefEqProofs [k2]
  by_cases hb : badE x t = 0
  · obtain ⟨hm, u, rfl, hu⟩ := badE_zero hb
    obtain ⟨r, hr⟩ := next_ex x u
    obtain ⟨s, hs⟩ := last_ex x u
    refine ACall.eq (c_after kG hx hm hu hr) ?_
    simp -implicitDefEqProofs [k2, outAV]
    refine ACall.eq (c_ref8After hx hm hu hr) ?_
    simp -implicitDefEqProofs [k2, outAV]
    refine ACall.eq (c_last hx hm hu hs) ?_
    simp -implicitDefEqProofs [k2, outAV]
    refine ACall.eq (c_ref8Last hx hm hu hs) ?_
    simp -implicitDefEqProofs [outAV]
    exact kW
  · have q1 := c_after_bad (H := K) hx hb
    have q2 := c_ref8After_bad (H := K) hx hb
    have q3 := c_last_bad (H := K) hx hb
    have q4 := c_ref8Last_bad (H := K) hx hb
    generalize badE x t = e at *
    refine ACall.eq q1 ?_
    simp -implicitDefEqProofs [k2]
    refine ACall.eq q2 ?_
    simp -implicitDefEqProofs [k2]
    refine ACall.eq q3 ?_
    simp -implicitDefEqProofs [k2]
    refine ACall.eq q4 ?_
    simp -implicitDefEqProofs
    exact kW
end Go.Proofs.YtdpgnbinekcgdaaDoor
