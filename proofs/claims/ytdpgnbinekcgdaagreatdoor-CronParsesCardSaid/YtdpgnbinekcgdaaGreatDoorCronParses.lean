/- What expression a text is, is the document's. -/
import Derived.Test.YtdpgnbinekcgdaaGreatDoorCronN
namespace Go.Proofs.YtdpgnbinekcgdaaGreatDoor
open Rg Go

variable {H : Heap}

theorem cronParses_ok (hG : Glob H) (s : List UInt8) (hs : s.length ≤ 9223372036854775807) : AOk Tryz.prog 5 [str s] H (.sc (.bool true)) H := by
  refine ACalls.into Tryz.func5 rfl Tryz.ntmps5 Tryz.results5 (by simp) ?_
  by_cases hl : 600 < s.length
  · have hl' : (600 : Int) < s.length := by omega
    simp -implicitDefEqProofs [hl, hl']
    refine ACall.eq (c_known07 hG) ?_
    simp -implicitDefEqProofs
  · have hl' : ¬ (600 : Int) < s.length := by omega
    have p := c_cronParse hG s (by omega)
    have q := fun K : Heap => c_ref7Parse (H := K) s (by omega)
    generalize cronK s = r at p q
    obtain ⟨x, e⟩ := r
    simp only at p q
    simp -implicitDefEqProofs [hl, hl']
    refine ACall.eq p ?_
    simp -implicitDefEqProofs
    refine AAlloc.intro fun b3 h3 => ?_
    simp -implicitDefEqProofs
    refine ACall.eq (q _) ?_
    simp -implicitDefEqProofs
    refine AAlloc.intro fun b5 h5 => ?_
    have n53 : b5 ≠ b3 := by intro e; subst e; simp [Heap.set] at h5
    have n35 := n53.symm
    have e5 : H b5 = none := (HLe.set_fresh h3).none h5
    simp -implicitDefEqProofs [n53, n35]
    refine ACall.eq (c_known07 ((hG.new h3).new h5)) ?_
    simp -implicitDefEqProofs
    repeat (first | exact HWk.refl _ | refine HWk.new (by assumption) ?_)
end Go.Proofs.YtdpgnbinekcgdaaGreatDoor
