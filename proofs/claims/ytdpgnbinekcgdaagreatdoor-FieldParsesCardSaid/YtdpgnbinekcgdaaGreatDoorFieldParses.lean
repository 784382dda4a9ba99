/- What field a text is, is the document's. -/
import Derived.Test.YtdpgnbinekcgdaaGreatDoorRefP
import Derived.Test.YtdpgnbinekcgdaaGreatDoorRefT
namespace Go.Proofs.YtdpgnbinekcgdaaGreatDoor
open Rg Go

variable {H : Heap}

theorem fieldParses_ok (hG : Glob H) (k : Int) (s : List UInt8) (hs : s.length ≤ 9223372036854775807) : AOk Tryz.prog 3 [.sc (.int .i64 k), str s] H (.sc (.bool true)) H := by
  refine ACalls.into Tryz.func3 rfl Tryz.ntmps3 Tryz.results3 (by simp) ?_
  simp -implicitDefEqProofs
  refine ACall.eq (c_known06 hG) ?_
  by_cases hl : 300 < s.length
  · have hl' : (300 : Int) < s.length := by omega
    simp -implicitDefEqProofs [hl, hl']
  · have hl' : ¬ (300 : Int) < s.length := by omega
    simp -implicitDefEqProofs [hl, hl']
    refine ACall.eq (c_parse hG k s (by omega)) ?_
    simp -implicitDefEqProofs [fAV]
    refine AAlloc.intro fun b5 h5 => ?_
    simp -implicitDefEqProofs
    refine ACall.eq (c_refParse k s (by omega)) ?_
    simp -implicitDefEqProofs [fAV]
    refine AAlloc.intro fun b7 h7 => ?_
    have n75 : b7 ≠ b5 := by intro e; subst e; simp [Heap.set] at h7
    have n57 := n75.symm
    have e7 : H b7 = none := (HLe.set_fresh h5).none h7
    simp -implicitDefEqProofs [n75, n57]
    exact HWk.new e7 (HWk.new h5 (HWk.refl _))
end Go.Proofs.YtdpgnbinekcgdaaGreatDoor
