/- Which fields may be, what they allow, and their texts, are the document's. -/
import Derived.Test.YtdpgnbinekcgdaaGreatDoorRefP
import Derived.Test.YtdpgnbinekcgdaaGreatDoorRefT
namespace Go.Proofs.YtdpgnbinekcgdaaGreatDoor
open Rg Go

variable {H : Heap}

theorem optAV_inv (o : Option Nat) : ∃ (x : Int) (b : Bool), optAV o = .tup [.sc (.int .i64 x), .sc (.bool b)] := by
  cases o
  · exact ⟨_, _, rfl⟩
  · exact ⟨_, _, rfl⟩
theorem fieldAsks_ok (hG : Glob H) (k : Int) (f : Fld) (hf : f.bits < 18446744073709551616) (n : Int) : AOk Tryz.prog 4 [.sc (.int .i64 k), fAV f, .sc (.int .i64 n)] H (.sc (.bool true)) H := by
  obtain ⟨x, b, hx⟩ := optAV_inv (firstB f.bits n)
  refine ACalls.into Tryz.func4 rfl Tryz.ntmps4 Tryz.results4 (by simp) ?_
  simp -implicitDefEqProofs [fAV]
  refine AAlloc.intro fun b4 h4 => ?_
  simp -implicitDefEqProofs
  generalize hK : Heap.set _ b4 _ = K0
  have k4 : K0 b4 = some (.cells [.sc (.int .u64 f.bits), .sc (.bool f.star)] 25) := by rw [← hK]; simp [Heap.set]
  have kG : Glob K0 := by rw [← hK]; exact hG.new h4
  have kW : HWk H K0 := by rw [← hK]; exact HWk.new h4 (HWk.refl _)
  clear hK
  refine ACall.eq (c_first kG f n hf) ?_
  rw [hx]
  simp -implicitDefEqProofs [k4]
  refine ACall.eq (c_refFirst f n hf) ?_
  rw [hx]
  simp -implicitDefEqProofs
  refine go_draw 39 f_mixed (by decide +kernel) ?_
  simp -implicitDefEqProofs [k4]
  refine AQS.eq (c_may k f hf) ?_
  simp -implicitDefEqProofs [k4]
  refine AQS.eq (c_refMay k f hf) ?_
  simp -implicitDefEqProofs [k4]
  refine AQS.eq (c_has f n hf) ?_
  simp -implicitDefEqProofs [k4]
  refine AQS.eq (c_refHas f n hf) ?_
  simp -implicitDefEqProofs [k4]
  refine AQS.eq (c_text kG k f hf) ?_
  simp -implicitDefEqProofs [k4]
  refine AQS.eq (c_refText k f hf) ?_
  simp -implicitDefEqProofs
  refine AQS.eq (c_known06 kG) ?_
  simp -implicitDefEqProofs
  exact kW
end Go.Proofs.YtdpgnbinekcgdaaGreatDoor
