/- Rows of moments. -/
import Derived.Test.YtdpgnbinekcgdaaGreatDoorRaw
namespace Go.Proofs.YtdpgnbinekcgdaaGreatDoor
open Rg Go

variable {H : Heap}

theorem c_moments (L : List Int) (t u : Tok) (hL : L.length ≤ 1000000) : AOk Tryz.prog 35 [.sl (L.map i64) t, .sl (L.map i64) u] H (.sc (.bool true)) H := by
  refine ACalls.into Tryz.func35 rfl Tryz.ntmps35 Tryz.results35 (by simp) ?_
  simp -implicitDefEqProofs
  refine AGo.rounds (fun m ρ K => ∃ i : Nat, i ≤ L.length ∧ m = L.length - i ∧ ρ 0 = .sl (L.map i64) t ∧ ρ 1 = .sl (L.map i64) u ∧ ρ 5 = .sc (.int .i64 i) ∧ K = H) ?_ (m := L.length) (HLe.refl _)
    ⟨0, by omega, rfl, by simp, by simp, by simp, rfl⟩
  rintro m ρ K ih ⟨i, hi, rfl, r0, r1, r5, rfl⟩
  by_cases hlt : i < L.length
  · have w1 : IntKind.i64.wrap ((i : Int) + 1) = ((i + 1 : Nat) : Int) := wadd (b := 1) rfl (by omega)
    obtain ⟨q, hq⟩ : ∃ q, L[i] = q := ⟨_, rfl⟩
    simp -implicitDefEqProofs [r0, r5, hlt]
    refine go_draw 9 f_mixed (by decide +kernel) ?_
    simp -implicitDefEqProofs [r0, r1, r5, hlt, hq, i64, w1]
    refine AGo.again ih (m' := L.length - (i + 1)) (by omega) (HLe.refl _) ?_
    exact ⟨i + 1, by omega, rfl, by simp [r0], by simp [r1], by simp, rfl⟩
  · simp -implicitDefEqProofs [r0, r5, hlt]
end Go.Proofs.YtdpgnbinekcgdaaGreatDoor
