/- The document's clock of a moment. -/
import Derived.Test.YtdpgnbinekcgdaaGreatDoorRefD
namespace Go.Proofs.YtdpgnbinekcgdaaGreatDoor
open Rg Go

variable {H : Heap}

theorem c_ref5Split {t : Nat} (ht : t < 13569465600) : AOk Tryz.prog 91 [.sc (.int .i64 t)] H (.tup [cAV (clk t), .sc (.int .i64 0)]) H := by
  obtain ⟨n, hn⟩ : ∃ x, t / 86400 = x := ⟨_, rfl⟩
  obtain ⟨s, hs⟩ : ∃ x, t % 60 = x := ⟨_, rfl⟩
  obtain ⟨a, ha⟩ : ∃ x, t / 60 = x := ⟨_, rfl⟩
  obtain ⟨m, hm⟩ : ∃ x, a % 60 = x := ⟨_, rfl⟩
  obtain ⟨b, hb⟩ : ∃ x, t / 3600 = x := ⟨_, rfl⟩
  obtain ⟨h, hh⟩ : ∃ x, b % 24 = x := ⟨_, rfl⟩
  have hn2 : n < 157054 := by omega
  have e1 : t % 3600 / 60 = m := by omega
  have e2 : t % 86400 / 3600 = h := by omega
  have w1 : IntKind.i64.wrap ((t : Int) / 86400) = (n : Int) := wdiv (b := 86400) hn (by omega)
  have w2 : (t : Int).tmod 60 = (s : Int) := wmod (b := 60) hs
  have w3 : IntKind.i64.wrap ((t : Int) / 60) = (a : Int) := wdiv (b := 60) ha (by omega)
  have w4 : (a : Int).tmod 60 = (m : Int) := wmod (b := 60) hm
  have w5 : IntKind.i64.wrap ((t : Int) / 3600) = (b : Int) := wdiv (b := 3600) hb (by omega)
  have w6 : (b : Int).tmod 24 = (h : Int) := wmod (b := 24) hh
  have wn : IntKind.i64.wrap (n : Int) = (n : Int) := wrap_i64 (by omega) (by omega)
  have c1 : ¬ (13569465600 : Int) ≤ (t : Int) := by omega
  have c1' : ¬ 13569465600 ≤ t := by omega
  have v1 : IntKind.i64.wrap (s : Int) = (s : Int) := wrap_i64 (by omega) (by omega)
  have v2 : IntKind.i64.wrap (m : Int) = (m : Int) := wrap_i64 (by omega) (by omega)
  have v3 : IntKind.i64.wrap (h : Int) = (h : Int) := wrap_i64 (by omega) (by omega)
  unfold clk
  rw [hn, e1, e2, hs]
  refine ACalls.into Tryz.func91 rfl Tryz.ntmps91 Tryz.results91 (by simp) ?_
  simp -implicitDefEqProofs
  refine AAlloc.intro fun b2 h2 => ?_
  simp -implicitDefEqProofs [w1, w2, w3, w4, w5, w6, wn, c1, c1', v1, v2, v3]
  refine AAlloc.intro fun b4 h4 => ?_
  have n42 : b4 ≠ b2 := by intro e; subst e; simp [Heap.set] at h4
  have n24 := n42.symm
  have e4 : H b4 = none := (HLe.set_fresh h2).none h4
  simp -implicitDefEqProofs [n42, n24, w1, wn]
  refine ACall.eq (c_ref4Of hn2) ?_
  simp -implicitDefEqProofs [n42, n24]
  refine AAlloc.intro fun b6 h6 => ?_
  have n62 : b6 ≠ b2 := by intro e; subst e; simp [Heap.set, n24] at h6
  have n64 : b6 ≠ b4 := by intro e; subst e; simp [Heap.set] at h6
  have n26 := n62.symm
  have n46 := n64.symm
  have e6 : H b6 = none := by simpa [Heap.set, n62, n64] using h6
  simp -implicitDefEqProofs [n42, n24, n62, n64, n26, n46]
  refine ACall.eq (c_ref4Weekday n (by omega)) ?_
  simp -implicitDefEqProofs [n42, n24, n62, n64, n26, n46]
  repeat (first | exact HWk.refl _ | refine HWk.new (by assumption) ?_)
theorem c_day {n : Nat} (hn : n < 157054) : AOk Tryz.prog 55 [.sc (.int .i64 n)] H (cAV (clk (n * 86400))) H := by
  obtain ⟨t, ht⟩ : ∃ x, n * 86400 = x := ⟨_, rfl⟩
  have w1 : IntKind.i64.wrap ((n : Int) * 86400) = (t : Int) := wmul (b := 86400) ht (by omega)
  rw [ht]
  refine ACalls.into Tryz.func55 rfl Tryz.ntmps55 Tryz.results55 (by simp) ?_
  simp -implicitDefEqProofs
  refine AAlloc.intro fun b2 h2 => ?_
  simp -implicitDefEqProofs [w1]
  refine ACall.eq (c_ref5Split (t := t) (by omega)) ?_
  simp -implicitDefEqProofs
  refine AAlloc.intro fun b3 h3 => ?_
  have n32 : b3 ≠ b2 := by intro e; subst e; simp [Heap.set] at h3
  have n23 := n32.symm
  have e3 : H b3 = none := (HLe.set_fresh h2).none h3
  simp -implicitDefEqProofs [n32, n23]
  repeat (first | exact HWk.refl _ | refine HWk.new (by assumption) ?_)
end Go.Proofs.YtdpgnbinekcgdaaGreatDoor
