/- After of a moment is a firing, behind it, and between them there is none; Last of it is it; one moment later but before it the same. -/
import Derived.Test.YtdpgnbinekcgdaaDoorNextFires
namespace Go.Proofs.YtdpgnbinekcgdaaDoor
open Rg Go

variable {H : Heap}

theorem fire_fits {x : Ex} {n : Nat} (h : fireB x n = true) : n % 60 = 0 ∧ fitsX x (clk n) = true := by
  unfold fireB at h
  simpa using h
theorem last_self {x : Ex} {n : Nat} (h : fireB x n = true) : IsLast x n (some n) := ⟨Nat.le_refl _, h, fun k h1 h2 => by omega⟩
theorem last_end {x : Ex} {u : Nat} (hu : u < 13569465600) (hr : IsNext x u none) : ∀ {s : Option Nat}, IsLast x u s → IsLast x 13569465599 s
  | none, hs => fun k hk => by
    by_cases h : k ≤ u
    · exact hs k h
    · exact hr k (by omega) (by omega)
  | some n, ⟨h1, h2, h3⟩ => ⟨by omega, h2, fun k g1 g2 => by
    by_cases h : k ≤ u
    · exact h3 k g1 h
    · exact hr k (by omega) (by omega)⟩
theorem next_later {x : Ex} {u m q : Nat} (hr : IsNext x u (some m)) (h1 : u ≤ q) (h2 : q < m) : IsNext x q (some m) := ⟨h2, hr.2.1, hr.2.2.1, fun k g1 g2 => hr.2.2.2 k (by omega) g2⟩
theorem last_later {x : Ex} {u m q : Nat} (hr : IsNext x u (some m)) (h1 : u ≤ q) (h2 : q < m) : ∀ {s : Option Nat}, IsLast x u s → IsLast x q s
  | none, hs => fun k hk => by
    by_cases h : k ≤ u
    · exact hs k h
    · exact hr.2.2.2 k (by omega) (by omega)
  | some n, ⟨g1, g2, g3⟩ => ⟨by omega, g2, fun k f1 f2 => by
    by_cases h : k ≤ u
    · exact g3 k f1 h
    · exact hr.2.2.2 k (by omega) (by omega)⟩
abbrev clkC (c : Clk) : List AV := [.sc (.int .i64 c.y), .sc (.int .i64 c.m), .sc (.int .i64 c.d), .sc (.int .i64 c.h), .sc (.int .i64 c.mi), .sc (.int .i64 c.s), .sc (.int .i64 c.w)]

set_option maxHeartbeats 4000000 in
theorem nextGap_ok (hG : GlobT H) (x : Ex) (hx : x.ok) (t by_ : Int) (hby : by_ ≤ 9223372036854775807) : AOk Tryd.prog 4 [exAV x, .sc (.int .i64 t), .sc (.int .i64 by_)] H (.sc (.bool true)) H := by
  refine ACalls.into Tryd.func4 rfl Tryd.ntmps4 Tryd.results4 (by simp) ?_
  simp -implicitDefEqProofs
  refine AAlloc.intro fun b3 h3 => ?_
  simp -implicitDefEqProofs
  generalize hK : Heap.set _ b3 _ = K
  have k3 : K b3 = some (.cells (exC x) 26) := by rw [← hK]; simp [Heap.set]
  have kG : GlobT K := by rw [← hK]; exact hG.new h3
  have kW : HWk H K := by rw [← hK]; exact HWk.new h3 (HWk.refl _)
  clear hK
  refine ACall.eq (c_known08 kG) ?_
  simp -implicitDefEqProofs [k3]
  by_cases hb : badE x t = 0
  · obtain ⟨hm, u, rfl, hu⟩ := badE_zero hb
    have hu' : ¬ (13569465600 : Int) ≤ (u : Int) := by omega
    have hu2 : ¬ 13569465600 ≤ u := by omega
    obtain ⟨r, hr⟩ := next_ex x u
    obtain ⟨s, hs⟩ := last_ex x u
    refine ACall.eq (c_after kG hx hm hu hr) ?_
    simp -implicitDefEqProofs [k3, outAV]
    refine ACall.eq (c_last hx hm hu hs) ?_
    simp -implicitDefEqProofs [k3, outAV]
    refine ACall.eq (c_cronMay x hx) ?_
    rw [hm]
    simp -implicitDefEqProofs [hu', hu2]
    refine ABr.join (fun ρ K' => ρ 3 = ptr b3 ∧ ρ 1 = .sc (.int .i64 (u : Int)) ∧ ρ 2 = .sc (.int .i64 by_) ∧ ρ 7 = .sc (.int .i64 (optN r : Int)) ∧ ρ 8 = .sc (.int .i64 (errN r : Int)) ∧ ρ 9 = .sc (.int .i64 (optN s : Int)) ∧ ρ 10 = .sc (.int .i64 (errN s : Int)) ∧
      K' b3 = some (.cells (exC x) 26) ∧ GlobT K' ∧ HWk H K') (fun k' hk' => ?_) ?_
    · cases s with
      | none =>
        simp -implicitDefEqProofs [errN]
        exact hk' _ _ ⟨by simp, by simp, by simp, by simp, by simp [errN], by simp, by simp [errN], k3, kG, kW⟩
      | some n =>
        have hn := hs.1
        obtain ⟨hn60, hnf⟩ := fire_fits hs.2.1
        have hnM : n < 13569465600 := by omega
        have hcs : (clk n).s = 0 := by show ((n % 60 : Nat) : Int) = 0; omega
        have hsp := fun K : Heap => c_split_s (H := K) hnM
        generalize clk n = c at *
        obtain ⟨cy, cm, cd, ch, cmi, cs, cw⟩ := c
        simp only at hcs
        subst hcs
        have hln := last_self hs.2.1
        have hn' : ¬ (u : Int) < (n : Int) := by omega
        have hn2 : ¬ u < n := by omega
        simp -implicitDefEqProofs [errN, optN]
        refine ACall.eq (hsp _) ?_
        simp -implicitDefEqProofs
        refine AAlloc.intro fun b11 h11 => ?_
        have n311 : b3 ≠ b11 := by intro e; subst e; rw [k3] at h11; cases h11
        have n113 := n311.symm
        simp -implicitDefEqProofs [n311, k3]
        generalize hK : Heap.set K b11 _ = K1
        have k31 : K1 b3 = some (.cells (exC x) 26) := by rw [← hK]; simp [Heap.set, n311, k3]
        have k11 : K1 b11 = some (.cells (clkC ⟨cy, cm, cd, ch, cmi, 0, cw⟩) 36) := by rw [← hK]; simp [Heap.set]
        have kG1 : GlobT K1 := by rw [← hK]; exact kG.new h11
        have kW1 : HWk H K1 := by rw [← hK]; exact HWk.new (kW.none h11) kW
        clear hK
        refine ACall.eq (c_last hx hm hnM hln) ?_
        simp -implicitDefEqProofs [outAV, optN, errN, hn', hn2, k11, k31]
        refine ACall.eq (c_fits x hx ⟨cy, cm, cd, ch, cmi, 0, cw⟩) ?_
        rw [hnf]
        simp -implicitDefEqProofs
        exact hk' _ _ ⟨by simp, by simp, by simp, by simp [optN], by simp [errN], by simp [optN], by simp [errN], k31, kG1, kW1⟩
    · clear k3 kG kW
      rintro ρ K ⟨r3, r1, r2, r7, r8, r9, r10, k3, kG, kW⟩
      cases r with
      | none =>
        simp -implicitDefEqProofs [r8, errN, r3, k3]
        refine ACall.eq (c_last (t := 13569465599) hx hm (by omega) (last_end hu hr hs)) ?_
        simp -implicitDefEqProofs [outAV, r9, r10]
        exact kW
      | some m =>
        have hum := hr.1
        have hmM := hr.2.1
        obtain ⟨hm60, hmf⟩ := fire_fits hr.2.2.1
        have hcs : (clk m).s = 0 := by show ((m % 60 : Nat) : Int) = 0; omega
        have hsp := fun K : Heap => c_split_s (H := K) hmM
        generalize clk m = c at *
        obtain ⟨cy, cm, cd, ch, cmi, cs, cw⟩ := c
        simp only at hcs
        subst hcs
        have hlm := last_self hr.2.2.1
        have hm' : ¬ (m : Int) ≤ (u : Int) := by omega
        have hm2 : ¬ m ≤ u := by omega
        simp -implicitDefEqProofs [r8, errN, optN, r7]
        refine ACall.eq (hsp _) ?_
        simp -implicitDefEqProofs
        refine AAlloc.intro fun b17 h17 => ?_
        have n317 : b3 ≠ b17 := by intro e; subst e; rw [k3] at h17; cases h17
        have n173 := n317.symm
        simp -implicitDefEqProofs [n317, k3, r3, r7, optN]
        generalize hK : Heap.set K b17 _ = K1
        have k31 : K1 b3 = some (.cells (exC x) 26) := by rw [← hK]; simp [Heap.set, n317, k3]
        have k17 : K1 b17 = some (.cells (clkC ⟨cy, cm, cd, ch, cmi, 0, cw⟩) 36) := by rw [← hK]; simp [Heap.set]
        have kG1 : GlobT K1 := by rw [← hK]; exact kG.new h17
        have kW1 : HWk H K1 := by rw [← hK]; exact HWk.new (kW.none h17) kW
        clear hK kG kW k3 h17
        refine ACall.eq (c_last hx hm hmM hlm) ?_
        simp -implicitDefEqProofs [outAV, optN, errN, r8, r7, r1, hm', hm2, k17, r3, k31]
        refine ACall.eq (c_fits x hx ⟨cy, cm, cd, ch, cmi, 0, cw⟩) ?_
        rw [hmf]
        simp -implicitDefEqProofs [r7, optN, r2]
        refine ABr.join (fun ρ K' => K' = K1 ∧ ρ 3 = ptr b3 ∧ ρ 1 = .sc (.int .i64 (u : Int)) ∧ (∃ z : Nat, z ≤ 9223372036854775807 ∧ ρ 2 = .sc (.int .i64 (z : Int))) ∧ ρ 7 = .sc (.int .i64 (m : Int)) ∧ ρ 9 = .sc (.int .i64 (optN s : Int)) ∧ ρ 10 = .sc (.int .i64 (errN s : Int))) (fun k' hk' => ?_) ?_
        · by_cases hz : by_ < 0
          · simp -implicitDefEqProofs [hz]
            exact hk' _ _ ⟨rfl, by simp [r3], by simp [r1], ⟨0, by omega, by simp⟩, by simp [r7, optN], by simp [r9], by simp [r10]⟩
          · obtain ⟨z, rfl⟩ := Int.eq_ofNat_of_zero_le (a := by_) (by omega)
            simp -implicitDefEqProofs
            exact hk' _ _ ⟨rfl, by simp [r3], by simp [r1], ⟨z, by omega, by simp [r2]⟩, by simp [r7, optN], by simp [r9], by simp [r10]⟩
        · clear r1 r2 r3 r7 r8 r9 r10
          rintro ρ K ⟨rfl, r3, r1, ⟨z, hz, r2⟩, r7, r9, r10⟩
          obtain ⟨g, hg⟩ : ∃ q, m - u = q := ⟨_, rfl⟩
          obtain ⟨z2, hz2⟩ : ∃ q, z % g = q := ⟨_, rfl⟩
          obtain ⟨q, hq⟩ : ∃ q, u + z2 = q := ⟨_, rfl⟩
          have hzl : z2 < g := by rw [← hz2]; exact Nat.mod_lt _ (by omega)
          have v1 : IntKind.i64.wrap ((m : Int) - (u : Int)) = (g : Int) := wsub hg (by omega) (by omega)
          have v2 : (z : Int).tmod (g : Int) = (z2 : Int) := wmod hz2
          have v3 : IntKind.i64.wrap ((u : Int) + (z2 : Int)) = (q : Int) := wadd hq (by omega)
          have hg0 : ¬ (g : Int) = 0 := by omega
          have hg1 : ¬ g = 0 := by omega
          have hqu : u ≤ q := by omega
          have hqm : q < m := by omega
          have hqM : q < 13569465600 := by omega
          have hsq := fun K : Heap => c_split_s (H := K) hqM
          have hqs : (clk q).s = ((q % 60 : Nat) : Int) := rfl
          have hqf : u < q → q % 60 = 0 → fitsX x (clk q) = false := fun h1 h2 => by
            have := hr.2.2.2 q h1 hqm
            unfold fireB at this
            simpa [h2] using this
          generalize clk q = cq at *
          simp -implicitDefEqProofs [r2, r7, r1, v1, v2, v3, hg0, hg1]
          refine ACall.eq (hsq _) ?_
          simp -implicitDefEqProofs
          refine AAlloc.intro fun b22 h22 => ?_
          have n322 : b3 ≠ b22 := by intro e; subst e; rw [k31] at h22; cases h22
          have n223 := n322.symm
          simp -implicitDefEqProofs [n322, k31, r3]
          generalize hK : Heap.set K b22 _ = K2
          have k32 : K2 b3 = some (.cells (exC x) 26) := by rw [← hK]; simp [Heap.set, n322, k31]
          have k22 : K2 b22 = some (.cells (clkC cq) 36) := by rw [← hK]; simp [Heap.set]
          have kG2 : GlobT K2 := by rw [← hK]; exact kG1.new h22
          have kW2 : HWk H K2 := by rw [← hK]; exact HWk.new (kW1.none h22) kW1
          clear hK
          refine ACall.eq (c_after kG2 hx hm hqM (next_later hr hqu hqm)) ?_
          simp -implicitDefEqProofs [outAV, optN, errN, r3, k32]
          refine ACall.eq (c_last hx hm hqM (last_later hr hqu hqm hs)) ?_
          by_cases hqe : q = u
          · subst hqe
            simp -implicitDefEqProofs [outAV, optN, errN, r7, r9, r10, r1]
            exact kW2
          · have hqe' : ¬ (q : Int) = (u : Int) := by omega
            by_cases h60 : q % 60 = 0
            · have hqs0 : cq.s = 0 := by rw [hqs, h60]; rfl
              have hqf2 := hqf (by omega) h60
              clear hqf hsq hqs
              obtain ⟨cy, cm, cd, ch, cmi, cs, cw⟩ := cq
              simp only at hqs0
              subst hqs0
              simp -implicitDefEqProofs [outAV, optN, errN, r7, r9, r10, r1, hqe, hqe', k22, r3, k32]
              refine ACall.eq (c_fits x hx ⟨cy, cm, cd, ch, cmi, 0, cw⟩) ?_
              rw [hqf2]
              simp -implicitDefEqProofs
              exact kW2
            · have hqs0 : ¬ cq.s = 0 := by omega
              simp -implicitDefEqProofs [outAV, optN, errN, r7, r9, r10, r1, hqe, hqe', k22, hqs0]
              exact kW2
  · have hcase := badE_of hb
    have q1 := c_after_bad (H := K) hx hb
    have q3 := c_last_bad (H := K) hx hb
    generalize badE x t = e at *
    refine ACall.eq q1 ?_
    simp -implicitDefEqProofs [k3]
    refine ACall.eq q3 ?_
    simp -implicitDefEqProofs [k3]
    refine ACall.eq (c_cronMay x hx) ?_
    cases hm : mayX x with
    | false =>
      simp -implicitDefEqProofs [hb]
      exact kW
    | true =>
      by_cases h1 : t < 0
      · simp -implicitDefEqProofs [h1, hb]
        exact kW
      · have h2 : 13569465600 ≤ t := by
          rcases hcase with h | h | h
          · rw [hm] at h; cases h
          · exact absurd h h1
          · exact h
        simp -implicitDefEqProofs [h1, h2, hb]
        exact kW
end Go.Proofs.YtdpgnbinekcgdaaDoor
