/- The first firing behind a moment, as the document looks for it. -/
import Derived.Test.YtdpgnbinekcgdaaDoorRefL
import Derived.Test.YtdpgnbinekcgdaaDoorNextA
namespace Go.Proofs.YtdpgnbinekcgdaaDoor
open Rg Go

variable {H : Heap}

theorem c_tomorrow {n : Nat} (hn : n < 157054) : ∃ a b c : Int, AOk Tryd.prog 29 [dAV (civ n).1 (civ n).2.1 (civ n).2.2] H (dAV a b c) H ∧ (n + 1 < 157054 → a = (civ (n + 1)).1 ∧ b = (civ (n + 1)).2.1 ∧ c = (civ (n + 1)).2.2) := by
  have hcm := civ_month hn
  have hp := fun h => civ_succ (n := n) h
  generalize civ n = cv at *
  obtain ⟨Y, M, Dd⟩ := cv
  simp only at hcm hp ⊢
  have hL := fun K : Heap => c_ref4Long (H := K) (y := Y) (m := M) (by omega) (by omega)
  generalize mLong Y M = L at *
  by_cases h1 : Dd < L
  · obtain ⟨d1, hd1⟩ : ∃ q, Dd + 1 = q := ⟨_, rfl⟩
    have w1 : IntKind.i64.wrap ((Dd : Int) + 1) = (d1 : Int) := wadd (b := 1) hd1 (by omega)
    have h1' : (Dd : Int) < (L : Int) := by omega
    refine ⟨Y, M, d1, ?_, fun hk => ?_⟩
    · refine ACalls.into Tryd.func29 rfl Tryd.ntmps29 Tryd.results29 (by simp) ?_
      simp -implicitDefEqProofs
      refine AAlloc.intro fun b1 g1 => ?_
      simp -implicitDefEqProofs
      refine AAlloc.intro fun b2 g2 => ?_
      have n21 : b2 ≠ b1 := by intro e; subst e; simp [Heap.set] at g2
      have n12 := n21.symm
      have e2 : H b2 = none := (HLe.set_fresh g1).none g2
      simp -implicitDefEqProofs [n12, n21]
      refine go_draw 8 f_mixed (by decide +kernel) ?_
      simp -implicitDefEqProofs [n12, n21]
      refine AQS.eq (hL _) ?_
      simp -implicitDefEqProofs [n12, n21, h1, h1', w1]
      repeat (first | exact HWk.refl _ | refine HWk.new (by assumption) ?_)
    · have := hp hk
      rw [if_pos h1, hd1] at this
      rw [this]
      exact ⟨rfl, rfl, rfl⟩
  · have h1' : ¬ (Dd : Int) < (L : Int) := by omega
    by_cases h2 : M < 12
    · obtain ⟨m1, hm1⟩ : ∃ q, M + 1 = q := ⟨_, rfl⟩
      have w1 : IntKind.i64.wrap ((M : Int) + 1) = (m1 : Int) := wadd (b := 1) hm1 (by omega)
      have h2' : (M : Int) < 12 := by omega
      refine ⟨Y, m1, 1, ?_, fun hk => ?_⟩
      · refine ACalls.into Tryd.func29 rfl Tryd.ntmps29 Tryd.results29 (by simp) ?_
        simp -implicitDefEqProofs
        refine AAlloc.intro fun b1 g1 => ?_
        simp -implicitDefEqProofs
        refine AAlloc.intro fun b2 g2 => ?_
        have n21 : b2 ≠ b1 := by intro e; subst e; simp [Heap.set] at g2
        have n12 := n21.symm
        have e2 : H b2 = none := (HLe.set_fresh g1).none g2
        simp -implicitDefEqProofs [n12, n21]
        refine go_draw 8 f_mixed (by decide +kernel) ?_
        simp -implicitDefEqProofs [n12, n21]
        refine AQS.eq (hL _) ?_
        simp -implicitDefEqProofs [n12, n21, h1, h1', h2, h2', w1]
        repeat (first | exact HWk.refl _ | refine HWk.new (by assumption) ?_)
      · have := hp hk
        rw [if_neg h1, if_pos h2, hm1] at this
        rw [this]
        exact ⟨rfl, rfl, rfl⟩
    · have h2' : ¬ (M : Int) < 12 := by omega
      obtain ⟨y1, hy1⟩ : ∃ q, Y + 1 = q := ⟨_, rfl⟩
      have w1 : IntKind.i64.wrap ((Y : Int) + 1) = (y1 : Int) := wadd (b := 1) hy1 (by omega)
      refine ⟨y1, 1, 1, ?_, fun hk => ?_⟩
      · refine ACalls.into Tryd.func29 rfl Tryd.ntmps29 Tryd.results29 (by simp) ?_
        simp -implicitDefEqProofs
        refine AAlloc.intro fun b1 g1 => ?_
        simp -implicitDefEqProofs
        refine AAlloc.intro fun b2 g2 => ?_
        have n21 : b2 ≠ b1 := by intro e; subst e; simp [Heap.set] at g2
        have n12 := n21.symm
        have e2 : H b2 = none := (HLe.set_fresh g1).none g2
        simp -implicitDefEqProofs [n12, n21]
        refine go_draw 8 f_mixed (by decide +kernel) ?_
        simp -implicitDefEqProofs [n12, n21]
        refine AQS.eq (hL _) ?_
        simp -implicitDefEqProofs [n12, n21, h1, h1', h2, h2', w1]
        repeat (first | exact HWk.refl _ | refine HWk.new (by assumption) ?_)
      · have := hp hk
        rw [if_neg h1, if_neg h2, hy1] at this
        rw [this]
        exact ⟨rfl, rfl, rfl⟩
theorem c_ref8After_bad {x : Ex} (hx : x.ok) {t : Int} (h : badE x t ≠ 0) : AOk Tryd.prog 9 [exAV x, .sc (.int .i64 t)] H (.tup [.sc (.int .i64 0), .sc (.int .i64 (badE x t))]) H := by
  refine ACalls.into Tryd.func9 rfl Tryd.ntmps9 Tryd.results9 (by simp) ?_
  simp -implicitDefEqProofs
  refine AAlloc.intro fun b2 h2 => ?_
  simp -implicitDefEqProofs
  refine ACall.eq (c_ref8Bad x hx t) ?_
  generalize badE x t = e at *
  simp -implicitDefEqProofs [h]
  exact HWk.new h2 (HWk.refl _)
set_option maxHeartbeats 2000000 in
theorem c_ref8After {x : Ex} (hx : x.ok) (hm : mayX x = true) {t : Nat} (ht : t < 13569465600) {r : Option Nat} (hr : IsNext x t r) : AOk Tryd.prog 9 [exAV x, .sc (.int .i64 t)] H (outAV r) H := by
  obtain ⟨s1, hs1⟩ : ∃ q, t / 60 = q := ⟨_, rfl⟩
  obtain ⟨s2, hs2⟩ : ∃ q, s1 * 60 = q := ⟨_, rfl⟩
  obtain ⟨T, hT⟩ : ∃ q, s2 + 60 = q := ⟨_, rfl⟩
  have v1 : IntKind.i64.wrap ((t : Int) / 60) = (s1 : Int) := wdiv (b := 60) hs1 (by omega)
  have v2 : IntKind.i64.wrap ((s1 : Int) * 60) = (s2 : Int) := wmul (b := 60) hs2 (by omega)
  have v3 : IntKind.i64.wrap ((s2 : Int) + 60) = (T : Int) := wadd (b := 60) hT (by omega)
  have hO := outN_init (x := x) ht
  rw [hs1, hs2, hT] at hO
  have e0 := badE_ok hm ht
  clear hs1 hs2 hT
  refine ACalls.into Tryd.func9 rfl Tryd.ntmps9 Tryd.results9 (by simp) ?_
  simp -implicitDefEqProofs
  refine AAlloc.intro fun b2 h2 => ?_
  simp -implicitDefEqProofs
  generalize hK : Heap.set _ b2 _ = K0
  have k2 : K0 b2 = some (.cells (exC x) 26) := by rw [← hK]; simp [Heap.set]
  have kW : HWk H K0 := by rw [← hK]; exact HWk.new h2 (HWk.refl _)
  clear hK
  refine ACall.eq (c_ref8Bad x hx t) ?_
  rw [e0]
  by_cases hTM : 13569465600 ≤ T
  · have hTM' : (13569465600 : Int) ≤ T := by omega
    obtain rfl := next_one hr (s := none) (fun k h1 h3 => hO.2.2.2 k h1 (by have := hO.2.2.1; omega))
    simp -implicitDefEqProofs [v1, v2, v3, hTM, hTM', outAV, optN, errN]
    exact kW
  · have hTM' : ¬ (13569465600 : Int) ≤ T := by omega
    have hTl : T < 13569465600 := by omega
    obtain ⟨D0, hD0⟩ : ∃ d, T / 86400 = d := ⟨_, rfl⟩
    obtain ⟨m0, hm0⟩ : ∃ d, T % 86400 = d := ⟨_, rfl⟩
    obtain ⟨m1, hm1⟩ : ∃ d, m0 / 60 = d := ⟨_, rfl⟩
    rw [hD0, hm0, hm1] at hO
    have w1 : IntKind.i64.wrap ((T : Int) / 86400) = (D0 : Int) := wdiv (b := 86400) hD0 (by omega)
    have w2 : (T : Int).tmod 86400 = (m0 : Int) := wmod (b := 86400) hm0
    have w3 : IntKind.i64.wrap ((m0 : Int) / 60) = (m1 : Int) := wdiv (b := 60) hm1 (by omega)
    have hsp := fun K : Heap => c_ref5Split (H := K) hTl
    have hclk : ∃ hh mi ss : Int, clk T = ⟨((civ D0).1 : Nat), ((civ D0).2.1 : Nat), ((civ D0).2.2 : Nat), hh, mi, ss, (((D0 + 4) % 7 : Nat) : Int)⟩ := by
      unfold clk
      rw [hD0]
      exact ⟨_, _, _, rfl⟩
    obtain ⟨hh, mi, ss, hclk⟩ := hclk
    rw [hclk] at hsp
    obtain ⟨w0, hw0⟩ : ∃ w, (D0 + 4) % 7 = w := ⟨_, rfl⟩
    rw [hw0] at hsp
    have hD : D0 < 157054 := by omega
    obtain ⟨cY, hcY⟩ : ∃ q, (civ D0).1 = q := ⟨_, rfl⟩
    obtain ⟨cM, hcM⟩ : ∃ q, (civ D0).2.1 = q := ⟨_, rfl⟩
    obtain ⟨cD, hcD⟩ : ∃ q, (civ D0).2.2 = q := ⟨_, rfl⟩
    rw [hcY, hcM, hcD] at hsp
    simp -implicitDefEqProofs [v1, v2, v3, hTM, hTM']
    refine ACall.eq (hsp _) ?_
    simp -implicitDefEqProofs
    refine AAlloc.intro fun b7 h7 => ?_
    have n27 : b2 ≠ b7 := by intro e; subst e; rw [k2] at h7; cases h7
    simp -implicitDefEqProofs
    refine AAlloc.intro fun b9 h9 => ?_
    have h9' : K0 b9 = none := (HLe.set_fresh h7).none h9
    have n79 : b7 ≠ b9 := by intro e; subst e; simp [Heap.set] at h9
    have n97 := n79.symm
    have n29 : b2 ≠ b9 := by intro e; subst e; rw [k2] at h9'; cases h9'
    have e9 : H b9 = none := kW.none h9'
    simp -implicitDefEqProofs [n79, n97]
    generalize hK : Heap.set _ b9 _ = K1
    have k21 : K1 b2 = some (.cells (exC x) 26) := by rw [← hK]; simp [Heap.set, n27, n29, k2]
    have k91 : K1 b9 = some (.cells [.sc (.int .i64 cY), .sc (.int .i64 cM), .sc (.int .i64 cD)] 34) := by rw [← hK]; simp [Heap.set]
    have kW1 : HWk H K1 := by rw [← hK]; exact HWk.new e9 (HWk.new (kW.none h7) kW)
    simp -implicitDefEqProofs [w1, w2, w3]
    refine AGo.rounds (fun m ρ K => ∃ (n mm w : Nat) (a b c : Int), m = 157054 - n ∧ w < 7 ∧ OutN x t n mm ∧ (n < 157054 → a = (civ n).1 ∧ b = (civ n).2.1 ∧ c = (civ n).2.2 ∧ (n + 4) % 7 = w) ∧
        ρ 2 = .sc (.pointer (some ⟨b2, 0, none⟩)) ∧ ρ 9 = .sc (.pointer (some ⟨b9, 0, none⟩)) ∧ ρ 10 = .sc (.int .i64 w) ∧ ρ 11 = .sc (.int .i64 mm) ∧ ρ 12 = .sc (.int .i64 n) ∧
        K b2 = some (.cells (exC x) 26) ∧ K b9 = some (.cells [.sc (.int .i64 a), .sc (.int .i64 b), .sc (.int .i64 c)] 34) ∧ HWk H K) ?_ (m := 157054 - D0) (HLe.refl _)
      ⟨D0, m1, w0, cY, cM, cD, rfl, by omega, hO, (fun _ => ⟨by rw [hcY], by rw [hcM], by rw [hcD], hw0⟩), by simp, by simp, by simp, by simp, by simp, k21, k91, kW1⟩
    clear k21 k91 kW1 hO hsp hclk hcY hcM hcD w1 w2 w3 hw0 hD k2 kW h9 h7 h9' hK hTM hTM' hTl hD0 hm0 hm1 v1 v2 v3
    rintro m ρ K ih ⟨n, mm, w, a, b, c, rfl, hw7, hO, hcv, r2, r9, r10, r11, r12, k2, k9, kW⟩
    by_cases hn : n < 157054
    · have hnI : (n : Int) < 157054 := by omega
      have hmm : mm ≤ 1439 := hO.1
      obtain ⟨rfl, rfl, rfl, hw⟩ := hcv hn
      obtain ⟨nn, hnn⟩ : ∃ q, n + 1 = q := ⟨_, rfl⟩
      simp -implicitDefEqProofs [r12, hn, hnI]
      refine AGo.joinLoop (fun ρ K' => K' = K ∧ OutN x t nn 0 ∧ ρ 2 = .sc (.pointer (some ⟨b2, 0, none⟩)) ∧ ρ 9 = .sc (.pointer (some ⟨b9, 0, none⟩)) ∧ ρ 10 = .sc (.int .i64 w) ∧ ρ 12 = .sc (.int .i64 n)) (fun k' hk' => ?_) ?_
      · have hI := inU_init hO hn
        refine AGo.rounds (fun m ρ K' => ∃ (q : Nat), m = 1441 - q ∧ InU x t n q ∧ ρ 2 = .sc (.pointer (some ⟨b2, 0, none⟩)) ∧ ρ 9 = .sc (.pointer (some ⟨b9, 0, none⟩)) ∧ ρ 10 = .sc (.int .i64 w) ∧ ρ 11 = .sc (.int .i64 q) ∧ ρ 12 = .sc (.int .i64 n) ∧ K' = K) ?_ (m := 1441 - mm) (HLe.refl _)
          ⟨mm, rfl, hI, by simp [r2], by simp [r9], by simp [r10], by simp [r11], by simp [r12], rfl⟩
        clear hI hmm hO r2 r9 r10 r11 r12
        rintro m' ρ' K' ih2 ⟨q, rfl, hI, r2, r9, r10, r11, r12, rfl⟩
        simp -implicitDefEqProofs [r2, r9, r10, k2, k9]
        refine ACall.eq (c_ref8Fits x hx (civ n).1 (civ n).2.1 (civ n).2.2 w rfl hw) ?_
        cases hdb : dayB x n with
        | false =>
          have hO' := inU_day hI hdb
          rw [hnn] at hO'
          simp -implicitDefEqProofs
          exact hk' _ _ ⟨rfl, hO', by simp [r2], by simp [r9], by simp [r10], by simp [r12]⟩
        | true =>
          by_cases hq14 : q < 1440
          · have hq14' : (q : Int) < 1440 := by omega
            obtain ⟨q1, hq1⟩ : ∃ z, q % 60 = z := ⟨_, rfl⟩
            obtain ⟨q2, hq2⟩ : ∃ z, q / 60 = z := ⟨_, rfl⟩
            obtain ⟨q3, hq3⟩ : ∃ z, q + 1 = z := ⟨_, rfl⟩
            have v1 : (q : Int).tmod 60 = (q1 : Int) := wmod (b := 60) hq1
            have v2 : IntKind.i64.wrap ((q : Int) / 60) = (q2 : Int) := wdiv (b := 60) hq2 (by omega)
            have v3 : IntKind.i64.wrap ((q : Int) + 1) = (q3 : Int) := wadd (b := 1) hq3 (by omega)
            have hfnd := fun h1 h2 => inU_found hm hI hq14 hdb h1 h2
            have hdn := fun h => inU_up hI hq14 h
            rw [hq1, hq2] at hfnd hdn
            rw [hq3] at hdn
            simp -implicitDefEqProofs [r11, r2, k2, v1, v2, hq14, hq14']
            refine ACall.eq (c_refHas x.a q1 hx.a) ?_
            cases ha : hasB x.a.bits (q1 : Int) with
            | false =>
              simp -implicitDefEqProofs [r11, v3]
              exact AGo.again ih2 (m' := 1441 - q3) (by omega) (HLe.refl _) ⟨q3, rfl, hdn (by simp [ha]), by simp [r2], by simp [r9], by simp [r10], by simp, by simp [r12], rfl⟩
            | true =>
              simp -implicitDefEqProofs [r11, r2, k2, v1, v2]
              refine ACall.eq (c_refHas x.b q2 hx.b) ?_
              cases hb : hasB x.b.bits (q2 : Int) with
              | false =>
                simp -implicitDefEqProofs [r11, v3]
                exact AGo.again ih2 (m' := 1441 - q3) (by omega) (HLe.refl _) ⟨q3, rfl, hdn (by simp [hb]), by simp [r2], by simp [r9], by simp [r10], by simp, by simp [r12], rfl⟩
              | true =>
                obtain rfl := next_one hr (hfnd ha hb)
                obtain ⟨P1, hP1⟩ : ∃ q, n * 86400 = q := ⟨_, rfl⟩
                obtain ⟨P2, hP2⟩ : ∃ z, q * 60 = z := ⟨_, rfl⟩
                obtain ⟨P3, hP3⟩ : ∃ q, P1 + P2 = q := ⟨_, rfl⟩
                have u1 : IntKind.i64.wrap ((n : Int) * 86400) = (P1 : Int) := wmul (b := 86400) hP1 (by omega)
                have u2 : IntKind.i64.wrap ((q : Int) * 60) = (P2 : Int) := wmul (b := 60) hP2 (by omega)
                have u3 : IntKind.i64.wrap ((P1 : Int) + (P2 : Int)) = (P3 : Int) := wadd hP3 (by omega)
                rw [hP1, hP2, hP3]
                simp -implicitDefEqProofs [r11, r12, u1, u2, u3, outAV, optN, errN]
                exact kW
          · obtain rfl : q = 1440 := by have := hI.1; omega
            have hO' := inU_end hI
            rw [hnn] at hO'
            simp -implicitDefEqProofs [r11]
            exact hk' _ _ ⟨rfl, hO', by simp [r2], by simp [r9], by simp [r10], by simp [r12]⟩
      · clear r2 r9 r10 r11 r12 hO
        rintro ρ2 K' ⟨rfl, hO', r2, r9, r10, r12⟩
        obtain ⟨a', b', c', hy, hyk⟩ := c_tomorrow (H := K') hn
        rw [hnn] at hyk
        obtain ⟨p1, hp1⟩ : ∃ q, w + 1 = q := ⟨_, rfl⟩
        obtain ⟨p2, hp2⟩ : ∃ q, p1 % 7 = q := ⟨_, rfl⟩
        have u1 : IntKind.i64.wrap ((w : Int) + 1) = (p1 : Int) := wadd (b := 1) hp1 (by omega)
        have u2 : (p1 : Int).tmod 7 = (p2 : Int) := wmod (b := 7) hp2
        have v3 : IntKind.i64.wrap ((n : Int) + 1) = (nn : Int) := wadd (b := 1) hnn (by omega)
        simp -implicitDefEqProofs [r9, r10, r12, k9]
        refine ACall.eq hy ?_
        simp -implicitDefEqProofs [r9, r10, r12, k9, u1, u2, v3]
        refine AGo.again ih (m' := 157054 - nn) (by omega) (HLe.refl _) ⟨nn, 0, p2, a', b', c', rfl, by omega, hO', (fun hk => by
          obtain ⟨z1, z2, z3⟩ := hyk hk
          exact ⟨z1, z2, z3, by omega⟩), by simp [r2], by simp [r9], by simp, by simp, by simp, by simp [n29, k2], by simp, HWk.new e9 kW⟩
    · obtain rfl : n = 157054 := by have := hO.2.1; omega
      obtain rfl := next_one hr (outN_end hO)
      simp -implicitDefEqProofs [r12, outAV, optN, errN]
      exact kW
end Go.Proofs.YtdpgnbinekcgdaaDoor
