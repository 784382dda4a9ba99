/- The last firing up to a moment, as the document looks for it. -/
import Derived.Test.YtdpgnbinekcgdaaGreatDoorNext
import Derived.Test.YtdpgnbinekcgdaaGreatDoorRefZ
namespace Go.Proofs.YtdpgnbinekcgdaaGreatDoor
open Rg Go

variable {H : Heap}

theorem c_ref8Bad (x : Ex) (hx : x.ok) (t : Int) : AOk Tryz.prog 99 [exAV x, .sc (.int .i64 t)] H (.sc (.int .i64 (badE x t))) H := by
  refine ACalls.into Tryz.func99 rfl Tryz.ntmps99 Tryz.results99 (by simp) ?_
  simp -implicitDefEqProofs
  refine AAlloc.intro fun b2 h2 => ?_
  have hW : ∀ o, HWk H (H.set b2 o) := fun o => HWk.new h2 (HWk.refl _)
  simp -implicitDefEqProofs
  refine ACall.eq (c_ref7May x hx) ?_
  unfold badE
  cases hm : mayX x with
  | false =>
    simp -implicitDefEqProofs
    exact hW _
  | true =>
    by_cases h1 : t < 0
    · simp -implicitDefEqProofs [h1]
      exact hW _
    · by_cases h2 : 13569465600 ≤ t
      · simp -implicitDefEqProofs [h1, h2]
        exact hW _
      · simp -implicitDefEqProofs [h1, h2]
        exact hW _
theorem c_ref8Fits (x : Ex) (hx : x.ok) {n : Nat} (Y M Dd : Nat) (w : Nat) (hc : civ n = (Y, M, Dd)) (hw : (n + 4) % 7 = w) : AOk Tryz.prog 100 [exAV x, dAV Y M Dd, .sc (.int .i64 w)] H (.sc (.bool (dayB x n))) H := by
  unfold dayB
  rw [hc, hw]
  simp only
  refine ACalls.into Tryz.func100 rfl Tryz.ntmps100 Tryz.results100 (by simp) ?_
  simp -implicitDefEqProofs
  refine AAlloc.intro fun b3 h3 => ?_
  simp -implicitDefEqProofs
  refine AAlloc.intro fun b4 h4 => ?_
  have n43 : b4 ≠ b3 := by intro e; subst e; simp [Heap.set] at h4
  have n34 := n43.symm
  have e4 : H b4 = none := (HLe.set_fresh h3).none h4
  simp -implicitDefEqProofs [n34, n43]
  generalize hK : Heap.set _ b4 _ = K
  have k3 : K b3 = some (.cells (exC x) 37) := by rw [← hK]; simp [Heap.set, n34]
  have k4 : K b4 = some (.cells [.sc (.int .i64 Y), .sc (.int .i64 M), .sc (.int .i64 Dd)] 42) := by rw [← hK]; simp [Heap.set]
  have kW : HWk H K := by rw [← hK]; exact HWk.new e4 (HWk.new h3 (HWk.refl _))
  clear hK
  refine ACall.eq (c_refHas x.c Dd hx.c) ?_
  simp -implicitDefEqProofs [k3, k4]
  refine ACall.eq (c_refHas x.e w hx.e) ?_
  simp -implicitDefEqProofs [k3, k4]
  refine ACall.eq (c_refHas x.d M hx.d) ?_
  obtain ⟨day, hday⟩ : ∃ z, hasB x.c.bits (Dd : Int) = z := ⟨_, rfl⟩
  obtain ⟨week, hweek⟩ : ∃ z, hasB x.e.bits (w : Int) = z := ⟨_, rfl⟩
  obtain ⟨mon, hmon⟩ : ∃ z, hasB x.d.bits (M : Int) = z := ⟨_, rfl⟩
  rw [hday, hweek, hmon]
  cases hsc : x.c.star with
  | true => cases mon <;> cases day <;> cases week <;> simp -implicitDefEqProofs [k3, hsc] <;> exact kW
  | false =>
    cases hse : x.e.star with
    | true => cases mon <;> cases day <;> cases week <;> simp -implicitDefEqProofs [k3, hsc, hse] <;> exact kW
    | false => cases mon <;> cases day <;> cases week <;> simp -implicitDefEqProofs [k3, hsc, hse] <;> exact kW
/-- The date ahead; where there is none (a program asks it of the first day too): any. -/
theorem c_yesterday {n : Nat} (hn : n < 157054) : ∃ a b c : Int, AOk Tryz.prog 101 [dAV (civ n).1 (civ n).2.1 (civ n).2.2] H (dAV a b c) H ∧ ∀ k, n = k + 1 → a = (civ k).1 ∧ b = (civ k).2.1 ∧ c = (civ k).2.2 := by
  have hcm := civ_month hn
  have hp : ∀ k, n = k + 1 → civ k = if 1 < (civ n).2.2 then ((civ n).1, (civ n).2.1, (civ n).2.2 - 1) else if 1 < (civ n).2.1 then ((civ n).1, (civ n).2.1 - 1, mLong (civ n).1 ((civ n).2.1 - 1)) else ((civ n).1 - 1, 12, 31) := by
    rintro k rfl
    exact civ_pred (by omega)
  generalize civ n = cv at *
  obtain ⟨Y, M, Dd⟩ := cv
  simp only at hcm hp ⊢
  by_cases h1 : 1 < Dd
  · obtain ⟨d1, hd1⟩ : ∃ q, Dd - 1 = q := ⟨_, rfl⟩
    have w1 : IntKind.i64.wrap ((Dd : Int) - 1) = (d1 : Int) := wsub (b := 1) hd1 (by omega) (by omega)
    have h1' : (1 : Int) < (Dd : Int) := by omega
    refine ⟨Y, M, d1, ?_, fun k hk => ?_⟩
    · refine ACalls.into Tryz.func101 rfl Tryz.ntmps101 Tryz.results101 (by simp) ?_
      simp -implicitDefEqProofs
      refine AAlloc.intro fun b1 g1 => ?_
      simp -implicitDefEqProofs
      refine AAlloc.intro fun b2 g2 => ?_
      have n21 : b2 ≠ b1 := by intro e; subst e; simp [Heap.set] at g2
      have n12 := n21.symm
      have e2 : H b2 = none := (HLe.set_fresh g1).none g2
      simp -implicitDefEqProofs [n12, n21, h1, h1', w1]
      repeat (first | exact HWk.refl _ | refine HWk.new (by assumption) ?_)
    · have := hp k hk
      rw [if_pos h1, hd1] at this
      rw [this]
      exact ⟨rfl, rfl, rfl⟩
  · have h1' : ¬ (1 : Int) < (Dd : Int) := by omega
    by_cases h2 : 1 < M
    · obtain ⟨m1, hm1⟩ : ∃ q, M - 1 = q := ⟨_, rfl⟩
      have w1 : IntKind.i64.wrap ((M : Int) - 1) = (m1 : Int) := wsub (b := 1) hm1 (by omega) (by omega)
      have h2' : (1 : Int) < (M : Int) := by omega
      refine ⟨Y, m1, mLong Y m1, ?_, fun k hk => ?_⟩
      · refine ACalls.into Tryz.func101 rfl Tryz.ntmps101 Tryz.results101 (by simp) ?_
        simp -implicitDefEqProofs
        refine AAlloc.intro fun b1 g1 => ?_
        simp -implicitDefEqProofs
        refine AAlloc.intro fun b2 g2 => ?_
        have n21 : b2 ≠ b1 := by intro e; subst e; simp [Heap.set] at g2
        have n12 := n21.symm
        have e2 : H b2 = none := (HLe.set_fresh g1).none g2
        simp -implicitDefEqProofs [n12, n21, h1, h1', h2, h2', w1]
        refine go_draw 12 f_mixed (by decide +kernel) ?_
        simp -implicitDefEqProofs [n12, n21, w1]
        refine AQS.eq (c_ref4Long (y := Y) (m := m1) (by omega) (by omega)) ?_
        simp -implicitDefEqProofs [n12, n21, w1]
        repeat (first | exact HWk.refl _ | refine HWk.new (by assumption) ?_)
      · have := hp k hk
        rw [if_neg h1, if_pos h2, hm1] at this
        rw [this]
        exact ⟨rfl, rfl, rfl⟩
    · have h2' : ¬ (1 : Int) < (M : Int) := by omega
      obtain ⟨y1, hy1⟩ : ∃ q, Y - 1 = q := ⟨_, rfl⟩
      have w1 : IntKind.i64.wrap ((Y : Int) - 1) = (y1 : Int) := wsub (b := 1) hy1 (by omega) (by omega)
      refine ⟨y1, 12, 31, ?_, fun k hk => ?_⟩
      · refine ACalls.into Tryz.func101 rfl Tryz.ntmps101 Tryz.results101 (by simp) ?_
        simp -implicitDefEqProofs
        refine AAlloc.intro fun b1 g1 => ?_
        simp -implicitDefEqProofs
        refine AAlloc.intro fun b2 g2 => ?_
        have n21 : b2 ≠ b1 := by intro e; subst e; simp [Heap.set] at g2
        have n12 := n21.symm
        have e2 : H b2 = none := (HLe.set_fresh g1).none g2
        simp -implicitDefEqProofs [n12, n21, h1, h1', h2, h2', w1]
        repeat (first | exact HWk.refl _ | refine HWk.new (by assumption) ?_)
      · have := hp k hk
        rw [if_neg h1, if_neg h2, hy1] at this
        rw [this]
        exact ⟨rfl, rfl, rfl⟩
theorem c_ref8Last_bad {x : Ex} (hx : x.ok) {t : Int} (h : badE x t ≠ 0) : AOk Tryz.prog 68 [exAV x, .sc (.int .i64 t)] H (.tup [.sc (.int .i64 0), .sc (.int .i64 (badE x t))]) H := by
  refine ACalls.into Tryz.func68 rfl Tryz.ntmps68 Tryz.results68 (by simp) ?_
  simp -implicitDefEqProofs
  refine AAlloc.intro fun b2 h2 => ?_
  simp -implicitDefEqProofs
  refine ACall.eq (c_ref8Bad x hx t) ?_
  generalize badE x t = e at *
  simp -implicitDefEqProofs [h]
  exact HWk.new h2 (HWk.refl _)
set_option maxHeartbeats 2000000 in
theorem c_ref8Last {x : Ex} (hx : x.ok) (hm : mayX x = true) {t : Nat} (ht : t < 13569465600) {r : Option Nat} (hr : IsLast x t r) : AOk Tryz.prog 68 [exAV x, .sc (.int .i64 t)] H (outAV r) H := by
  obtain ⟨D0, hD0⟩ : ∃ d, t / 86400 = d := ⟨_, rfl⟩
  obtain ⟨m0, hm0⟩ : ∃ d, t % 86400 = d := ⟨_, rfl⟩
  obtain ⟨m1, hm1⟩ : ∃ d, m0 / 60 = d := ⟨_, rfl⟩
  have hO := outL_init (x := x) ht
  rw [hD0, hm0, hm1] at hO
  have w1 : IntKind.i64.wrap ((t : Int) / 86400) = (D0 : Int) := wdiv (b := 86400) hD0 (by omega)
  have w2 : (t : Int).tmod 86400 = (m0 : Int) := wmod (b := 86400) hm0
  have w3 : IntKind.i64.wrap ((m0 : Int) / 60) = (m1 : Int) := wdiv (b := 60) hm1 (by omega)
  have e0 : badE x (t : Int) = 0 := by unfold badE; rw [if_neg (by simp [hm]), if_neg (by omega)]
  have hsp := fun K : Heap => c_ref5Split (H := K) ht
  have hclk : ∃ hh mi ss : Int, clk t = ⟨((civ D0).1 : Nat), ((civ D0).2.1 : Nat), ((civ D0).2.2 : Nat), hh, mi, ss, (((D0 + 4) % 7 : Nat) : Int)⟩ := by
    unfold clk
    rw [hD0]
    exact ⟨_, _, _, rfl⟩
  obtain ⟨hh, mi, ss, hclk⟩ := hclk
  rw [hclk] at hsp
  obtain ⟨w0, hw0⟩ : ∃ w, (D0 + 4) % 7 = w := ⟨_, rfl⟩
  rw [hw0] at hsp
  have hD : D0 < 157054 := by omega
  obtain ⟨cY, hcY⟩ : ∃ q, (civ D0).1 = q := ⟨_, rfl⟩
  obtain ⟨cM, hcM⟩ : ∃ q, (civ D0).2.1 = q := ⟨_, rfl⟩
  obtain ⟨cD, hcD⟩ : ∃ q, (civ D0).2.2 = q := ⟨_, rfl⟩
  rw [hcY, hcM, hcD] at hsp
  refine ACalls.into Tryz.func68 rfl Tryz.ntmps68 Tryz.results68 (by simp) ?_
  simp -implicitDefEqProofs
  refine AAlloc.intro fun b2 h2 => ?_
  simp -implicitDefEqProofs
  generalize hK : Heap.set _ b2 _ = K0
  have k2 : K0 b2 = some (.cells (exC x) 37) := by rw [← hK]; simp [Heap.set]
  have kW : HWk H K0 := by rw [← hK]; exact HWk.new h2 (HWk.refl _)
  clear hK
  refine ACall.eq (c_ref8Bad x hx t) ?_
  rw [e0]
  simp -implicitDefEqProofs
  refine ACall.eq (hsp _) ?_
  simp -implicitDefEqProofs
  refine AAlloc.intro fun b7 h7 => ?_
  have n27 : b2 ≠ b7 := by intro e; subst e; rw [k2] at h7; cases h7
  simp -implicitDefEqProofs
  refine AAlloc.intro fun b9 h9 => ?_
  have h9' : K0 b9 = none := (HLe.set_fresh h7).none h9
  have n79 : b7 ≠ b9 := by intro e; subst e; simp [Heap.set] at h9
  have n97 := n79.symm
  have n29 : b2 ≠ b9 := by intro e; subst e; rw [k2] at h9'; cases h9'
  have e9 : H b9 = none := kW.none h9'
  simp -implicitDefEqProofs [n79, n97]
  generalize hK : Heap.set _ b9 _ = K1
  have k21 : K1 b2 = some (.cells (exC x) 37) := by rw [← hK]; simp [Heap.set, n27, n29, k2]
  have k91 : K1 b9 = some (.cells [.sc (.int .i64 cY), .sc (.int .i64 cM), .sc (.int .i64 cD)] 42) := by rw [← hK]; simp [Heap.set]
  have kW1 : HWk H K1 := by rw [← hK]; exact HWk.new e9 (HWk.new (kW.none h7) kW)
  simp -implicitDefEqProofs [w1, w2, w3]
  refine AGo.rounds (fun m ρ K => ∃ (D mm w : Nat) (d a b c : Int), m = D ∧ d = (D : Int) - 1 ∧ w < 7 ∧ OutL x t D mm ∧ (∀ n, D = n + 1 → a = (civ n).1 ∧ b = (civ n).2.1 ∧ c = (civ n).2.2 ∧ (n + 4) % 7 = w) ∧
      ρ 2 = .sc (.pointer (some ⟨b2, 0, none⟩)) ∧ ρ 9 = .sc (.pointer (some ⟨b9, 0, none⟩)) ∧ ρ 10 = .sc (.int .i64 w) ∧ ρ 11 = .sc (.int .i64 mm) ∧ ρ 12 = .sc (.int .i64 d) ∧
      K b2 = some (.cells (exC x) 37) ∧ K b9 = some (.cells [.sc (.int .i64 a), .sc (.int .i64 b), .sc (.int .i64 c)] 42) ∧ HWk H K) ?_ (m := D0 + 1) (HLe.refl _)
    ⟨D0 + 1, m1, w0, D0, cY, cM, cD, rfl, by omega, by omega, hO, (by
      rintro n hn
      obtain rfl : n = D0 := by omega
      exact ⟨by rw [hcY], by rw [hcM], by rw [hcD], hw0⟩), by simp, by simp, by simp, by simp, by simp, k21, k91, kW1⟩
  clear k21 k91 kW1 hO hsp hclk hcY hcM hcD w1 w2 w3 hw0 hD k2 kW h9 h7 h9' hK
  rintro m ρ K ih ⟨D, mm, w, d, a, b, c, hmD, hd, hw7, hO, hcv, r2, r9, r10, r11, r12, k2, k9, kW⟩
  subst hmD
  rcases m with _ | n
  · obtain rfl : d = -1 := by omega
    obtain rfl := last_one hr (outL_end hO)
    simp -implicitDefEqProofs [r12, outAV, optN, errN]
    exact kW
  · obtain rfl : d = (n : Int) := by omega
    have hn : n < 157054 := by have := hO.2.1; omega
    have hmm : mm ≤ 1439 := hO.1
    obtain ⟨rfl, rfl, rfl, hw⟩ := hcv n rfl
    simp -implicitDefEqProofs [r12]
    refine AGo.joinLoop (fun ρ K' => K' = K ∧ OutL x t n 1439 ∧ ρ 2 = .sc (.pointer (some ⟨b2, 0, none⟩)) ∧ ρ 9 = .sc (.pointer (some ⟨b9, 0, none⟩)) ∧ ρ 10 = .sc (.int .i64 w) ∧ ρ 12 = .sc (.int .i64 n)) (fun k' hk' => ?_) ?_
    · have hI := inM_init hO
      refine AGo.rounds (fun m ρ K' => ∃ (MM : Nat) (v : Int), m = MM ∧ v = (MM : Int) - 1 ∧ InM x t n MM ∧ ρ 2 = .sc (.pointer (some ⟨b2, 0, none⟩)) ∧ ρ 9 = .sc (.pointer (some ⟨b9, 0, none⟩)) ∧ ρ 10 = .sc (.int .i64 w) ∧ ρ 11 = .sc (.int .i64 v) ∧ ρ 12 = .sc (.int .i64 n) ∧ K' = K) ?_ (m := mm + 1) (HLe.refl _)
        ⟨mm + 1, mm, rfl, by omega, hI, by simp [r2], by simp [r9], by simp [r10], by simp [r11], by simp [r12], rfl⟩
      clear hI hmm hO r2 r9 r10 r11 r12
      rintro m' ρ' K' ih2 ⟨MM, v, hmM, hv, hI, r2, r9, r10, r11, r12, rfl⟩
      subst hmM
      simp -implicitDefEqProofs [r2, r9, r10, k2, k9]
      refine ACall.eq (c_ref8Fits x hx (civ n).1 (civ n).2.1 (civ n).2.2 w rfl hw) ?_
      cases hdb : dayB x n with
      | false =>
        simp -implicitDefEqProofs
        exact hk' _ _ ⟨rfl, inM_day ht hI hdb, by simp [r2], by simp [r9], by simp [r10], by simp [r12]⟩
      | true =>
        rcases m' with _ | q
        · obtain rfl : v = -1 := by omega
          simp -implicitDefEqProofs [r11]
          exact hk' _ _ ⟨rfl, inM_end hI, by simp [r2], by simp [r9], by simp [r10], by simp [r12]⟩
        · obtain rfl : v = (q : Int) := by omega
          have hq : q ≤ 1439 := by have := hI.1; omega
          obtain ⟨q1, hq1⟩ : ∃ z, q % 60 = z := ⟨_, rfl⟩
          obtain ⟨q2, hq2⟩ : ∃ z, q / 60 = z := ⟨_, rfl⟩
          have v1 : (q : Int).tmod 60 = (q1 : Int) := wmod (b := 60) hq1
          have v2 : IntKind.i64.wrap ((q : Int) / 60) = (q2 : Int) := wdiv (b := 60) hq2 (by omega)
          have v3 : IntKind.i64.wrap ((q : Int) - 1) = (q : Int) - 1 := wrap_i64 (by omega) (by omega)
          have hfnd := fun h1 h2 => inM_found hm hI hdb h1 h2 ht
          have hdn := fun h => inM_down hI h ht
          rw [hq1, hq2] at hfnd hdn
          simp -implicitDefEqProofs [r11, r2, k2, v1, v2]
          refine ACall.eq (c_refHas x.a q1 hx.a) ?_
          cases ha : hasB x.a.bits (q1 : Int) with
          | false =>
            simp -implicitDefEqProofs [r11, v3]
            exact AGo.again ih2 (m' := q) (by omega) (HLe.refl _) ⟨q, _, rfl, rfl, hdn (by simp [ha]), by simp [r2], by simp [r9], by simp [r10], by simp, by simp [r12], rfl⟩
          | true =>
            simp -implicitDefEqProofs [r11, r2, k2, v1, v2]
            refine ACall.eq (c_refHas x.b q2 hx.b) ?_
            cases hb : hasB x.b.bits (q2 : Int) with
            | false =>
              simp -implicitDefEqProofs [r11, v3]
              exact AGo.again ih2 (m' := q) (by omega) (HLe.refl _) ⟨q, _, rfl, rfl, hdn (by simp [hb]), by simp [r2], by simp [r9], by simp [r10], by simp, by simp [r12], rfl⟩
            | true =>
              obtain rfl := last_one hr (hfnd ha hb)
              obtain ⟨P1, hP1⟩ : ∃ q, n * 86400 = q := ⟨_, rfl⟩
              obtain ⟨P2, hP2⟩ : ∃ z, q * 60 = z := ⟨_, rfl⟩
              obtain ⟨P3, hP3⟩ : ∃ q, P1 + P2 = q := ⟨_, rfl⟩
              have u1 : IntKind.i64.wrap ((n : Int) * 86400) = (P1 : Int) := wmul (b := 86400) hP1 (by omega)
              have u2 : IntKind.i64.wrap ((q : Int) * 60) = (P2 : Int) := wmul (b := 60) hP2 (by omega)
              have u3 : IntKind.i64.wrap ((P1 : Int) + (P2 : Int)) = (P3 : Int) := wadd hP3 (by omega)
              rw [hP1, hP2, hP3]
              simp -implicitDefEqProofs [r11, r12, u1, u2, u3, outAV, optN, errN]
              exact kW
    · clear r2 r9 r10 r11 r12 hO
      rintro ρ2 K' ⟨rfl, hO', r2, r9, r10, r12⟩
      obtain ⟨a', b', c', hy, hyk⟩ := c_yesterday (H := K') hn
      obtain ⟨p1, hp1⟩ : ∃ q, w + 6 = q := ⟨_, rfl⟩
      obtain ⟨p2, hp2⟩ : ∃ q, p1 % 7 = q := ⟨_, rfl⟩
      have u1 : IntKind.i64.wrap ((w : Int) + 6) = (p1 : Int) := wadd (b := 6) hp1 (by omega)
      have u2 : (p1 : Int).tmod 7 = (p2 : Int) := wmod (b := 7) hp2
      have v3 : IntKind.i64.wrap ((n : Int) - 1) = (n : Int) - 1 := wrap_i64 (by omega) (by omega)
      simp -implicitDefEqProofs [r9, r10, r12, k9]
      refine ACall.eq hy ?_
      simp -implicitDefEqProofs [r9, r10, r12, k9, u1, u2, v3]
      refine AGo.again ih (m' := n) (by omega) (HLe.refl _) ⟨n, 1439, p2, _, a', b', c', rfl, rfl, by omega, hO', (by
        rintro k rfl
        obtain ⟨z1, z2, z3⟩ := hyk k rfl
        exact ⟨z1, z2, z3, by omega⟩), by simp [r2], by simp [r9], by simp, by simp, by simp, by simp [n29, k2], by simp, HWk.new e9 kW⟩
end Go.Proofs.YtdpgnbinekcgdaaGreatDoor
