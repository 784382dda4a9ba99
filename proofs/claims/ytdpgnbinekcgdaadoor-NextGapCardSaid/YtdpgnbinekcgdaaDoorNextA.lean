/- The first firing behind a moment, as the program looks for it. -/
import Derived.Test.YtdpgnbinekcgdaaDoorNext
namespace Go.Proofs.YtdpgnbinekcgdaaDoor
open Rg Go Go.RowKit

variable {W0 w : World} {C : Com} {H : Heap}

/-- What the one package variable holds that is read here. -/
def GlobT (H : Heap) : Prop := ∃ us, H 0 = some (.ro us) ∧ ∀ j, j < Lib.deBruijn64tab.length → us[j]? = some (.int .u8 (Lib.deBruijn64tab.getD j 0))
theorem GlobT.wk {H K : Heap} (h : GlobT H) (hk : HLe H K) : GlobT K := by
  obtain ⟨us, h1, h2⟩ := h
  exact ⟨us, hk _ _ h1, h2⟩
theorem GlobT.new {H : Heap} {b : Nat} {o : AObj} (h : GlobT H) (hb : H b = none) : GlobT (H.set b o) := h.wk (HLe.set_fresh hb)
theorem GlobT.tab (h : GlobT H) (hi : Inv W0 C H w) : TabAt 0 Lib.deBruijn64tab w := by
  obtain ⟨u, h1, g1⟩ := h
  exact fun j hj => hi.ro h1 (g1 j hj)
theorem c_ctz64T (hG : GlobT H) (x : Nat) (hx : x < 18446744073709551616) : AOk Tryd.prog 44 [.sc (.int .u64 x)] H (.sc (.int .i64 (Lib.ctz 64 x))) H :=
  AOk.kit (vs := [.int .u64 x]) (r := .int .i64 (Lib.ctz 64 x)) fun W0 C w hi => (Any7.bits_TrailingZeros64 Tryd.lays7x29 x hx w (fun _ => hG.tab hi)).mono fun e w' ⟨h1, h2⟩ => ⟨h1, h2 ▸ Below.refl _ _⟩
theorem c_firstT (hG : GlobT H) (f : Fld) (n : Int) (hf : f.bits < 18446744073709551616) : AOk Tryd.prog 19 [fAV f, .sc (.int .i64 n)] H (optAV (firstB f.bits n)) H := by
  rw [firstB_eq]
  have hmax : (if 0 < n then n else 0) = (n.toNat : Int) := by split <;> omega
  generalize n.toNat = m at *
  refine ACalls.into Tryd.func19 rfl Tryd.ntmps19 Tryd.results19 (by simp) ?_
  simp -implicitDefEqProofs [fAV]
  refine AAlloc.intro fun b hb => ?_
  by_cases h1 : 63 < m
  · have h1' : (63 : Int) < m := by omega
    simp -implicitDefEqProofs [hmax, h1, h1', optAV]
    exact HWk.new hb (HWk.refl _)
  · have h1' : ¬ (63 : Int) < m := by omega
    have hm : min m 64 = m := by omega
    have hsh := shr_lt m hf
    by_cases h2 : shr f.bits m = 0
    · simp -implicitDefEqProofs [hmax, h1, h1', hm, shr_nat, h2, optAV]
      exact HWk.new hb (HWk.refl _)
    · simp -implicitDefEqProofs [hmax, h1, h1', hm, shr_nat, h2]
      refine ACall.eq (c_ctz64T (hG.new hb) _ hsh) ?_
      have hc := ctz_le _ hsh
      have hw : IntKind.i64.wrap ((m : Int) + (Lib.ctz 64 (shr f.bits m) : Nat)) = ((m + Lib.ctz 64 (shr f.bits m) : Nat) : Int) := by rw [wrap_i64 (by omega) (by omega)]; push_cast; rfl
      simp -implicitDefEqProofs [hw, optAV]
      exact HWk.new hb (HWk.refl _)

def fromAV : Option Nat → AV
  | some n => .tup [.sc (.int .i64 (n : Int)), .sc (.bool true)]
  | none => .tup [.sc (.int .i64 0), .sc (.bool false)]
set_option maxHeartbeats 2000000 in
theorem c_from (hG : GlobT H) {x : Ex} (hx : x.ok) (hm : mayX x = true) {t T : Nat} (ht : t < 13569465600) (hT : t / 60 * 60 + 60 = T) {r : Option Nat} (hr : IsNext x t r) : AOk Tryd.prog 24 [exAV x, .sc (.int .i64 T)] H (fromAV r) H := by
  obtain ⟨n0, hn0⟩ : ∃ d, T / 86400 = d := ⟨_, rfl⟩
  obtain ⟨m0, hm0⟩ : ∃ d, T % 86400 = d := ⟨_, rfl⟩
  obtain ⟨m1, hm1⟩ : ∃ d, m0 / 60 = d := ⟨_, rfl⟩
  have hO := outN_init (x := x) ht
  rw [hT, hn0, hm0, hm1] at hO
  have hT2 : T < 13569465661 := by omega
  clear hT
  obtain ⟨hba, hbb⟩ := bits_ok hx hm
  have w1 : IntKind.i64.wrap ((T : Int) / 86400) = (n0 : Int) := wdiv (b := 86400) hn0 (by omega)
  have w2 : (T : Int).tmod 86400 = (m0 : Int) := wmod (b := 86400) hm0
  have w3 : IntKind.i64.wrap ((m0 : Int) / 60) = (m1 : Int) := wdiv (b := 60) hm1 (by omega)
  refine ACalls.into Tryd.func24 rfl Tryd.ntmps24 Tryd.results24 (by simp) ?_
  simp -implicitDefEqProofs
  refine AAlloc.intro fun b2 h2 => ?_
  simp -implicitDefEqProofs
  generalize hK : Heap.set _ b2 _ = K0
  have k2 : K0 b2 = some (.cells (exC x) 26) := by rw [← hK]; simp [Heap.set]
  have kG : GlobT K0 := by rw [← hK]; exact hG.new h2
  have kW : HWk H K0 := by rw [← hK]; exact HWk.new h2 (HWk.refl _)
  clear hK
  simp -implicitDefEqProofs [w1, w2, w3]
  refine AGo.rounds (fun m ρ K => ∃ (n mm : Nat), m = 157054 - n ∧ OutN x t n mm ∧ ρ 2 = .sc (.pointer (some ⟨b2, 0, none⟩)) ∧ ρ 6 = .sc (.int .i64 n) ∧ ρ 7 = .sc (.int .i64 mm) ∧ K b2 = some (.cells (exC x) 26) ∧ GlobT K ∧ HWk H K) ?_ (m := 157054 - n0) (HLe.refl _)
    ⟨n0, m1, rfl, hO, by simp, by simp, by simp, k2, kG, kW⟩
  clear kG kW k2 hO
  rintro m ρ K ih ⟨n, mm, rfl, hO, r2, r6, r7, k2, kG, kW⟩
  by_cases hn : n < 157054
  · have hnI : (n : Int) < 157054 := by omega
    have hmm : mm ≤ 1439 := hO.1
    have hoM := fun h => outN_month hO hn h
    have hcm := civ_month hn
    simp -implicitDefEqProofs [r6, hn, hnI]
    refine ACall.eq (c_of hn) ?_
    generalize civ n = cv at *
    obtain ⟨Y, M, Dd⟩ := cv
    simp only at hcm hoM
    simp -implicitDefEqProofs
    refine AAlloc.intro fun b9 h9 => ?_
    have n29 : b2 ≠ b9 := by intro e; subst e; rw [k2] at h9; cases h9
    have n92 := n29.symm
    simp -implicitDefEqProofs [r2, n29, n92, k2]
    generalize hK : Heap.set K b9 _ = K1
    have k21 : K1 b2 = some (.cells (exC x) 26) := by rw [← hK]; simp [Heap.set, n29, k2]
    have k9 : K1 b9 = some (.cells [.sc (.int .i64 Y), .sc (.int .i64 M), .sc (.int .i64 Dd)] 34) := by rw [← hK]; simp [Heap.set]
    have kG1 : GlobT K1 := by rw [← hK]; exact kG.new h9
    have kW1 : HWk H K1 := by rw [← hK]; exact HWk.new (kW.none h9) kW
    clear hK
    obtain ⟨nn, hnn⟩ : ∃ q, n + 1 = q := ⟨_, rfl⟩
    have w7 : IntKind.i64.wrap ((n : Int) + 1) = (nn : Int) := wadd (b := 1) hnn (by omega)
    refine ACall.eq (c_has x.d M hx.d) ?_
    cases hM : hasB x.d.bits M with
    | false =>
      have hlong : longI (Y : Int) (M : Int) = (mLong Y M : Int) := long_nat Y (by omega) (by omega)
      have hO' := hoM hM
      generalize mLong Y M = L at *
      obtain ⟨q1, hq1⟩ : ∃ q, L - Dd = q := ⟨_, rfl⟩
      obtain ⟨q2, hq2⟩ : ∃ q, n + q1 = q := ⟨_, rfl⟩
      obtain ⟨q3, hq3⟩ : ∃ q, q2 + 1 = q := ⟨_, rfl⟩
      have w4 : IntKind.i64.wrap ((L : Int) - (Dd : Int)) = (q1 : Int) := wsub hq1 (by omega) (by omega)
      have w5 : IntKind.i64.wrap ((n : Int) + (q1 : Int)) = (q2 : Int) := wadd hq2 (by omega)
      have w6 : IntKind.i64.wrap ((q2 : Int) + 1) = (q3 : Int) := wadd (b := 1) hq3 (by omega)
      rw [hq1, hq2, hq3] at hO'
      simp -implicitDefEqProofs
      refine go_draw 11 f_mixed (by decide +kernel) ?_
      simp -implicitDefEqProofs [r6, k9]
      refine AQS.eq (c_long (Y : Int) (M : Int)) ?_
      rw [hlong]
      simp -implicitDefEqProofs [r6, k9, w4, w5, w6]
      exact AGo.again ih (m' := 157054 - q3) (by omega) (HLe.refl _) ⟨q3, 0, rfl, hO', by simp [r2], by simp, by simp, k21, kG1, kW1⟩
    | true =>
      simp -implicitDefEqProofs [r2, r6, k21]
      refine ACall.eq (c_nfits x hx hn) ?_
      rw [hm]
      cases hdb : dayB x n with
      | false =>
        have hO' := outN_day hO hn hdb
        rw [hnn] at hO'
        simp -implicitDefEqProofs [r6, w7]
        exact AGo.again ih (m' := 157054 - nn) (by omega) (HLe.refl _) ⟨nn, 0, rfl, hO', by simp [r2], by simp, by simp, k21, kG1, kW1⟩
      | true =>
        obtain ⟨hh, hhh⟩ : ∃ q, mm / 60 = q := ⟨_, rfl⟩
        have w8 : IntKind.i64.wrap ((mm : Int) / 60) = (hh : Int) := wdiv (b := 60) hhh (by omega)
        have hI := inN_init hO hn hdb
        rw [hhh] at hI
        simp -implicitDefEqProofs [r7, w8]
        refine AGo.rounds (fun m ρ K => ∃ (h m2 : Nat), m = 25 - h ∧ InN x t n h (m2 % 60) ∧ m2 ≤ 1439 ∧ ρ 2 = .sc (.pointer (some ⟨b2, 0, none⟩)) ∧ ρ 6 = .sc (.int .i64 n) ∧ ρ 7 = .sc (.int .i64 m2) ∧ ρ 10 = .sc (.int .i64 h) ∧ K = K1) ?_ (m := 25 - hh) (HLe.refl _)
          ⟨hh, mm, rfl, hI, hmm, by simp [r2], by simp [r6], by simp [r7], by simp, rfl⟩
        clear hI hmm hO r2 r6 r7 hoM
        rintro m' ρ' K ih2 ⟨h, m2, rfl, hI, hm2, r2, r6, r7, r10, rfl⟩
        simp -implicitDefEqProofs [r10, r2, k21]
        refine ACall.eq (c_firstT kG1 x.b h hx.b) ?_
        cases htb : firstB x.b.bits (h : Int) with
        | none =>
          have hno := firstB_none hx.b htb
          have hO' := inN_none hI (fun j hj => by
            by_cases j64 : j ≤ 63
            · rw [has_bit j64]; exact hno j (by simpa using hj)
            · unfold hasB; rw [decide_eq_false (by omega : ¬ (j : Int) ≤ 63)]; simp)
          rw [hnn] at hO'
          simp -implicitDefEqProofs [optAV, r6, w7]
          exact AGo.again ih (m' := 157054 - nn) (by omega) (HLe.refl _) ⟨nn, 0, rfl, hO', by simp [r2], by simp, by simp, k21, kG1, kW1⟩
        | some h' =>
          obtain ⟨g1, g0, g2, g3⟩ := firstB_some hx.b htb
          simp only [Int.toNat_natCast] at g1 g3
          have g4 := hbb h' g2
          have g2' : hasB x.b.bits (h' : Int) = true := by rw [has_bit g0]; exact g2
          simp -implicitDefEqProofs [optAV, r10]
          refine ABr.join (fun ρ K' => K' = K ∧ ∃ m3 : Nat, m3 ≤ 1439 ∧ InN x t n h' (m3 % 60) ∧ ρ 2 = .sc (.pointer (some ⟨b2, 0, none⟩)) ∧ ρ 6 = .sc (.int .i64 n) ∧ ρ 7 = .sc (.int .i64 m3) ∧ ρ 10 = .sc (.int .i64 h')) (fun k' hk' => ?_) ?_
          · by_cases hlt : h < h'
            · have hlt' : (h : Int) < (h' : Int) := by omega
              simp -implicitDefEqProofs [hlt, hlt']
              exact hk' _ _ ⟨rfl, 0, by omega, inN_up hI hlt (by omega) (fun j j1 j2 => by rw [has_bit (by omega)]; exact g3 j j1 j2), by simp [r2], by simp [r6], by simp, by simp⟩
            · obtain rfl : h' = h := by omega
              simp -implicitDefEqProofs
              exact hk' _ _ ⟨rfl, m2, hm2, hI, by simp [r2], by simp [r6], by simp [r7], by simp [r10]⟩
          · clear r2 r6 r7 r10
            rintro ρ2 K' ⟨rfl, m3, hm3, hI3, r2, r6, r7, r10⟩
            obtain ⟨m4, hm4⟩ : ∃ q, m3 % 60 = q := ⟨_, rfl⟩
            have w9 : (m3 : Int).tmod 60 = (m4 : Int) := wmod (b := 60) hm4
            rw [hm4] at hI3
            have hm59 : m4 ≤ 59 := hI3.1
            simp -implicitDefEqProofs [r2, r7, k21, w9]
            refine ACall.eq (c_firstT kG1 x.a m4 hx.a) ?_
            cases hta : firstB x.a.bits (m4 : Int) with
            | none =>
              have hno := firstB_none hx.a hta
              obtain ⟨h2, hh2⟩ : ∃ q, h' + 1 = q := ⟨_, rfl⟩
              have w10 : IntKind.i64.wrap ((h' : Int) + 1) = (h2 : Int) := wadd (b := 1) hh2 (by omega)
              have hI' := inN_min hI3 (by omega) (fun j hj => by
                by_cases j64 : j ≤ 63
                · rw [has_bit j64]; exact hno j (by simpa using hj)
                · unfold hasB; rw [decide_eq_false (by omega : ¬ (j : Int) ≤ 63)]; simp)
              rw [hh2] at hI'
              simp -implicitDefEqProofs [optAV, r10, w10]
              exact AGo.again ih2 (m' := 25 - h2) (by omega) (HLe.refl _) ⟨h2, 0, rfl, hI', by omega, by simp [r2], by simp [r6], by simp, by simp, rfl⟩
            | some m5 =>
              obtain ⟨f1, f0, f2, f3⟩ := firstB_some hx.a hta
              simp only [Int.toNat_natCast] at f1 f3
              have f4 := hba m5 f2
              have f2' : hasB x.a.bits (m5 : Int) = true := by rw [has_bit f0]; exact f2
              obtain rfl := next_one hr (inN_found hm hI3 (by omega) g2' f2' f1 (by omega) (fun j j1 j2 => by rw [has_bit (by omega)]; exact f3 j j1 j2))
              obtain ⟨P1, hP1⟩ : ∃ q, n * 86400 = q := ⟨_, rfl⟩
              obtain ⟨P2, hP2⟩ : ∃ q, h' * 3600 = q := ⟨_, rfl⟩
              obtain ⟨P3, hP3⟩ : ∃ q, P1 + P2 = q := ⟨_, rfl⟩
              obtain ⟨P4, hP4⟩ : ∃ q, m5 * 60 = q := ⟨_, rfl⟩
              obtain ⟨P5, hP5⟩ : ∃ q, P3 + P4 = q := ⟨_, rfl⟩
              have v1 : IntKind.i64.wrap ((n : Int) * 86400) = (P1 : Int) := wmul (b := 86400) hP1 (by omega)
              have v2 : IntKind.i64.wrap ((h' : Int) * 3600) = (P2 : Int) := wmul (b := 3600) hP2 (by omega)
              have v3 : IntKind.i64.wrap ((P1 : Int) + (P2 : Int)) = (P3 : Int) := wadd hP3 (by omega)
              have v4 : IntKind.i64.wrap ((m5 : Int) * 60) = (P4 : Int) := wmul (b := 60) hP4 (by omega)
              have v5 : IntKind.i64.wrap ((P3 : Int) + (P4 : Int)) = (P5 : Int) := wadd hP5 (by omega)
              rw [hP1, hP2, hP3, hP4, hP5]
              simp -implicitDefEqProofs [optAV, r6, r10, v1, v2, v3, v4, v5, fromAV]
              exact kW1
  · obtain rfl : n = 157054 := by have := hO.2.1; omega
    obtain rfl := next_one hr (outN_end hO)
    simp -implicitDefEqProofs [r6, fromAV]
    exact kW

theorem c_after_bad {x : Ex} (hx : x.ok) {t : Int} (h : badE x t ≠ 0) : AOk Tryd.prog 8 [exAV x, .sc (.int .i64 t)] H (.tup [.sc (.int .i64 0), .sc (.int .i64 (badE x t))]) H := by
  refine ACalls.into Tryd.func8 rfl Tryd.ntmps8 Tryd.results8 (by simp) ?_
  simp -implicitDefEqProofs
  refine AAlloc.intro fun b2 h2 => ?_
  simp -implicitDefEqProofs
  refine ACall.eq (c_nmay x hx t) ?_
  generalize badE x t = e at *
  simp -implicitDefEqProofs [h]
  exact HWk.new h2 (HWk.refl _)
theorem badE_ok {x : Ex} (hm : mayX x = true) {t : Nat} (ht : t < 13569465600) : badE x (t : Int) = 0 := by
  unfold badE
  rw [if_neg (by simp [hm]), if_neg (by omega)]
theorem c_after (hG : GlobT H) {x : Ex} (hx : x.ok) (hm : mayX x = true) {t : Nat} (ht : t < 13569465600) {r : Option Nat} (hr : IsNext x t r) : AOk Tryd.prog 8 [exAV x, .sc (.int .i64 t)] H (outAV r) H := by
  obtain ⟨q, hq⟩ : ∃ q, t % 60 = q := ⟨_, rfl⟩
  obtain ⟨z, hz⟩ : ∃ q, t / 60 * 60 = q := ⟨_, rfl⟩
  obtain ⟨T, hT⟩ : ∃ q, z + 60 = q := ⟨_, rfl⟩
  have w1 : (t : Int).tmod 60 = (q : Int) := wmod (b := 60) hq
  have w2 : IntKind.i64.wrap ((t : Int) - (q : Int)) = (z : Int) := wsub (by omega) (by omega) (by omega)
  have w3 : IntKind.i64.wrap ((z : Int) + 60) = (T : Int) := wadd (b := 60) hT (by omega)
  have hf := fun (K : Heap) (kG : GlobT K) => c_from kG hx hm ht (T := T) (by omega) hr
  refine ACalls.into Tryd.func8 rfl Tryd.ntmps8 Tryd.results8 (by simp) ?_
  simp -implicitDefEqProofs
  refine AAlloc.intro fun b2 h2 => ?_
  have kG := fun o => hG.new (o := o) h2
  simp -implicitDefEqProofs
  refine ACall.eq (c_nmay x hx t) ?_
  rw [badE_ok hm ht]
  simp -implicitDefEqProofs [w1, w2, w3]
  refine ACall.eq (hf _ (kG _)) ?_
  cases r with
  | none =>
    simp -implicitDefEqProofs [fromAV, outAV, optN, errN]
    exact HWk.new h2 (HWk.refl _)
  | some n =>
    simp -implicitDefEqProofs [fromAV, outAV, optN, errN]
    exact HWk.new h2 (HWk.refl _)
end Go.Proofs.YtdpgnbinekcgdaaDoor
