/- The last firing up to a moment, as the program looks for it. The first firing behind a moment, as the program looks for it. A row turned round in place. Numbers and texts as bytes: what the program's package pack computes. Numbers and texts as bytes: pack.Take. Zones: which may be, the offset at a moment; clocks joined. Zones: local clocks, the moments of a clock. Rows of two at most, put in order; the moments of a clock. Zones' texts, plainly: what is told, what is read; what was told is read as it was. -/
import Derived.Test.YtmoncokklkiikaaGreatDoorP18
import Derived.Test.YtmoncokklkiikaaGreatDoorP14
import Derived.Test.YtmoncokklkiikaaGreatDoorP09
import Derived.Laws.BitsAllLaws
import Derived.Test.YtmoncokklkiikaaGreatDoorP15
import Derived.Test.YtmoncokklkiikaaGreatDoorP13
import Derived.Lib.ItoaMem
import Derived.Lib.ParseIntBCases
set_option linter.unusedSimpArgs false
set_option linter.unusedVariables false
set_option linter.unnecessarySimpa false
namespace Go.Proofs.YtmoncokklkiikaaGreatDoor
open Rg Go
variable {H : Heap}
def badE (x : Ex) (t : Int) : Int := if mayX x = false then 2 else if t < 0 ∨ 13569465600 ≤ t then 50 else 0
theorem c_floor_bad {t : Int} (h : t < 0 ∨ 13569465600 ≤ t) : AOk Tryz.prog 84 [.sc (.int .i64 t)] H (.tup [.sc (.int .i64 0), .sc (.int .i64 50)]) H := by
  refine ACalls.into Tryz.func84 rfl Tryz.ntmps84 Tryz.results84 (by simp) ?_
  simp -implicitDefEqProofs
  refine ACall.eq (c_is_s t) ?_
  have e : (decide (0 ≤ t) && decide (t < 13569465600)) = false := by simp; omega
  simp -implicitDefEqProofs [e]
theorem c_floor {t : Nat} (h : t < 13569465600) : AOk Tryz.prog 84 [.sc (.int .i64 t)] H (.tup [.sc (.int .i64 ((t / 60 * 60 : Nat) : Int)), .sc (.int .i64 0)]) H := by
  obtain ⟨q, hq⟩ : ∃ q, t % 60 = q := ⟨_, rfl⟩
  obtain ⟨z, hz⟩ : ∃ z, t / 60 * 60 = z := ⟨_, rfl⟩
  rw [hz]
  refine ACalls.into Tryz.func84 rfl Tryz.ntmps84 Tryz.results84 (by simp) ?_
  simp -implicitDefEqProofs
  refine ACall.eq (c_is_s t) ?_
  have e : (t : Int) < 13569465600 := by omega
  have w1 : (t : Int).tmod 60 = (q : Int) := wmod (b := 60) hq
  have w2 : IntKind.i64.wrap ((t : Int) - (q : Int)) = (z : Int) := wsub (by omega) (by omega) (by omega)
  simp -implicitDefEqProofs [e, w1, w2]
theorem c_nmay (x : Ex) (hx : x.ok) (t : Int) : AOk Tryz.prog 103 [exAV x, .sc (.int .i64 t)] H (.sc (.int .i64 (badE x t))) H := by
  refine ACalls.into Tryz.func103 rfl Tryz.ntmps103 Tryz.results103 (by simp) ?_
  simp -implicitDefEqProofs
  refine AAlloc.intro fun b2 h2 => ?_
  have hW : ∀ o, HWk H (H.set b2 o) := fun o => HWk.new h2 (HWk.refl _)
  simp -implicitDefEqProofs
  refine ACall.eq (c_cronMay x hx) ?_
  unfold badE
  cases hm : mayX x with
  | false =>
    simp -implicitDefEqProofs
    exact hW _
  | true =>
    simp -implicitDefEqProofs
    by_cases h : t < 0 ∨ 13569465600 ≤ t
    · rw [if_pos h]
      refine ACall.eq (c_floor_bad h) ?_
      simp -implicitDefEqProofs
      exact hW _
    · rw [if_neg h]
      obtain ⟨u, rfl⟩ := Int.eq_ofNat_of_zero_le (a := t) (by omega)
      refine ACall.eq (c_floor (t := u) (by omega)) ?_
      simp -implicitDefEqProofs
      exact hW _
theorem c_nfits (x : Ex) (hx : x.ok) {n : Nat} (hn : n < 157054) : AOk Tryz.prog 136 [exAV x, .sc (.int .i64 n)] H (.sc (.bool (mayX x && dayB x n))) H := by
  refine ACalls.into Tryz.func136 rfl Tryz.ntmps136 Tryz.results136 (by simp) ?_
  simp -implicitDefEqProofs
  refine AAlloc.intro fun b2 h2 => ?_
  obtain ⟨t, ht⟩ : ∃ t, n * 86400 = t := ⟨_, rfl⟩
  have w1 : IntKind.i64.wrap ((n : Int) * 86400) = (t : Int) := wmul (b := 86400) ht (by omega)
  have hdn := day_n x hn
  rw [ht] at hdn
  simp -implicitDefEqProofs [w1]
  refine ACall.eq (c_split_s (t := t) (by omega)) ?_
  simp -implicitDefEqProofs
  refine AAlloc.intro fun b5 h5 => ?_
  have n52 : b5 ≠ b2 := by intro e; subst e; simp [Heap.set] at h5
  have n25 := n52.symm
  have e5 : H b5 = none := (HLe.set_fresh h2).none h5
  simp -implicitDefEqProofs [n25]
  refine ACall.eq (c_dayFits x hx (clk t)) ?_
  rw [hdn]
  simp -implicitDefEqProofs
  exact HWk.new e5 (HWk.new h2 (HWk.refl _))
def outAV (r : Option Nat) : AV := .tup [.sc (.int .i64 (optN r : Int)), .sc (.int .i64 (errN r : Int))]
end Go.Proofs.YtmoncokklkiikaaGreatDoor
namespace Go.Proofs.YtmoncokklkiikaaGreatDoor
open Rg Go Go.RowKit
variable {W0 w : World} {C : Com} {H : Heap}
def GlobT (H : Heap) : Prop := ∃ us, H 0 = some (.ro us) ∧ ∀ j, j < Lib.deBruijn64tab.length → us[j]? = some (.int .u8 (Lib.deBruijn64tab.getD j 0))
theorem GlobT.wk {H K : Heap} (h : GlobT H) (hk : HLe H K) : GlobT K := by
  obtain ⟨us, h1, h2⟩ := h
  exact ⟨us, hk _ _ h1, h2⟩
theorem GlobT.new {H : Heap} {b : Nat} {o : AObj} (h : GlobT H) (hb : H b = none) : GlobT (H.set b o) := h.wk (HLe.set_fresh hb)
theorem GlobT.tab (h : GlobT H) (hi : Inv W0 C H w) : TabAt 0 Lib.deBruijn64tab w := by
  obtain ⟨u, h1, g1⟩ := h
  exact fun j hj => hi.ro h1 (g1 j hj)
theorem c_ctz64T (hG : GlobT H) (x : Nat) (hx : x < 18446744073709551616) : AOk Tryz.prog 191 [.sc (.int .u64 x)] H (.sc (.int .i64 (Lib.ctz 64 x))) H :=
  AOk.kit (vs := [.int .u64 x]) (r := .int .i64 (Lib.ctz 64 x)) fun W0 C w hi => (Any7.bits_TrailingZeros64 Tryz.lays7x29 x hx w (fun _ => hG.tab hi)).mono fun e w' ⟨h1, h2⟩ => ⟨h1, h2 ▸ Below.refl _ _⟩
theorem c_firstT (hG : GlobT H) (f : Fld) (n : Int) (hf : f.bits < 18446744073709551616) : AOk Tryz.prog 152 [fAV f, .sc (.int .i64 n)] H (optAV (firstB f.bits n)) H := by
  rw [firstB_eq]
  have hmax : (if 0 < n then n else 0) = (n.toNat : Int) := by split <;> omega
  generalize n.toNat = m at *
  refine ACalls.into Tryz.func152 rfl Tryz.ntmps152 Tryz.results152 (by simp) ?_
  simp -implicitDefEqProofs [fAV]
  refine AAlloc.intro fun b hb => ?_
  by_cases h1 : 63 < m
  · have h1' : (63 : Int) < m := by omega
    simp -implicitDefEqProofs [hmax, h1, h1', optAV]
    exact HWk.new hb (HWk.refl _)
  · have h1' : ¬ (63 : Int) < m := by omega
    have hm : min m 64 = m := by omega
    have hsh := shr_lt m hf
    by_cases h2 : shr f.bits m = 0
    · simp -implicitDefEqProofs [hmax, h1, h1', hm, shr_nat, h2, optAV]
      exact HWk.new hb (HWk.refl _)
    · simp -implicitDefEqProofs [hmax, h1, h1', hm, shr_nat, h2]
      refine ACall.eq (c_ctz64T (hG.new hb) _ hsh) ?_
      have hc := ctz_le _ hsh
      have hw : IntKind.i64.wrap ((m : Int) + (Lib.ctz 64 (shr f.bits m) : Nat)) = ((m + Lib.ctz 64 (shr f.bits m) : Nat) : Int) := by rw [wrap_i64 (by omega) (by omega)]; push_cast; rfl
      simp -implicitDefEqProofs [hw, optAV]
      exact HWk.new hb (HWk.refl _)
def fromAV : Option Nat → AV
  | some n => .tup [.sc (.int .i64 (n : Int)), .sc (.bool true)]
  | none => .tup [.sc (.int .i64 0), .sc (.bool false)]
set_option maxHeartbeats 2000000 in
theorem c_from (hG : GlobT H) {x : Ex} (hx : x.ok) (hm : mayX x = true) {t T : Nat} (ht : t < 13569465600) (hT : t / 60 * 60 + 60 = T) {r : Option Nat} (hr : IsNext x t r) : AOk Tryz.prog 104 [exAV x, .sc (.int .i64 T)] H (fromAV r) H := by
  obtain ⟨n0, hn0⟩ : ∃ d, T / 86400 = d := ⟨_, rfl⟩
  obtain ⟨m0, hm0⟩ : ∃ d, T % 86400 = d := ⟨_, rfl⟩
  obtain ⟨m1, hm1⟩ : ∃ d, m0 / 60 = d := ⟨_, rfl⟩
  have hO := outN_init (x := x) ht
  rw [hT, hn0, hm0, hm1] at hO
  have hT2 : T < 13569465661 := by omega
  clear hT
  obtain ⟨hba, hbb⟩ := bits_ok hx hm
  have w1 : IntKind.i64.wrap ((T : Int) / 86400) = (n0 : Int) := wdiv (b := 86400) hn0 (by omega)
  have w2 : (T : Int).tmod 86400 = (m0 : Int) := wmod (b := 86400) hm0
  have w3 : IntKind.i64.wrap ((m0 : Int) / 60) = (m1 : Int) := wdiv (b := 60) hm1 (by omega)
  refine ACalls.into Tryz.func104 rfl Tryz.ntmps104 Tryz.results104 (by simp) ?_
  simp -implicitDefEqProofs
  refine AAlloc.intro fun b2 h2 => ?_
  simp -implicitDefEqProofs
  generalize hK : Heap.set _ b2 _ = K0
  have k2 : K0 b2 = some (.cells (exC x) 42) := by rw [← hK]; simp [Heap.set]
  have kG : GlobT K0 := by rw [← hK]; exact hG.new h2
  have kW : HWk H K0 := by rw [← hK]; exact HWk.new h2 (HWk.refl _)
  clear hK
  simp -implicitDefEqProofs [w1, w2, w3]
  refine AGo.rounds (fun m ρ K => ∃ (n mm : Nat), m = 157054 - n ∧ OutN x t n mm ∧ ρ 2 = .sc (.pointer (some ⟨b2, 0, none⟩)) ∧ ρ 6 = .sc (.int .i64 n) ∧ ρ 7 = .sc (.int .i64 mm) ∧ K b2 = some (.cells (exC x) 42) ∧ GlobT K ∧ HWk H K) ?_ (m := 157054 - n0) (HLe.refl _)
    ⟨n0, m1, rfl, hO, by simp, by simp, by simp, k2, kG, kW⟩
  clear kG kW k2 hO
  rintro m ρ K ih ⟨n, mm, rfl, hO, r2, r6, r7, k2, kG, kW⟩
  by_cases hn : n < 157054
  · have hnI : (n : Int) < 157054 := by omega
    have hmm : mm ≤ 1439 := hO.1
    have hoM := fun h => outN_month hO hn h
    have hcm := civ_month hn
    simp -implicitDefEqProofs [r6, hn, hnI]
    refine ACall.eq (c_of hn) ?_
    generalize civ n = cv at *
    obtain ⟨Y, M, Dd⟩ := cv
    simp only at hcm hoM
    simp -implicitDefEqProofs
    refine AAlloc.intro fun b9 h9 => ?_
    have n29 : b2 ≠ b9 := by intro e; subst e; rw [k2] at h9; cases h9
    have n92 := n29.symm
    simp -implicitDefEqProofs [r2, n29, n92, k2]
    generalize hK : Heap.set K b9 _ = K1
    have k21 : K1 b2 = some (.cells (exC x) 42) := by rw [← hK]; simp [Heap.set, n29, k2]
    have k9 : K1 b9 = some (.cells [.sc (.int .i64 Y), .sc (.int .i64 M), .sc (.int .i64 Dd)] 46) := by rw [← hK]; simp [Heap.set]
    have kG1 : GlobT K1 := by rw [← hK]; exact kG.new h9
    have kW1 : HWk H K1 := by rw [← hK]; exact HWk.new (kW.none h9) kW
    clear hK
    obtain ⟨nn, hnn⟩ : ∃ q, n + 1 = q := ⟨_, rfl⟩
    have w7 : IntKind.i64.wrap ((n : Int) + 1) = (nn : Int) := wadd (b := 1) hnn (by omega)
    refine ACall.eq (c_has x.d M hx.d) ?_
    cases hM : hasB x.d.bits M with
    | false =>
      have hlong : longI (Y : Int) (M : Int) = (mLong Y M : Int) := long_nat Y (by omega) (by omega)
      have hO' := hoM hM
      generalize mLong Y M = L at *
      obtain ⟨q1, hq1⟩ : ∃ q, L - Dd = q := ⟨_, rfl⟩
      obtain ⟨q2, hq2⟩ : ∃ q, n + q1 = q := ⟨_, rfl⟩
      obtain ⟨q3, hq3⟩ : ∃ q, q2 + 1 = q := ⟨_, rfl⟩
      have w4 : IntKind.i64.wrap ((L : Int) - (Dd : Int)) = (q1 : Int) := wsub hq1 (by omega) (by omega)
      have w5 : IntKind.i64.wrap ((n : Int) + (q1 : Int)) = (q2 : Int) := wadd hq2 (by omega)
      have w6 : IntKind.i64.wrap ((q2 : Int) + 1) = (q3 : Int) := wadd (b := 1) hq3 (by omega)
      rw [hq1, hq2, hq3] at hO'
      simp -implicitDefEqProofs
      refine go_draw 11 f_mixed (by decide +kernel) ?_
      simp -implicitDefEqProofs [r6, k9]
      refine AQS.eq (c_long (Y : Int) (M : Int)) ?_
      rw [hlong]
      simp -implicitDefEqProofs [r6, k9, w4, w5, w6]
      exact AGo.again ih (m' := 157054 - q3) (by omega) (HLe.refl _) ⟨q3, 0, rfl, hO', by simp [r2], by simp, by simp, k21, kG1, kW1⟩
    | true =>
      simp -implicitDefEqProofs [r2, r6, k21]
      refine ACall.eq (c_nfits x hx hn) ?_
      rw [hm]
      cases hdb : dayB x n with
      | false =>
        have hO' := outN_day hO hn hdb
        rw [hnn] at hO'
        simp -implicitDefEqProofs [r6, w7]
        exact AGo.again ih (m' := 157054 - nn) (by omega) (HLe.refl _) ⟨nn, 0, rfl, hO', by simp [r2], by simp, by simp, k21, kG1, kW1⟩
      | true =>
        obtain ⟨hh, hhh⟩ : ∃ q, mm / 60 = q := ⟨_, rfl⟩
        have w8 : IntKind.i64.wrap ((mm : Int) / 60) = (hh : Int) := wdiv (b := 60) hhh (by omega)
        have hI := inN_init hO hn hdb
        rw [hhh] at hI
        simp -implicitDefEqProofs [r7, w8]
        refine AGo.rounds (fun m ρ K => ∃ (h m2 : Nat), m = 25 - h ∧ InN x t n h (m2 % 60) ∧ m2 ≤ 1439 ∧ ρ 2 = .sc (.pointer (some ⟨b2, 0, none⟩)) ∧ ρ 6 = .sc (.int .i64 n) ∧ ρ 7 = .sc (.int .i64 m2) ∧ ρ 10 = .sc (.int .i64 h) ∧ K = K1) ?_ (m := 25 - hh) (HLe.refl _)
          ⟨hh, mm, rfl, hI, hmm, by simp [r2], by simp [r6], by simp [r7], by simp, rfl⟩
        clear hI hmm hO r2 r6 r7 hoM
        rintro m' ρ' K ih2 ⟨h, m2, rfl, hI, hm2, r2, r6, r7, r10, rfl⟩
        simp -implicitDefEqProofs [r10, r2, k21]
        refine ACall.eq (c_firstT kG1 x.b h hx.b) ?_
        cases htb : firstB x.b.bits (h : Int) with
        | none =>
          have hno := firstB_none hx.b htb
          have hO' := inN_none hI (fun j hj => by
            by_cases j64 : j ≤ 63
            · rw [has_bit j64]; exact hno j (by simpa using hj)
            · unfold hasB; rw [decide_eq_false (by omega : ¬ (j : Int) ≤ 63)]; simp)
          rw [hnn] at hO'
          simp -implicitDefEqProofs [optAV, r6, w7]
          exact AGo.again ih (m' := 157054 - nn) (by omega) (HLe.refl _) ⟨nn, 0, rfl, hO', by simp [r2], by simp, by simp, k21, kG1, kW1⟩
        | some h' =>
          obtain ⟨g1, g0, g2, g3⟩ := firstB_some hx.b htb
          simp only [Int.toNat_natCast] at g1 g3
          have g4 := hbb h' g2
          have g2' : hasB x.b.bits (h' : Int) = true := by rw [has_bit g0]; exact g2
          simp -implicitDefEqProofs [optAV, r10]
          refine ABr.join (fun ρ K' => K' = K ∧ ∃ m3 : Nat, m3 ≤ 1439 ∧ InN x t n h' (m3 % 60) ∧ ρ 2 = .sc (.pointer (some ⟨b2, 0, none⟩)) ∧ ρ 6 = .sc (.int .i64 n) ∧ ρ 7 = .sc (.int .i64 m3) ∧ ρ 10 = .sc (.int .i64 h')) (fun k' hk' => ?_) ?_
          · by_cases hlt : h < h'
            · have hlt' : (h : Int) < (h' : Int) := by omega
              simp -implicitDefEqProofs [hlt, hlt']
              exact hk' _ _ ⟨rfl, 0, by omega, inN_up hI hlt (by omega) (fun j j1 j2 => by rw [has_bit (by omega)]; exact g3 j j1 j2), by simp [r2], by simp [r6], by simp, by simp⟩
            · obtain rfl : h' = h := by omega
              simp -implicitDefEqProofs
              exact hk' _ _ ⟨rfl, m2, hm2, hI, by simp [r2], by simp [r6], by simp [r7], by simp [r10]⟩
          · clear r2 r6 r7 r10
            rintro ρ2 K' ⟨rfl, m3, hm3, hI3, r2, r6, r7, r10⟩
            obtain ⟨m4, hm4⟩ : ∃ q, m3 % 60 = q := ⟨_, rfl⟩
            have w9 : (m3 : Int).tmod 60 = (m4 : Int) := wmod (b := 60) hm4
            rw [hm4] at hI3
            have hm59 : m4 ≤ 59 := hI3.1
            simp -implicitDefEqProofs [r2, r7, k21, w9]
            refine ACall.eq (c_firstT kG1 x.a m4 hx.a) ?_
            cases hta : firstB x.a.bits (m4 : Int) with
            | none =>
              have hno := firstB_none hx.a hta
              obtain ⟨h2, hh2⟩ : ∃ q, h' + 1 = q := ⟨_, rfl⟩
              have w10 : IntKind.i64.wrap ((h' : Int) + 1) = (h2 : Int) := wadd (b := 1) hh2 (by omega)
              have hI' := inN_min hI3 (by omega) (fun j hj => by
                by_cases j64 : j ≤ 63
                · rw [has_bit j64]; exact hno j (by simpa using hj)
                · unfold hasB; rw [decide_eq_false (by omega : ¬ (j : Int) ≤ 63)]; simp)
              rw [hh2] at hI'
              simp -implicitDefEqProofs [optAV, r10, w10]
              exact AGo.again ih2 (m' := 25 - h2) (by omega) (HLe.refl _) ⟨h2, 0, rfl, hI', by omega, by simp [r2], by simp [r6], by simp, by simp, rfl⟩
            | some m5 =>
              obtain ⟨f1, f0, f2, f3⟩ := firstB_some hx.a hta
              simp only [Int.toNat_natCast] at f1 f3
              have f4 := hba m5 f2
              have f2' : hasB x.a.bits (m5 : Int) = true := by rw [has_bit f0]; exact f2
              obtain rfl := next_one hr (inN_found hm hI3 (by omega) g2' f2' f1 (by omega) (fun j j1 j2 => by rw [has_bit (by omega)]; exact f3 j j1 j2))
              obtain ⟨P1, hP1⟩ : ∃ q, n * 86400 = q := ⟨_, rfl⟩
              obtain ⟨P2, hP2⟩ : ∃ q, h' * 3600 = q := ⟨_, rfl⟩
              obtain ⟨P3, hP3⟩ : ∃ q, P1 + P2 = q := ⟨_, rfl⟩
              obtain ⟨P4, hP4⟩ : ∃ q, m5 * 60 = q := ⟨_, rfl⟩
              obtain ⟨P5, hP5⟩ : ∃ q, P3 + P4 = q := ⟨_, rfl⟩
              have v1 : IntKind.i64.wrap ((n : Int) * 86400) = (P1 : Int) := wmul (b := 86400) hP1 (by omega)
              have v2 : IntKind.i64.wrap ((h' : Int) * 3600) = (P2 : Int) := wmul (b := 3600) hP2 (by omega)
              have v3 : IntKind.i64.wrap ((P1 : Int) + (P2 : Int)) = (P3 : Int) := wadd hP3 (by omega)
              have v4 : IntKind.i64.wrap ((m5 : Int) * 60) = (P4 : Int) := wmul (b := 60) hP4 (by omega)
              have v5 : IntKind.i64.wrap ((P3 : Int) + (P4 : Int)) = (P5 : Int) := wadd hP5 (by omega)
              rw [hP1, hP2, hP3, hP4, hP5]
              simp -implicitDefEqProofs [optAV, r6, r10, v1, v2, v3, v4, v5, fromAV]
              exact kW1
  · obtain rfl : n = 157054 := by have := hO.2.1; omega
    obtain rfl := next_one hr (outN_end hO)
    simp -implicitDefEqProofs [r6, fromAV]
    exact kW
theorem badE_ok {x : Ex} (hm : mayX x = true) {t : Nat} (ht : t < 13569465600) : badE x (t : Int) = 0 := by
  unfold badE
  rw [if_neg (by simp [hm]), if_neg (by omega)]
theorem c_after (hG : GlobT H) {x : Ex} (hx : x.ok) (hm : mayX x = true) {t : Nat} (ht : t < 13569465600) {r : Option Nat} (hr : IsNext x t r) : AOk Tryz.prog 32 [exAV x, .sc (.int .i64 t)] H (outAV r) H := by
  obtain ⟨q, hq⟩ : ∃ q, t % 60 = q := ⟨_, rfl⟩
  obtain ⟨z, hz⟩ : ∃ q, t / 60 * 60 = q := ⟨_, rfl⟩
  obtain ⟨T, hT⟩ : ∃ q, z + 60 = q := ⟨_, rfl⟩
  have w1 : (t : Int).tmod 60 = (q : Int) := wmod (b := 60) hq
  have w2 : IntKind.i64.wrap ((t : Int) - (q : Int)) = (z : Int) := wsub (by omega) (by omega) (by omega)
  have w3 : IntKind.i64.wrap ((z : Int) + 60) = (T : Int) := wadd (b := 60) hT (by omega)
  have hf := fun (K : Heap) (kG : GlobT K) => c_from kG hx hm ht (T := T) (by omega) hr
  refine ACalls.into Tryz.func32 rfl Tryz.ntmps32 Tryz.results32 (by simp) ?_
  simp -implicitDefEqProofs
  refine AAlloc.intro fun b2 h2 => ?_
  have kG := fun o => hG.new (o := o) h2
  simp -implicitDefEqProofs
  refine ACall.eq (c_nmay x hx t) ?_
  rw [badE_ok hm ht]
  simp -implicitDefEqProofs [w1, w2, w3]
  refine ACall.eq (hf _ (kG _)) ?_
  cases r with
  | none =>
    simp -implicitDefEqProofs [fromAV, outAV, optN, errN]
    exact HWk.new h2 (HWk.refl _)
  | some n =>
    simp -implicitDefEqProofs [fromAV, outAV, optN, errN]
    exact HWk.new h2 (HWk.refl _)
end Go.Proofs.YtmoncokklkiikaaGreatDoor
namespace Go.Proofs.YtmoncokklkiikaaGreatDoor
open Rg Go
theorem i64_lies (z : Int) : (i64 z).lies = true := rfl
theorem i64_cells (z : Int) : (i64 z).cells = [i64 z] := rfl
variable {H : Heap}
def Turned (L M : List Int) (i : Nat) : Prop :=
  M.length = L.length ∧ ∀ k, k < L.length → M[k]? = if k < i ∨ L.length ≤ k + i then L[L.length - 1 - k]? else L[k]?
theorem Turned.zero (L : List Int) : Turned L L 0 := ⟨rfl, fun k hk => by rw [if_neg (by omega)]⟩
theorem Turned.step {L M : List Int} {i j : Nat} (h : Turned L M i) (hij : i < j) (hj : i + j + 1 = L.length) {x y : Int} (hx : M[i]? = some x) (hy : M[j]? = some y) : Turned L ((M.set i y).set j x) (i + 1) := by
  refine ⟨by simp [h.1], fun k hk => ?_⟩
  have hM := h.1
  have hi := h.2 i (by omega)
  have hj' := h.2 j (by omega)
  rw [if_neg (by omega), hx] at hi
  rw [if_neg (by omega), hy] at hj'
  by_cases k1 : k = j
  · subst k1
    rw [List.getElem?_set_self (by simp; omega), if_pos (by omega), show L.length - 1 - k = i by omega, hi]
  · rw [List.getElem?_set_ne (by omega)]
    by_cases k2 : k = i
    · subst k2
      rw [List.getElem?_set_self (by omega), if_pos (by omega), show L.length - 1 - k = j by omega, hj']
    · rw [List.getElem?_set_ne (by omega), h.2 k hk]
      by_cases k3 : k < i ∨ L.length ≤ k + i
      · rw [if_pos k3, if_pos (by omega)]
      · rw [if_neg k3, if_neg (by omega)]
theorem Turned.fin {L M : List Int} {i : Nat} (h : Turned L M i) (hi : L.length ≤ 2 * i + 1) : M = L.reverse := by
  apply List.ext_getElem?
  intro k
  by_cases hk : k < L.length
  · rw [h.2 k hk, List.getElem?_reverse hk]
    by_cases h2 : k < i ∨ L.length ≤ k + i
    · rw [if_pos h2]
    · rw [if_neg h2, show L.length - 1 - k = k by omega]
  · rw [List.getElem?_eq_none (by rw [h.1]; omega), List.getElem?_eq_none (by simp; omega)]
end Go.Proofs.YtmoncokklkiikaaGreatDoor
namespace Go.Proofs.YtmoncokklkiikaaGreatDoor
open Rg Go
variable {H : Heap}
end Go.Proofs.YtmoncokklkiikaaGreatDoor
namespace Go.Proofs.YtmoncokklkiikaaGreatDoor
open Rg Go
variable {H : Heap}
theorem getAt {α : Type} {L : List α} {i : Nat} (h : i < L.length) : ∃ e, L[i] = e ∧ L[i]? = some e := ⟨_, rfl, List.getElem?_eq_getElem h⟩
end Go.Proofs.YtmoncokklkiikaaGreatDoor
namespace Go.Proofs.YtmoncokklkiikaaGreatDoor
open Rg Go
variable {H : Heap}
abbrev chAV (c : Int × Int) : AV := .agg [.sc (.int .i64 c.1), .sc (.int .i64 c.2)]
abbrev zC (z : Zn) (t : Rg.Tok) : List AV := [.sc (.int .i64 z.first), .sl (z.l.map chAV) t]
abbrev zAV (z : Zn) (t : Rg.Tok) : AV := .agg (zC z t)
theorem szs_ch (l : List (Int × Int)) : szs 2 (l.map chAV) = true := szs_map (f := chAV) (fun _ => rfl) l
theorem tmod60 (n : Int) : (n.tmod 60 = 0) ↔ n % 60 = 0 := by
  rw [← Int.dvd_iff_tmod_eq_zero, ← Int.dvd_iff_emod_eq_zero]
theorem c_zOffset (n : Int) : AOk Tryz.prog 105 [.sc (.int .i64 n)] H (.sc (.bool (offOk n))) H := by
  have e := tmod60 n
  unfold offOk
  refine ACalls.into Tryz.func105 rfl Tryz.ntmps105 Tryz.results105 (by simp) ?_
  by_cases h1 : n % 60 = 0
  · have h1' : n.tmod 60 = 0 := e.2 h1
    by_cases h2 : -50400 ≤ n
    · simp -implicitDefEqProofs [h1, h1', h2]
    · simp -implicitDefEqProofs [h1, h1', h2]
  · have h1' : ¬ n.tmod 60 = 0 := fun h => h1 (e.1 h)
    simp -implicitDefEqProofs [h1, h1']
def momOk (t : Int) : Bool := decide (0 ≤ t) && decide (t < 13569465600)
theorem c_zMoment (t : Int) : AOk Tryz.prog 98 [.sc (.int .i64 t)] H (.sc (.bool (momOk t))) H := by
  unfold momOk
  refine ACalls.into Tryz.func98 rfl Tryz.ntmps98 Tryz.results98 (by simp) ?_
  by_cases h1 : 0 ≤ t
  · simp -implicitDefEqProofs [h1]
  · simp -implicitDefEqProofs [h1]
set_option maxHeartbeats 1000000 in
theorem c_zAt (z : Zn) (t : Rg.Tok) (m : Int) (hz : z.l.length ≤ 1000000) : AOk Tryz.prog 106 [zAV z t, .sc (.int .i64 m)] H (.sc (.int .i64 (atZ z m))) H := by
  unfold atZ
  refine ACalls.into Tryz.func106 rfl Tryz.ntmps106 Tryz.results106 (by simp) ?_
  simp -implicitDefEqProofs
  refine AAlloc.intro fun b1 h1 => ?_
  simp -implicitDefEqProofs
  generalize hK : Heap.set _ b1 _ = K
  have kW : HLe H K := by rw [← hK]; exact HLe.set_fresh h1
  clear hK
  refine AGo.rounds (fun mm ρ K2 => ∃ i f, mm = z.l.length - i ∧ i ≤ z.l.length ∧ atL f (z.l.drop i) m = atL z.first z.l m ∧ ρ 5 = .sc (.int .i64 f) ∧ ρ 13 = .sc (.int .i64 (i : Int)) ∧ ρ 1 = .sc (.int .i64 m) ∧ ρ 11 = .sl (z.l.map chAV) t ∧ ρ 12 = .sc (.int .i64 (z.l.length : Int)) ∧ K2 = K) ?_ (m := z.l.length) (HLe.refl _)
    ⟨0, z.first, rfl, by omega, rfl, by simp, by simp, by simp, by simp, by simp, rfl⟩
  rintro mm ρ K2 ih ⟨i, f, rfl, hi, hat, r5, r13, r1, r11, r12, rfl⟩
  rcases Nat.lt_or_ge i z.l.length with hlt | hge
  · obtain ⟨c, hej, hc⟩ := getAt hlt
    have hlt' : (i : Int) < (z.l.length : Int) := by omega
    have hw1 : IntKind.i64.wrap ((i : Int) + 1) = (i : Int) + 1 := wrap_i64 (by omega) (by omega)
    have hd : z.l.drop i = (c.1, c.2) :: z.l.drop (i + 1) := by rw [List.drop_eq_getElem_cons hlt, hej]
    rw [hd] at hat
    simp only [atL] at hat
    simp -implicitDefEqProofs [r5, r13, r1, r11, r12, hlt, hlt', hej]
    refine AAlloc.intro fun b7 h7 => ?_
    by_cases hm : m < c.1
    · rw [if_pos hm] at hat
      simp -implicitDefEqProofs [r5, r13, r1, r11, r12, hm]
      rw [← hat]
      exact ⟨rfl, (HLe.set_new kW (kW.none h7)).wk⟩
    · rw [if_neg hm] at hat
      simp -implicitDefEqProofs [r5, r13, r1, r11, r12, hm, hw1]
      exact AGo.again ih (m' := z.l.length - (i + 1)) (by omega) (HLe.set_fresh h7) ⟨i + 1, c.2, rfl, by omega, hat, by simp, by simp, by simp [r1], by simp [r11], by simp [r12], rfl⟩
  · have hn : ¬ (i : Int) < (z.l.length : Int) := by omega
    have hn' : ¬ i < z.l.length := by omega
    rw [List.drop_of_length_le hge] at hat
    simp only [atL] at hat
    simp -implicitDefEqProofs [r5, r13, r1, r11, r12, hn, hn', hat]
    exact kW.wk
set_option maxHeartbeats 4000000 in
theorem c_zMay (z : Zn) (t : Rg.Tok) : AOk Tryz.prog 33 [zAV z t] H (.sc (.bool (mayZ z))) H := by
  refine ACalls.into Tryz.func33 rfl Tryz.ntmps33 Tryz.results33 (by simp) ?_
  simp -implicitDefEqProofs
  refine AAlloc.intro fun b1 h1 => ?_
  simp -implicitDefEqProofs
  generalize hK : Heap.set _ b1 _ = K1
  have k1 : K1 b1 = some (.cells (zC z t) 55) := by rw [← hK]; simp [Heap.set]
  have kW : HLe H K1 := by rw [← hK]; exact HLe.set_fresh h1
  clear hK
  refine ACall.eq (c_zOffset _) ?_
  cases h0 : offOk z.first with
  | false =>
    have hr : mayZ z = false := by simp [mayZ, h0]
    rw [hr]
    simp -implicitDefEqProofs [k1]
    exact kW.wk
  | true =>
    by_cases hl : 64 < z.l.length
    · have hl' : (64 : Int) < (z.l.length : Int) := by omega
      have hr : mayZ z = false := by simp [mayZ, h0]; omega
      rw [hr]
      simp -implicitDefEqProofs [k1, hl, hl']
      exact kW.wk
    · have hl' : ¬ (64 : Int) < (z.l.length : Int) := by omega
      have hr : mayZ z = mayL none z.l := by simp [mayZ, h0]; omega
      rw [hr]
      simp -implicitDefEqProofs [k1, hl, hl']
      refine AGo.rounds (fun mm ρ K2 => ∃ (i : Nat) (p : Option Int), mm = z.l.length - i ∧ i ≤ z.l.length ∧ mayL p (z.l.drop i) = mayL none z.l ∧ (i = 0 ∧ p = none ∨ ∃ (j : Nat) (d : Int × Int), i = j + 1 ∧ z.l[j]? = some d ∧ p = some d.1 ∧ 0 ≤ d.1 ∧ d.1 < 13569465600) ∧
        ρ 1 = .sc (.pointer (some ⟨b1, 0, none⟩)) ∧ ρ 16 = .sl (z.l.map chAV) t ∧ ρ 17 = .sc (.int .i64 (z.l.length : Int)) ∧ ρ 18 = .sc (.int .i64 (i : Int)) ∧ K2 = K1) ?_ (m := z.l.length) (HLe.refl _)
        ⟨0, none, rfl, by omega, rfl, .inl ⟨rfl, rfl⟩, by simp, by simp, by simp, by simp, rfl⟩
      rintro mm ρ K2 ih ⟨i, p, rfl, hi, hat, hp, r1, r16, r17, r18, rfl⟩
      rcases Nat.lt_or_ge i z.l.length with hlt | hge
      · obtain ⟨c, hej, hc⟩ := getAt hlt
        have hlt' : (i : Int) < (z.l.length : Int) := by omega
        have hw1 : IntKind.i64.wrap ((i : Int) + 1) = (i : Int) + 1 := wrap_i64 (by omega) (by omega)
        have hd : z.l.drop i = (c.1, c.2) :: z.l.drop (i + 1) := by rw [List.drop_eq_getElem_cons hlt, hej]
        rw [hd] at hat
        simp -implicitDefEqProofs [r1, r16, r17, r18, hlt, hlt', hej]
        refine AAlloc.intro fun b4 h4 => ?_
        have n14 : b1 ≠ b4 := by intro e; subst e; rw [k1] at h4; cases h4
        have kW4 : ∀ o, HWk H (K2.set b4 o) := fun o => HWk.new (kW.none h4) kW.wk
        simp -implicitDefEqProofs [r1, r16, r17, r18]
        have hm60 := tmod60 c.1
        cases ho : offOk c.2 with
        | false =>
          have hr2 : mayL none z.l = false := by rw [← hat]; simp [mayL, ho]
          rw [hr2]
          refine go_draw 33 f_mixed (by decide +kernel) ?_
          simp -implicitDefEqProofs [n14]
          refine AQS.eq (c_zOffset _) ?_
          rw [ho]
          simp -implicitDefEqProofs
          exact kW4 _
        | true =>
          cases hk : momOk c.1 with
          | false =>
            have hr2 : mayL none z.l = false := by
              rw [← hat]
              unfold momOk at hk
              simp only [Bool.and_eq_false_iff, decide_eq_false_iff_not] at hk
              cases hq : mayL p ((c.1, c.2) :: z.l.drop (i + 1)) with
              | false => rfl
              | true => rw [mayL_cons] at hq; omega
            rw [hr2]
            refine go_draw 33 f_mixed (by decide +kernel) ?_
            simp -implicitDefEqProofs [n14]
            refine AQS.eq (c_zOffset _) ?_
            rw [ho]
            simp -implicitDefEqProofs
            refine AQS.eq (c_zMoment _) ?_
            rw [hk]
            simp -implicitDefEqProofs
            exact kW4 _
          | true =>
            have hk' : 0 ≤ c.1 ∧ c.1 < 13569465600 := by simpa [momOk] using hk
            by_cases h60 : c.1 % 60 = 0
            · have h60' := hm60.2 h60
              rcases hp with ⟨rfl, rfl⟩ | ⟨j, d, hij, hjd, rfl, hd0, hd1⟩
              · have hnx : mayL (some c.1) (z.l.drop (0 + 1)) = mayL none z.l := by
                  rw [← hat]; simp [mayL, ho, hk', h60]
                refine go_draw 33 f_mixed (by decide +kernel) ?_
                simp -implicitDefEqProofs [n14]
                refine AQS.eq (c_zOffset _) ?_
                rw [ho]
                simp -implicitDefEqProofs
                refine AQS.eq (c_zMoment _) ?_
                rw [hk]
                simp -implicitDefEqProofs [h60', r18, wrap_i64]
                refine AGo.again ih (m' := z.l.length - (0 + 1)) (by omega) (HLe.set_fresh h4) ?_
                exact ⟨0 + 1, some c.1, rfl, by omega, hnx, .inr ⟨0, c, rfl, by rw [List.getElem?_eq_getElem hlt, hej], rfl, hk'.1, hk'.2⟩, by simp [r1], by simp [r16], by simp [r17], by simp, rfl⟩
              · have hjl : j < z.l.length := by omega
                have hjd' : z.l[j] = d := by rw [List.getElem?_eq_getElem hjl] at hjd; exact Option.some.inj hjd
                have hw2 : IntKind.i64.wrap ((i : Int) - 1) = (j : Int) := by rw [wrap_i64 (by omega) (by omega)]; omega
                have hw3 : IntKind.i64.wrap (c.1 - d.1) = c.1 - d.1 := wrap_i64 (by omega) (by omega)
                have hi0 : 0 < i := by omega
                have hi0' : (0 : Int) < (i : Int) := by omega
                by_cases hap : c.1 - d.1 < 172800
                · have hr2 : mayL none z.l = false := by
                    rw [← hat]; simp [mayL, ho, hk', h60]; omega
                  rw [hr2]
                  refine go_draw 33 f_mixed (by decide +kernel) ?_
                  simp -implicitDefEqProofs [n14]
                  refine AQS.eq (c_zOffset _) ?_
                  rw [ho]
                  simp -implicitDefEqProofs
                  refine AQS.eq (c_zMoment _) ?_
                  rw [hk]
                  simp -implicitDefEqProofs [h60', hi0, hi0', n14, k1, hw2, hjl, hjd', hw3, hap, r1, r18]
                  exact kW4 _
                · have hnx : mayL (some c.1) (z.l.drop (i + 1)) = mayL none z.l := by
                    have : d.1 + 172800 ≤ c.1 := by omega
                    rw [← hat]; simp [mayL, ho, hk', h60, this]
                  refine go_draw 33 f_mixed (by decide +kernel) ?_
                  simp -implicitDefEqProofs [n14]
                  refine AQS.eq (c_zOffset _) ?_
                  rw [ho]
                  simp -implicitDefEqProofs
                  refine AQS.eq (c_zMoment _) ?_
                  rw [hk]
                  simp -implicitDefEqProofs [h60', hi0, hi0', n14, k1, hw2, hjl, hjd', hw3, hap, r1, r18, hw1]
                  refine AGo.again ih (m' := z.l.length - (i + 1)) (by omega) (HLe.set_fresh h4) ?_
                  exact ⟨i + 1, some c.1, rfl, by omega, hnx, .inr ⟨i, c, rfl, by rw [List.getElem?_eq_getElem hlt, hej], rfl, hk'.1, hk'.2⟩, by simp [r1], by simp [r16], by simp [r17], by simp [hw1], rfl⟩
            · have h60' : ¬ c.1.tmod 60 = 0 := fun h => h60 (hm60.1 h)
              have hr2 : mayL none z.l = false := by rw [← hat]; simp [mayL, h60]
              rw [hr2]
              refine go_draw 33 f_mixed (by decide +kernel) ?_
              simp -implicitDefEqProofs [n14]
              refine AQS.eq (c_zOffset _) ?_
              rw [ho]
              simp -implicitDefEqProofs
              refine AQS.eq (c_zMoment _) ?_
              rw [hk]
              simp -implicitDefEqProofs [h60']
              exact kW4 _
      · have hn : ¬ (i : Int) < (z.l.length : Int) := by omega
        have hn' : ¬ i < z.l.length := by omega
        rw [List.drop_of_length_le hge] at hat
        simp only [mayL] at hat
        rw [← hat]
        simp -implicitDefEqProofs [r17, r18, hn, hn']
        exact kW.wk
end Go.Proofs.YtmoncokklkiikaaGreatDoor
namespace Go.Proofs.YtmoncokklkiikaaGreatDoor
open Rg Go
variable {H : Heap}
def offsetZ (z : Zn) (m : Int) : Int := if mayZ z = true then atZ z m else 0
theorem z_len {z : Zn} (h : mayZ z = true) : z.l.length ≤ 64 := by
  simp only [mayZ, Bool.and_eq_true, decide_eq_true_eq] at h
  exact h.1.2
theorem c_zOffsetAt (z : Zn) (t : Rg.Tok) (m : Int) : AOk Tryz.prog 38 [zAV z t, .sc (.int .i64 m)] H (.sc (.int .i64 (offsetZ z m))) H := by
  unfold offsetZ
  refine ACalls.into Tryz.func38 rfl Tryz.ntmps38 Tryz.results38 (by simp) ?_
  simp -implicitDefEqProofs
  refine AAlloc.intro fun b1 h1 => ?_
  have kW : ∀ o, HWk H (H.set b1 o) := fun o => HWk.new h1 (HWk.refl _)
  simp -implicitDefEqProofs
  refine ACall.eq (c_zMay z t) ?_
  cases h : mayZ z with
  | false =>
    simp -implicitDefEqProofs
    exact kW _
  | true =>
    simp -implicitDefEqProofs
    refine ACall.eq (c_zAt z t m (by have := z_len h; omega)) ?_
    simp -implicitDefEqProofs
    exact kW _
def momI (c : Clk) : Int := if mayC c = true then (momC c.y.toNat c.m.toNat c.d.toNat c.h.toNat c.mi.toNat c.s.toNat : Nat) else 0
def joinE (c : Clk) : Int := if mayC c = true then 0 else 2
theorem mayC_cases {c : Clk} (h : mayC c = true) : ∃ Y M D hh mi s : Nat, c = ⟨Y, M, D, hh, mi, s, (((daysN Y M D + 4) % 7 : Nat) : Int)⟩ ∧ mayD (Y : Int) (M : Int) (D : Int) = true ∧ hh ≤ 23 ∧ mi ≤ 59 ∧ s ≤ 59 := by
  obtain ⟨y, m, d, h', mi, s, w⟩ := c
  simp only [mayC, Bool.and_eq_true, decide_eq_true_eq] at h
  obtain ⟨⟨⟨⟨⟨⟨⟨h1, h2⟩, h3⟩, h4⟩, h5⟩, h6⟩, hd⟩, hw⟩ := h
  obtain ⟨i, dd, hi, hdd, e1, e2, e3⟩ := mayD_in hd
  generalize 1970 + i / 12 = Y at e1
  generalize i % 12 + 1 = M at e2
  generalize dd + 1 = D at e3
  subst e1 e2 e3
  obtain ⟨h', rfl⟩ := Int.eq_ofNat_of_zero_le h1
  obtain ⟨mi, rfl⟩ := Int.eq_ofNat_of_zero_le h3
  obtain ⟨s, rfl⟩ := Int.eq_ofNat_of_zero_le h5
  exact ⟨Y, M, D, h', mi, s, by rw [hw]; rfl, hd, by omega, by omega, by omega⟩
theorem momI_lt (c : Clk) : 0 ≤ momI c ∧ momI c < 13569465600 := by
  unfold momI
  split
  · rename_i h
    obtain ⟨Y, M, D, hh, mi, s, rfl, hd, h1, h2, h3⟩ := mayC_cases h
    have := (clk_mom hd h1 h2 h3).1
    simp only [Int.toNat_natCast]
    omega
  · omega
theorem momI_clk {t : Nat} (h : t < 13569465600) : momI (clk t) = (t : Int) := by
  unfold momI
  rw [if_pos (mayC_clk h)]
  obtain ⟨i, d, hi, hd, hn⟩ := day_of (n := t / 86400) (by omega)
  have hc := civ_at hi hd
  rw [← hn] at hc
  unfold clk momC
  rw [hc]
  simp only [Int.toNat_natCast, days_of, ← hn]
  omega
theorem c_sJoin (c : Clk) : AOk Tryz.prog 107 [cAV c] H (.tup [.sc (.int .i64 (momI c)), .sc (.int .i64 (joinE c))]) H := by
  unfold momI joinE
  refine ACalls.into Tryz.func107 rfl Tryz.ntmps107 Tryz.results107 (by simp) ?_
  simp -implicitDefEqProofs
  refine AAlloc.intro fun b1 h1 => ?_
  have kW : ∀ o, HWk H (H.set b1 o) := fun o => HWk.new h1 (HWk.refl _)
  simp -implicitDefEqProofs
  refine ACall.eq (c_smay c) ?_
  cases h : mayC c with
  | false =>
    simp -implicitDefEqProofs
    exact kW _
  | true =>
    obtain ⟨Y, M, D, hh, mi, s, rfl, hd, g1, g2, g3⟩ := mayC_cases h
    simp -implicitDefEqProofs
    refine ACall.eq (c_moment hd g1 g2 g3) ?_
    simp -implicitDefEqProofs
    exact kW _
theorem momOk_iff {t : Int} : momOk t = true ↔ 0 ≤ t ∧ t < 13569465600 := by simp [momOk]
set_option maxHeartbeats 1000000 in
theorem c_zOffsets (z : Zn) (t : Rg.Tok) (hz : z.l.length ≤ 1000000) : AOk Tryz.prog 154 [zAV z t] H (.sl (z.l.map fun c => i64 c.2) .no) H := by
  refine ACalls.into Tryz.func154 rfl Tryz.ntmps154 Tryz.results154 (by simp) ?_
  simp -implicitDefEqProofs
  refine AAlloc.intro fun b1 h1 => ?_
  simp -implicitDefEqProofs
  generalize hK : Heap.set _ b1 _ = K
  have kW : HLe H K := by rw [← hK]; exact HLe.set_fresh h1
  clear hK
  refine AGo.rounds (fun mm ρ K2 => ∃ (i : Nat) (tk : Rg.Tok), mm = z.l.length - i ∧ i ≤ z.l.length ∧ ρ 3 = .sl ((z.l.map fun c => i64 c.2).take i) tk ∧ ρ 9 = .sc (.int .i64 (i : Int)) ∧ ρ 7 = .sl (z.l.map chAV) t ∧ ρ 8 = .sc (.int .i64 (z.l.length : Int)) ∧ Grows K ((z.l.map fun c => i64 c.2).take i) 1 3 tk K2) ?_ (m := z.l.length) (HLe.refl _)
    ⟨0, .nil, by omega, by omega, by simp, by simp, by simp, by simp, Grows.zero⟩
  rintro mm ρ K2 ih ⟨i, tk, rfl, hi, r3, r9, r7, r8, hg⟩
  rcases Nat.lt_or_ge i z.l.length with hlt | hge
  · obtain ⟨c, hej, hc⟩ := getAt hlt
    have hlt' : (i : Int) < (z.l.length : Int) := by omega
    have hw1 : IntKind.i64.wrap ((i : Int) + 1) = (i : Int) + 1 := wrap_i64 (by omega) (by omega)
    have hlen : ((z.l.map fun c => i64 c.2).take i).length = i := by simp; omega
    have hd : (z.l.map fun c => i64 c.2).take (i + 1) = (z.l.map fun c => i64 c.2).take i ++ [i64 c.2] := by
      rw [List.take_succ_eq_append_getElem (by simpa using hlt)]; simp [hej]
    obtain ⟨xs, hxs⟩ : ∃ xs, (z.l.map fun c => i64 c.2).take i = xs := ⟨_, rfl⟩
    have hsz : szs 1 xs = true := by
      rw [← hxs]
      simp only [szs, List.all_eq_true]
      intro a ha
      obtain ⟨c, _, rfl⟩ := List.mem_map.1 (List.mem_of_mem_take ha)
      rfl
    rw [hxs] at r3 hg hlen hd
    simp -implicitDefEqProofs [r3, r9, r7, r8, hlt, hlt', hej]
    refine AAlloc.intro fun b5 h5 => ?_
    simp -implicitDefEqProofs [r3, r9, r7, r8]
    refine AApp.grows el_106 hg (HLe.set_fresh h5) (by simp) hsz (by simp [szs]) (by simp; omega) (by simp [maxLen]; omega) fun t' K' Hn hg' hl' => ?_
    simp -implicitDefEqProofs [r9, hw1]
    refine AGo.again ih (m' := z.l.length - (i + 1)) (by omega) hl' ?_
    refine ⟨i + 1, t', rfl, by omega, by simp; exact hd.symm, by simp, by simp [r7], by simp [r8], ?_⟩
    rw [hd]
    exact hg'
  · have hn : ¬ (i : Int) < (z.l.length : Int) := by omega
    have hn' : ¬ i < z.l.length := by omega
    have hd : (z.l.map fun c => i64 c.2).take i = z.l.map fun c => i64 c.2 := List.take_of_length_le (by simpa using hge)
    rw [hd] at r3 hg
    simp -implicitDefEqProofs [r3, r9, r8, hn, hn']
    exact (kW.trans hg.le).wk
def idxI (x : Int) : List Int → Nat → Int
  | [], _ => -1
  | y :: r, i => if x = y then (i : Int) else idxI x r (i + 1)
theorem idxI_iff (x : Int) : ∀ (L : List Int) (i : Nat), 0 ≤ idxI x L i ↔ x ∈ L
  | [], i => by simp [idxI]
  | y :: r, i => by
    unfold idxI
    split
    · rename_i h; simp [h]
    · rename_i h; rw [idxI_iff x r (i + 1)]; simp [h]
theorem c_index64 {H0 : Heap} {L : List Int} {v : AV} (x : Int) (hR : RawRow H0 2 (L.map i64) v H) (hL : L.length ≤ 1000000) :
    AOk Tryz.prog 193 [v, .sc (.int .i64 x)] H (.sc (.int .i64 (idxI x L 0))) H := by
  obtain ⟨A, cap, rfl⟩ := hR.form
  rw [List.length_map] at hR ⊢
  generalize hk0 : idxI x L 0 = k0
  refine ACalls.into Tryz.func193 rfl Tryz.ntmps193 Tryz.results193 (by simp) ?_
  simp -implicitDefEqProofs
  refine AGo.rounds (fun mm ρ K2 => ∃ (i : Nat), mm = L.length - i ∧ i ≤ L.length ∧ idxI x (L.drop i) i = k0 ∧ ρ 0 = .sc (.slice A L.length cap) ∧ ρ 1 = .sc (.int .i64 x) ∧ ρ 7 = .sc (.int .i64 (L.length : Int)) ∧ ρ 8 = .sc (.int .i64 (i : Int)) ∧ K2 = H) ?_ (m := L.length) (HLe.refl _)
    ⟨0, by omega, by omega, hk0, by simp, by simp, by simp, by simp, rfl⟩
  rintro mm ρ K2 ih ⟨i, rfl, hi, hx, r0, r1, r7, r8, rfl⟩
  rcases Nat.lt_or_ge i L.length with hlt | hge
  · obtain ⟨y, hy, _⟩ := getAt hlt
    have hw1 : IntKind.i64.wrap ((i : Int) + 1) = (i : Int) + 1 := wrap_i64 (by omega) (by omega)
    rw [List.drop_eq_getElem_cons hlt, hy] at hx
    unfold idxI at hx
    rcases hR.2 with ⟨h1, _⟩ | ⟨g, zs, hg0, hv, hKg, hKm⟩
    · have : L = [] := by simpa using h1
      subst this
      simp at hlt
    · simp only [AV.sc.injEq, Value.slice.injEq, List.length_map] at hv
      obtain ⟨rfl, _, rfl⟩ := hv
      have cx : (L.map i64 ++ zs)[i]? = some (i64 y) := by rw [List.getElem?_append_left (by simp; omega), List.getElem?_map, List.getElem?_eq_getElem hlt, hy]; rfl
      by_cases hxy : x = y
      · rw [if_pos hxy] at hx
        rw [← hx]
        subst hxy
        simp -implicitDefEqProofs [r0, r1, r7, r8, hlt, hKg, cx, i64]
      · rw [if_neg hxy] at hx
        simp -implicitDefEqProofs [r0, r1, r7, r8, hlt, hKg, cx, i64, hxy, hw1]
        refine AGo.again ih (m' := L.length - (i + 1)) (by omega) (HLe.refl _) ⟨i + 1, rfl, by omega, hx, by simp [r0], by simp [r1], by simp [r7], by simp, rfl⟩
  · have hn' : ¬ i < L.length := by omega
    rw [List.drop_of_length_le hge] at hx
    rw [← hx]
    simp -implicitDefEqProofs [r7, r8, hn', idxI]
theorem c_contains64 {H0 : Heap} {L : List Int} {v : AV} (x : Int) (hR : RawRow H0 2 (L.map i64) v H) (hL : L.length ≤ 1000000) :
    AOk Tryz.prog 155 [v, .sc (.int .i64 x)] H (.sc (.bool (decide (x ∈ L)))) H := by
  refine ACalls.into Tryz.func155 rfl Tryz.ntmps155 Tryz.results155 (by simp) ?_
  have hc := c_index64 x hR hL
  have he := idxI_iff x L 0
  generalize idxI x L 0 = k at hc he
  simp -implicitDefEqProofs
  refine ACall.eq hc ?_
  by_cases h : x ∈ L
  · simp -implicitDefEqProofs [h, he.2 h]
  · have : k < 0 := by have := mt he.1 h; omega
    simp -implicitDefEqProofs [h, this]
end Go.Proofs.YtmoncokklkiikaaGreatDoor
namespace Go.Proofs.YtmoncokklkiikaaGreatDoor
open Rg Go
variable {H : Heap}
theorem c_less64 (x y : Int) : AOk Tryz.prog 229 [.sc (.int .i64 x), .sc (.int .i64 y)] H (.sc (.bool (decide (x < y)))) H := by
  have hn : ∀ x, AOk Tryz.prog 265 [.sc (.int .i64 x)] H (.sc (.bool false)) H := fun x => by
    refine ACalls.into Tryz.func265 rfl Tryz.ntmps265 Tryz.results265 (by simp) ?_
    simp -implicitDefEqProofs
  refine ACalls.into Tryz.func229 rfl Tryz.ntmps229 Tryz.results229 (by simp) ?_
  simp -implicitDefEqProofs
  refine ACall.eq (hn x) ?_
  simp -implicitDefEqProofs
def sort2 : List Int → List Int
  | [x, y] => if y < x then [y, x] else [x, y]
  | L => L
set_option maxHeartbeats 1000000 in
theorem c_insert_few {A : Option Addr} {cap n : Nat} (hn : n ≤ 1) : AOk Tryz.prog 223 [.sc (.slice A n cap), .sc (.int .i64 0), .sc (.int .i64 n)] H (.tup []) H := by
  have h1 : ¬ (1 : Int) < (n : Int) := by omega
  have h1' : ¬ 1 < n := by omega
  have hw : IntKind.i64.wrap 1 = 1 := by decide
  refine ACalls.into Tryz.func223 rfl Tryz.ntmps223 Tryz.results223 (by simp) ?_
  simp -implicitDefEqProofs
  refine AGo.rounds (fun _ ρ K => ρ 6 = .sc (.int .i64 1) ∧ ρ 2 = .sc (.int .i64 n) ∧ K = H) ?_ (m := 0) (HLe.refl _) ⟨by simp [hw], by simp, rfl⟩
  rintro m ρ K _ ⟨r6, r2, rfl⟩
  simp -implicitDefEqProofs [r6, r2, h1, h1']
set_option maxHeartbeats 4000000 in
theorem c_insert_two {g : Nat} {x y : Int} {zs : List AV} {cap : Nat} (hg : H g = some (.cells (i64 x :: i64 y :: zs) 2)) :
    AOk Tryz.prog 223 [.sc (.slice (some ⟨g, 0, none⟩) 2 cap), .sc (.int .i64 0), .sc (.int .i64 2)] H (.tup []) (H.set g (.cells ((sort2 [x, y]).map i64 ++ zs) 2)) := by
  have hsame : ¬ y < x → H.set g (.cells ((sort2 [x, y]).map i64 ++ zs) 2) = H := fun h => by
    funext c
    rw [show sort2 [x, y] = [x, y] from if_neg h]
    simp only [Heap.set]
    split <;> simp_all
  have hturn : y < x → (sort2 [x, y]).map i64 ++ zs = i64 y :: i64 x :: zs := fun h => by
    rw [show sort2 [x, y] = [y, x] from if_pos h]
    rfl
  have hw : IntKind.i64.wrap 1 = 1 := by decide
  have hw0 : IntKind.i64.wrap 0 = 0 := by decide
  have hw2 : IntKind.i64.wrap 2 = 2 := by decide
  generalize hK' : H.set g (.cells ((sort2 [x, y]).map i64 ++ zs) 2) = K'
  refine ACalls.into Tryz.func223 rfl Tryz.ntmps223 Tryz.results223 (by simp) ?_
  simp -implicitDefEqProofs
  refine AGo.rounds (fun m ρ K => (m = 1 ∧ ρ 6 = .sc (.int .i64 1) ∧ K = H ∨ m = 0 ∧ ρ 6 = .sc (.int .i64 2) ∧ K = K') ∧ ρ 0 = .sc (.slice (some ⟨g, 0, none⟩) 2 cap) ∧ ρ 1 = .sc (.int .i64 0) ∧ ρ 2 = .sc (.int .i64 2)) ?_ (m := 1) (HLe.refl _)
    ⟨.inl ⟨rfl, by simp [hw], rfl⟩, by simp, by simp, by simp⟩
  rintro m ρ K ih ⟨h, r0, r1, r2⟩
  rcases h with ⟨rfl, r6, rfl⟩ | ⟨rfl, r6, rfl⟩
  · simp -implicitDefEqProofs [r6, r2]
    refine AGo.rounds (fun m ρ K2 => (m = 1 ∧ ρ 7 = .sc (.int .i64 1) ∧ K2 = K ∨ m = 0 ∧ ρ 7 = .sc (.int .i64 0) ∧ K2 = K') ∧ ρ 0 = .sc (.slice (some ⟨g, 0, none⟩) 2 cap) ∧ ρ 1 = .sc (.int .i64 0) ∧ ρ 2 = .sc (.int .i64 2) ∧ ρ 6 = .sc (.int .i64 1)) ?_ (m := 1) (HLe.refl _)
      ⟨.inl ⟨rfl, by simp, rfl⟩, by simp [r0], by simp [r1], by simp [r2], by simp [r6]⟩
    rintro m ρ K2 ih2 ⟨h, r0, r1, r2, r6⟩
    rcases h with ⟨rfl, r7, rfl⟩ | ⟨rfl, r7, rfl⟩
    · simp -implicitDefEqProofs []
      refine go_draw 15 f_mixed (by decide +kernel) ?_
      simp -implicitDefEqProofs [r0, r1, r7, hg, i64, hw0]
      refine AQS.eq (c_less64 y x) ?_
      by_cases hyx : y < x
      · simp -implicitDefEqProofs [hyx]
        refine go_draw3 [0, 1, 2, 3, 4, 5, 6, 7, 8, 10, 11, 12] _ f_mixed (by decide +kernel) HC.nothing ?_
        simp -implicitDefEqProofs []
        repeat (refine aq3_op ?_; simp -implicitDefEqProofs [r0, r7, hw0])
        have cx : (i64 x :: i64 y :: zs)[0]? = some (i64 x) := rfl
        have cy : (i64 x :: i64 y :: zs)[1]? = some (i64 y) := rfl
        refine AWK.two 9 13 (by decide +kernel) ?_ ?_
        · refine AWE.op rfl ?_
          simp -implicitDefEqProofs [hg, cx]
          refine AWK.one 13 (by decide +kernel) ?_
          refine AWE.op rfl ?_
          simp -implicitDefEqProofs [hg, cy]
          refine AWK.one 14 (by decide +kernel) ?_
          refine AWE.op rfl ?_
          simp -implicitDefEqProofs []
          refine AWK.one 15 (by decide +kernel) ?_
          refine AWE.op rfl ?_
          simp -implicitDefEqProofs [i64_lies, i64_cells, hg]
          refine AWS.store hg (HC.setn HC.nothing rfl) ?_
          refine AWK.one 16 (by decide +kernel) ?_
          refine AWE.op rfl ?_
          simp -implicitDefEqProofs []
          refine AWK.one 17 (by decide +kernel) ?_
          refine AWE.op rfl ?_
          simp -implicitDefEqProofs [i64_lies, i64_cells, hg]
          refine AWS.store (by exact if_pos rfl) (HC.setn HC.nothing rfl) ?_
          refine AWK.fin (by decide +kernel) ?_
          simp -implicitDefEqProofs [r7, hw0]
          refine AGo.again ih2 (m' := 0) (by omega) (HLe.refl _) ?_
          exact ⟨.inr ⟨rfl, by simp, by rw [← hK', hturn hyx]⟩, by simp [r0], by simp [r1], by simp [r2], by simp [r6]⟩
        · refine AWE.op rfl ?_
          simp -implicitDefEqProofs [hg, cy]
          refine AWK.one 9 (by decide +kernel) ?_
          refine AWE.op rfl ?_
          simp -implicitDefEqProofs [hg, cx]
          refine AWK.one 14 (by decide +kernel) ?_
          refine AWE.op rfl ?_
          simp -implicitDefEqProofs []
          refine AWK.one 15 (by decide +kernel) ?_
          refine AWE.op rfl ?_
          simp -implicitDefEqProofs [i64_lies, i64_cells, hg]
          refine AWS.store hg (HC.setn HC.nothing rfl) ?_
          refine AWK.one 16 (by decide +kernel) ?_
          refine AWE.op rfl ?_
          simp -implicitDefEqProofs []
          refine AWK.one 17 (by decide +kernel) ?_
          refine AWE.op rfl ?_
          simp -implicitDefEqProofs [i64_lies, i64_cells, hg]
          refine AWS.store (by exact if_pos rfl) (HC.setn HC.nothing rfl) ?_
          refine AWK.fin (by decide +kernel) ?_
          simp -implicitDefEqProofs [r7, hw0]
          refine AGo.again ih2 (m' := 0) (by omega) (HLe.refl _) ?_
          exact ⟨.inr ⟨rfl, by simp, by rw [← hK', hturn hyx]⟩, by simp [r0], by simp [r1], by simp [r2], by simp [r6]⟩
      · simp -implicitDefEqProofs [hyx, r6]
        exact AGo.again ih (m' := 0) (by omega) (HLe.refl _) ⟨.inr ⟨rfl, by simp [hw2], by rw [← hK', hsame hyx]⟩, by simp [r0], by simp [r1], by simp [r2]⟩
    · simp -implicitDefEqProofs []
      refine go_draw 15 f_mixed (by decide +kernel) ?_
      simp -implicitDefEqProofs [r1, r7, r6]
      exact AGo.again ih (m' := 0) (by omega) (HLe.refl _) ⟨.inr ⟨rfl, by simp [hw2], rfl⟩, by simp [r0], by simp [r1], by simp [r2]⟩
  · simp -implicitDefEqProofs [r6, r2]
theorem sort2_len (L : List Int) : (sort2 L).length = L.length := by
  unfold sort2
  split
  · split <;> rfl
  · rfl
theorem sort2_mem (L : List Int) (t : Int) : t ∈ sort2 L ↔ t ∈ L := by
  unfold sort2
  split
  · split
    · simp only [List.mem_cons, List.not_mem_nil, or_false]; exact or_comm
    · rfl
  · rfl
theorem sort2_sorted {L : List Int} (hl : L.length ≤ 2) (hn : L.Nodup) : (sort2 L).Pairwise (· < ·) := by
  match L, hl, hn with
  | [], _, _ => exact List.Pairwise.nil
  | [x], _, _ => simp [sort2]
  | [x, y], _, hn =>
    have hne : x ≠ y := by simpa using hn
    unfold sort2
    simp only
    split
    · simpa
    · simp; omega
  | _ :: _ :: _ :: _, hl, _ => simp at hl
set_option maxHeartbeats 1000000 in
theorem c_sort64 {H0 : Heap} {L : List Int} {v : AV} (hR : RawRow H0 2 (L.map i64) v H) (hL : L.length ≤ 2) :
    ACalls Tryz.prog 156 [v] H (fun _ K => RawRow H0 2 ((sort2 L).map i64) v K) := by
  have hi : ∃ K, AOk Tryz.prog 223 [v, .sc (.int .i64 0), .sc (.int .i64 L.length)] H (.tup []) K ∧ RawRow H0 2 ((sort2 L).map i64) v K := by
    obtain ⟨A, cap, rfl⟩ := hR.form
    rw [List.length_map] at hR ⊢
    match L, hL, hR with
    | [], _, hR => exact ⟨H, c_insert_few (n := 0) (by omega), hR⟩
    | [x], _, hR => exact ⟨H, c_insert_few (n := 1) (by omega), hR⟩
    | [x, y], _, hR =>
      rcases hR.2 with ⟨h1, _⟩ | ⟨g, zs, hg0, hv, hKg, hKm⟩
      · simp at h1
      · simp only [AV.sc.injEq, Value.slice.injEq] at hv
        obtain ⟨rfl, _, rfl⟩ := hv
        refine ⟨_, c_insert_two (x := x) (y := y) (zs := zs) hKg, HLe.set_new hR.1 hg0, .inr ⟨g, zs, hg0, ?_, by simp [Heap.set], ?_⟩⟩
        · have := sort2_len [x, y]
          simp only [List.length_map, this]
        · have := sort2_len [x, y]
          simp only [List.length_map, this] at hKm ⊢
          exact hKm
    | _ :: _ :: _ :: _, hL, _ => simp at hL
  obtain ⟨K, hc, hK⟩ := hi
  obtain ⟨A, cap, rfl⟩ := hR.form
  rw [List.length_map] at hc hK ⊢
  obtain ⟨n, hn⟩ : ∃ n, L.length = n := ⟨_, rfl⟩
  rw [hn] at hc hK ⊢ hL
  have hw : IntKind.i64.wrap (n : Int) = n := wrap_i64 (by omega) (by omega)
  have hu : IntKind.u64.wrap (n : Int) = n := wrap_u64 (by omega) (by omega)
  have hb : ∃ m : Int, AOk Tryz.prog 195 [.sc (.int .u64 n)] H (.sc (.int .i64 m)) H := by
    refine ⟨Lib.bitLen n, ?_⟩
    refine ACalls.into Tryz.func195 rfl Tryz.ntmps195 Tryz.results195 (by simp) ?_
    simp -implicitDefEqProofs
    refine ACall.eq (c_len64 n (by omega) (by omega)) ?_
    simp -implicitDefEqProofs
  obtain ⟨m, hb⟩ := hb
  have hle : (n : Int) ≤ 12 := by omega
  have hle' : n ≤ 12 := by omega
  have hp : AOk Tryz.prog 194 [.sc (.slice A n cap), .sc (.int .i64 0), .sc (.int .i64 n), .sc (.int .i64 m)] H (.tup []) K := by
    refine ACalls.into Tryz.func194 rfl Tryz.ntmps194 Tryz.results194 (by simp) ?_
    simp -implicitDefEqProofs
    refine AGo.rounds (fun _ ρ K => ρ 0 = .sc (.slice A n cap) ∧ ρ 1 = .sc (.int .i64 0) ∧ ρ 2 = .sc (.int .i64 n) ∧ K = H) ?_ (m := 0) (HLe.refl _) ⟨by simp, by simp, by simp, rfl⟩
    rintro _ ρ _ _ ⟨r0, r1, r2, rfl⟩
    simp -implicitDefEqProofs [r0, r1, r2, hw, hle, hle']
    refine ACall.eq hc ?_
    simp -implicitDefEqProofs
  refine ACalls.into Tryz.func156 rfl Tryz.ntmps156 Tryz.results156 (by simp) ?_
  simp -implicitDefEqProofs [hw, hu]
  refine ACall.eq hb ?_
  simp -implicitDefEqProofs
  refine ACall.eq hp ?_
  simp -implicitDefEqProofs
  exact ⟨_, _, wk_refl _, HWk.refl _, hK⟩
end Go.Proofs.YtmoncokklkiikaaGreatDoor
namespace Go.Proofs.YtmoncokklkiikaaGreatDoor
open Rg Go
def dg8 (n : Nat) : UInt8 := UInt8.ofNat (48 + n % 10)
def four (m : Nat) : List UInt8 := [dg8 (m / 1000), dg8 (m / 100), dg8 (m / 10), dg8 m]
def hhmm (n : Nat) : Nat := n / 3600 * 100 + n / 60 % 60
def wrZ (n : Int) : List UInt8 := (if n < 0 then 45 else 43) :: four (hhmm n.natAbs)
def partZ (c : Int × Int) : List UInt8 := Lib.itoa c.1 ++ wrZ c.2
def wordsZ (z : Zn) : List (List UInt8) := wrZ z.first :: z.l.map partZ
def textZ (z : Zn) : List UInt8 := if mayZ z = true then Lib.join (wordsZ z) [32] else []
theorem wrZ_len (n : Int) : (wrZ n).length = 5 := rfl
theorem hhmm_lt {n : Nat} (h : n ≤ 50400) : hhmm n < 1460 := by unfold hhmm; omega
theorem itoa_nat {a : Int} (h : 0 ≤ a) : Lib.itoa a = Lib.decDigits a.toNat := by
  unfold Lib.itoa
  rw [if_neg (by omega)]
theorem mayL_in : ∀ {l : List (Int × Int)} {p : Option Int}, mayL p l = true → ∀ c ∈ l, offOk c.2 = true ∧ 0 ≤ c.1 ∧ c.1 < 13569465600
  | [], _, _, c, hc => by cases hc
  | (a, o) :: r, p, h, c, hc => by
    rw [mayL_cons] at h
    rcases List.mem_cons.1 hc with e | hc
    · subst e; exact ⟨h.1, h.2.1, h.2.2.1⟩
    · exact mayL_in h.2.2.2.2.2 c hc
theorem may_parts {z : Zn} (h : mayZ z = true) : offOk z.first = true ∧ z.l.length ≤ 64 ∧ mayL none z.l = true := by
  simp only [mayZ, Bool.and_eq_true, decide_eq_true_eq] at h
  exact ⟨h.1.1, h.1.2, h.2⟩
theorem digits_le {n : Nat} (h : n < 13569465600) : (Lib.decDigits n).length ≤ 11 := by
  rw [Lib.decDigits_length]
  by_cases hn : n < 10
  · rw [Lib.nDigits_small hn]; omega
  · refine Nat.not_lt.1 fun hc => ?_
    obtain ⟨k, hk⟩ : ∃ k, Lib.nDigits n = k + 12 := ⟨Lib.nDigits n - 12, by omega⟩
    have : ∀ k u : Nat, Lib.nDigits u = k + 1 → 10 ^ k ≤ u ∨ k = 0 := by
      intro k
      induction k with
      | zero => intro u _; exact .inr rfl
      | succ k ih =>
        intro u hu
        by_cases h10 : u < 10
        · rw [Lib.nDigits_small h10] at hu; omega
        · rw [Lib.nDigits_big h10] at hu
          rcases ih (u / 10) (by omega) with h | h
          · left; rw [Nat.pow_succ]; omega
          · subst h; left; simp; omega
    rcases this (k + 11) n (by omega) with h1 | h1
    · have h2 : 10 ^ 11 ≤ 10 ^ (k + 11) := Nat.pow_le_pow_right (by decide) (by omega)
      omega
    · omega
theorem join_len (c : UInt8) (m : Nat) : ∀ (l : List (List UInt8)), (∀ x ∈ l, x.length ≤ m) → (Lib.join l [c]).length ≤ l.length * (m + 1)
  | [], _ => by simp [Lib.join]
  | [x], h => by have := h x (by simp); simp [Lib.join]; omega
  | x :: y :: r, h => by
    have h1 := h x (by simp)
    have h2 := join_len c m (y :: r) fun w hw => h w (by simp [hw])
    rw [join_cons2]
    simp only [List.length_append, List.length_cons] at h2 ⊢
    rw [Nat.add_mul]
    omega
theorem part_len {c : Int × Int} (h0 : 0 ≤ c.1) (h1 : c.1 < 13569465600) : (partZ c).length ≤ 16 := by
  unfold partZ
  rw [itoa_nat h0, List.length_append, wrZ_len]
  have := digits_le (n := c.1.toNat) (by omega)
  omega
theorem text_len (z : Zn) : (textZ z).length ≤ 1105 := by
  unfold textZ
  split
  · rename_i h
    obtain ⟨h1, h2, h3⟩ := may_parts h
    have := join_len 32 16 (wordsZ z) fun x hx => by
      unfold wordsZ at hx
      rcases List.mem_cons.1 hx with e | hx
      · subst e; rw [wrZ_len]; omega
      · obtain ⟨c, hc, rfl⟩ := List.mem_map.1 hx
        have := mayL_in h3 c hc
        exact part_len this.2.1 this.2.2
    unfold wordsZ at this ⊢
    simp only [List.length_cons, List.length_map] at this
    omega
  · simp
end Go.Proofs.YtmoncokklkiikaaGreatDoor
