/- The document's parse of any expression. The document's dates and clocks. The document's clock of a moment. The document's expressions: which may be, which clocks fit. The last firing up to a moment, as the document looks for it. The first firing behind a moment, as the program looks for it. The first firing behind a moment, as the document looks for it. The firings of a time, gone over by a loop: next.All, next.Count. A job's firings, as the document lists them. Jobs: which may be. Plans' rows: the program's walk. What a text's expression is: fields that may be. Plans' rows, made. -/
import Derived.Test.YtmoncokklkiikaaGreatDoorP19
import Derived.Test.YtmoncokklkiikaaGreatDoorP15
import Derived.Test.YtmoncokklkiikaaGreatDoorP16
import Derived.Test.YtmoncokklkiikaaGreatDoorP10
set_option linter.unusedSimpArgs false
set_option linter.unusedVariables false
set_option linter.unnecessarySimpa false
namespace Go.Proofs.YtmoncokklkiikaaGreatDoor
open Rg Go
variable {H : Heap}
theorem cronK_name {n x : List UInt8} (hl : ¬ 400 < n.length) (hp : Lib.hasPrefix n [64] = true) (h : namedL n = x) : cronK n = cronB x := by
  unfold cronK
  rw [if_neg hl, if_pos hp, h]
theorem prefix64 (s : List UInt8) : (Lib.hasPrefix s [64] = false ∧ (¬ 0 < s.length ∨ ∃ h : 0 < s.length, ¬ s[0].toNat = 64)) ∨ (Lib.hasPrefix s [64] = true ∧ ∃ h : 0 < s.length, s[0].toNat = 64) := by
  cases s with
  | nil => exact .inl ⟨rfl, .inl (by simp)⟩
  | cons c r =>
    have e : Lib.hasPrefix (c :: r) [64] = (64 == c) := by unfold Lib.hasPrefix; simp [List.isPrefixOf]
    by_cases hc : c = 64
    · exact .inr ⟨by rw [e, hc]; rfl, by simp, by simp [hc]⟩
    · exact .inl ⟨by rw [e]; simpa using Ne.symm hc, .inr ⟨by simp, fun h => hc (UInt8.toNat_inj.1 (by simpa using h))⟩⟩
theorem namedL_none {s : List UInt8} (h : ∀ q, q < 7 → nmL.getD (2 * q) [] ≠ s) : namedL s = [] := by
  have h0 := h 0 (by omega)
  have h1 := h 1 (by omega)
  have h2 := h 2 (by omega)
  have h3 := h 3 (by omega)
  have h4 := h 4 (by omega)
  have h5 := h 5 (by omega)
  have h6 := h 6 (by omega)
  unfold namedL
  rw [if_neg (fun e => h0 e.symm), if_neg (fun e => h1 e.symm), if_neg (fun e => h2 e.symm), if_neg (fun e => h3 e.symm), if_neg (fun e => h4 e.symm), if_neg (fun e => h5 e.symm), if_neg (fun e => h6 e.symm)]
set_option maxHeartbeats 1000000 in
theorem c_ref7ParseW (s : List UInt8) (hs : s.length ≤ 9223372036854775807) : AOk Tryz.prog 64 [str s] H (.tup [exAV (cronK s).1, .sc (.int .i64 (cronK s).2)]) H := by
  rcases prefix64 s with ⟨hp, hnp⟩ | ⟨hp, h0, h64⟩
  · have h := c_ref7Plain (H := H) s hs hnp
    have e : cronK s = if 400 < s.length then (ex0, 3) else cronB s := by unfold cronK; rw [hp]; rfl
    rw [e]; exact h
  · by_cases hl : 400 < s.length
    · have hl' : (400 : Int) < s.length := by omega
      have e : cronK s = (ex0, 3) := by unfold cronK; rw [if_pos hl]
      rw [e]
      refine ACalls.into Tryz.func64 rfl Tryz.ntmps64 Tryz.results64 (by simp) ?_
      simp -implicitDefEqProofs [ex0, f0]
      refine AAlloc.intro fun b2 h2 => ?_
      simp -implicitDefEqProofs [hl, hl']
      exact HWk.new h2 (HWk.refl _)
    · have hl' : ¬ (400 : Int) < s.length := by omega
      have h0' : (0 : Int) < s.length := by omega
      have h64' : (s[0].toNat : Int) = 64 := by omega
      refine ACalls.into Tryz.func64 rfl Tryz.ntmps64 Tryz.results64 (by simp) ?_
      simp -implicitDefEqProofs
      refine AAlloc.intro fun b2 h2 => ?_
      simp -implicitDefEqProofs [hl, hl', h0, h0', h64, h64']
      generalize hK : Heap.set _ b2 _ = K0
      have k2 : K0 b2 = some (.cells (exC ex0) 42) := by rw [← hK]; simp [Heap.set, ex0, f0]
      have kW : HWk H K0 := by rw [← hK]; exact HWk.new h2 (HWk.refl _)
      clear hK h64 h64'
      refine ACall.eq c_refNames ?_
      simp -implicitDefEqProofs
      refine AGo.rounds (fun m ρ K => ∃ q : Nat, q ≤ 7 ∧ m = 7 - q ∧ ρ 0 = str s ∧ ρ 2 = .sc (.pointer (some ⟨b2, 0, none⟩)) ∧ ρ 4 = .sl (strL nmL) .no ∧ ρ 5 = .sc (.int .i64 (2 * q : Nat)) ∧ (∀ q', q' < q → nmL.getD (2 * q') [] ≠ s) ∧ K = K0) ?_ (m := 7) (HLe.refl _)
        ⟨0, by omega, rfl, by simp, by simp, by simp, by simp, fun q' hq => by omega, rfl⟩
      rintro m ρ K ih ⟨q, hq, rfl, r0, r2, r4, r5, hne, rfl⟩
      have hc : q = 0 ∨ q = 1 ∨ q = 2 ∨ q = 3 ∨ q = 4 ∨ q = 5 ∨ q = 6 ∨ q = 7 := by omega
      rcases hc with rfl | rfl | rfl | rfl | rfl | rfl | rfl | rfl
      · skip
        by_cases hs : nHourly = s
        · subst hs
          have e : cronK nHourly = cronB xHourly := cronK_name (by decide) (by decide) (by decide)
          have hpl := c_ref7Plain (H := K) xHourly (by decide) (.inr ⟨by decide, by decide⟩)
          rw [if_neg (by decide)] at hpl
          rw [e]
          simp -implicitDefEqProofs [r0, r2, r4, r5, nmL, wrap_i64]
          refine ACall.eq hpl ?_
          simp -implicitDefEqProofs [r2, k2]
          exact HWk.new h2 kW
        · have hb : (nHourly == s) = false := by simpa using hs
          simp -implicitDefEqProofs [r0, r2, r4, r5, nmL, hb, wrap_i64]
          exact AGo.again ih (m' := 6) (by omega) (HLe.refl _) ⟨1, by omega, rfl, by simp [r0], by simp [r2], by simp [r4, nmL], by simp, lt_succ_all (P := fun q : Nat => nmL.getD (2 * q) [] ≠ s) hne hs, rfl⟩
      · skip
        by_cases hs : nDaily = s
        · subst hs
          have e : cronK nDaily = cronB xDaily := cronK_name (by decide) (by decide) (by decide)
          have hpl := c_ref7Plain (H := K) xDaily (by decide) (.inr ⟨by decide, by decide⟩)
          rw [if_neg (by decide)] at hpl
          rw [e]
          simp -implicitDefEqProofs [r0, r2, r4, r5, nmL, wrap_i64]
          refine ACall.eq hpl ?_
          simp -implicitDefEqProofs [r2, k2]
          exact HWk.new h2 kW
        · have hb : (nDaily == s) = false := by simpa using hs
          simp -implicitDefEqProofs [r0, r2, r4, r5, nmL, hb, wrap_i64]
          exact AGo.again ih (m' := 5) (by omega) (HLe.refl _) ⟨2, by omega, rfl, by simp [r0], by simp [r2], by simp [r4, nmL], by simp, lt_succ_all (P := fun q : Nat => nmL.getD (2 * q) [] ≠ s) hne hs, rfl⟩
      · skip
        by_cases hs : nMidnight = s
        · subst hs
          have e : cronK nMidnight = cronB xDaily := cronK_name (by decide) (by decide) (by decide)
          have hpl := c_ref7Plain (H := K) xDaily (by decide) (.inr ⟨by decide, by decide⟩)
          rw [if_neg (by decide)] at hpl
          rw [e]
          simp -implicitDefEqProofs [r0, r2, r4, r5, nmL, wrap_i64]
          refine ACall.eq hpl ?_
          simp -implicitDefEqProofs [r2, k2]
          exact HWk.new h2 kW
        · have hb : (nMidnight == s) = false := by simpa using hs
          simp -implicitDefEqProofs [r0, r2, r4, r5, nmL, hb, wrap_i64]
          exact AGo.again ih (m' := 4) (by omega) (HLe.refl _) ⟨3, by omega, rfl, by simp [r0], by simp [r2], by simp [r4, nmL], by simp, lt_succ_all (P := fun q : Nat => nmL.getD (2 * q) [] ≠ s) hne hs, rfl⟩
      · skip
        by_cases hs : nWeekly = s
        · subst hs
          have e : cronK nWeekly = cronB xWeekly := cronK_name (by decide) (by decide) (by decide)
          have hpl := c_ref7Plain (H := K) xWeekly (by decide) (.inr ⟨by decide, by decide⟩)
          rw [if_neg (by decide)] at hpl
          rw [e]
          simp -implicitDefEqProofs [r0, r2, r4, r5, nmL, wrap_i64]
          refine ACall.eq hpl ?_
          simp -implicitDefEqProofs [r2, k2]
          exact HWk.new h2 kW
        · have hb : (nWeekly == s) = false := by simpa using hs
          simp -implicitDefEqProofs [r0, r2, r4, r5, nmL, hb, wrap_i64]
          exact AGo.again ih (m' := 3) (by omega) (HLe.refl _) ⟨4, by omega, rfl, by simp [r0], by simp [r2], by simp [r4, nmL], by simp, lt_succ_all (P := fun q : Nat => nmL.getD (2 * q) [] ≠ s) hne hs, rfl⟩
      · skip
        by_cases hs : nMonthly = s
        · subst hs
          have e : cronK nMonthly = cronB xMonthly := cronK_name (by decide) (by decide) (by decide)
          have hpl := c_ref7Plain (H := K) xMonthly (by decide) (.inr ⟨by decide, by decide⟩)
          rw [if_neg (by decide)] at hpl
          rw [e]
          simp -implicitDefEqProofs [r0, r2, r4, r5, nmL, wrap_i64]
          refine ACall.eq hpl ?_
          simp -implicitDefEqProofs [r2, k2]
          exact HWk.new h2 kW
        · have hb : (nMonthly == s) = false := by simpa using hs
          simp -implicitDefEqProofs [r0, r2, r4, r5, nmL, hb, wrap_i64]
          exact AGo.again ih (m' := 2) (by omega) (HLe.refl _) ⟨5, by omega, rfl, by simp [r0], by simp [r2], by simp [r4, nmL], by simp, lt_succ_all (P := fun q : Nat => nmL.getD (2 * q) [] ≠ s) hne hs, rfl⟩
      · skip
        by_cases hs : nYearly = s
        · subst hs
          have e : cronK nYearly = cronB xYearly := cronK_name (by decide) (by decide) (by decide)
          have hpl := c_ref7Plain (H := K) xYearly (by decide) (.inr ⟨by decide, by decide⟩)
          rw [if_neg (by decide)] at hpl
          rw [e]
          simp -implicitDefEqProofs [r0, r2, r4, r5, nmL, wrap_i64]
          refine ACall.eq hpl ?_
          simp -implicitDefEqProofs [r2, k2]
          exact HWk.new h2 kW
        · have hb : (nYearly == s) = false := by simpa using hs
          simp -implicitDefEqProofs [r0, r2, r4, r5, nmL, hb, wrap_i64]
          exact AGo.again ih (m' := 1) (by omega) (HLe.refl _) ⟨6, by omega, rfl, by simp [r0], by simp [r2], by simp [r4, nmL], by simp, lt_succ_all (P := fun q : Nat => nmL.getD (2 * q) [] ≠ s) hne hs, rfl⟩
      · skip
        by_cases hs : nAnnually = s
        · subst hs
          have e : cronK nAnnually = cronB xYearly := cronK_name (by decide) (by decide) (by decide)
          have hpl := c_ref7Plain (H := K) xYearly (by decide) (.inr ⟨by decide, by decide⟩)
          rw [if_neg (by decide)] at hpl
          rw [e]
          simp -implicitDefEqProofs [r0, r2, r4, r5, nmL, wrap_i64]
          refine ACall.eq hpl ?_
          simp -implicitDefEqProofs [r2, k2]
          exact HWk.new h2 kW
        · have hb : (nAnnually == s) = false := by simpa using hs
          simp -implicitDefEqProofs [r0, r2, r4, r5, nmL, hb, wrap_i64]
          exact AGo.again ih (m' := 0) (by omega) (HLe.refl _) ⟨7, by omega, rfl, by simp [r0], by simp [r2], by simp [r4, nmL], by simp, lt_succ_all (P := fun q : Nat => nmL.getD (2 * q) [] ≠ s) hne hs, rfl⟩
      · have e : cronK s = (ex0, 70) := by
          unfold cronK
          rw [if_neg hl, if_pos hp, namedL_none hne]
          rfl
        rw [e]
        simp -implicitDefEqProofs [r4, r5, r2, nmL, k2, ex0, f0]
        exact HWk.new h2 kW
end Go.Proofs.YtmoncokklkiikaaGreatDoor
namespace Go.Proofs.YtmoncokklkiikaaGreatDoor
open Rg Go
variable {H : Heap}
end Go.Proofs.YtmoncokklkiikaaGreatDoor
namespace Go.Proofs.YtmoncokklkiikaaGreatDoor
open Rg Go
variable {H : Heap}
end Go.Proofs.YtmoncokklkiikaaGreatDoor
namespace Go.Proofs.YtmoncokklkiikaaGreatDoor
open Rg Go
variable {H : Heap}
end Go.Proofs.YtmoncokklkiikaaGreatDoor
namespace Go.Proofs.YtmoncokklkiikaaGreatDoor
open Rg Go
variable {H : Heap}
end Go.Proofs.YtmoncokklkiikaaGreatDoor
namespace Go.Proofs.YtmoncokklkiikaaGreatDoor
open Rg Go Go.RowKit
variable {W0 w : World} {C : Com} {H : Heap}
def GlobT (H : Heap) : Prop := ∃ us, H 0 = some (.ro us) ∧ ∀ j, j < Lib.deBruijn64tab.length → us[j]? = some (.int .u8 (Lib.deBruijn64tab.getD j 0))
theorem GlobT.wk {H K : Heap} (h : GlobT H) (hk : HLe H K) : GlobT K := by
  obtain ⟨us, h1, h2⟩ := h
  exact ⟨us, hk _ _ h1, h2⟩
theorem GlobT.new {H : Heap} {b : Nat} {o : AObj} (h : GlobT H) (hb : H b = none) : GlobT (H.set b o) := h.wk (HLe.set_fresh hb)
theorem GlobT.tab (h : GlobT H) (hi : Inv W0 C H w) : TabAt 0 Lib.deBruijn64tab w := by
  obtain ⟨u, h1, g1⟩ := h
  exact fun j hj => hi.ro h1 (g1 j hj)
theorem c_ctz64T (hG : GlobT H) (x : Nat) (hx : x < 18446744073709551616) : AOk Tryz.prog 191 [.sc (.int .u64 x)] H (.sc (.int .i64 (Lib.ctz 64 x))) H :=
  AOk.kit (vs := [.int .u64 x]) (r := .int .i64 (Lib.ctz 64 x)) fun W0 C w hi => (Any7.bits_TrailingZeros64 Tryz.lays7x29 x hx w (fun _ => hG.tab hi)).mono fun e w' ⟨h1, h2⟩ => ⟨h1, h2 ▸ Below.refl _ _⟩
theorem c_firstT (hG : GlobT H) (f : Fld) (n : Int) (hf : f.bits < 18446744073709551616) : AOk Tryz.prog 152 [fAV f, .sc (.int .i64 n)] H (optAV (firstB f.bits n)) H := by
  rw [firstB_eq]
  have hmax : (if 0 < n then n else 0) = (n.toNat : Int) := by split <;> omega
  generalize n.toNat = m at *
  refine ACalls.into Tryz.func152 rfl Tryz.ntmps152 Tryz.results152 (by simp) ?_
  simp -implicitDefEqProofs [fAV]
  refine AAlloc.intro fun b hb => ?_
  by_cases h1 : 63 < m
  · have h1' : (63 : Int) < m := by omega
    simp -implicitDefEqProofs [hmax, h1, h1', optAV]
    exact HWk.new hb (HWk.refl _)
  · have h1' : ¬ (63 : Int) < m := by omega
    have hm : min m 64 = m := by omega
    have hsh := shr_lt m hf
    by_cases h2 : shr f.bits m = 0
    · simp -implicitDefEqProofs [hmax, h1, h1', hm, shr_nat, h2, optAV]
      exact HWk.new hb (HWk.refl _)
    · simp -implicitDefEqProofs [hmax, h1, h1', hm, shr_nat, h2]
      refine ACall.eq (c_ctz64T (hG.new hb) _ hsh) ?_
      have hc := ctz_le _ hsh
      have hw : IntKind.i64.wrap ((m : Int) + (Lib.ctz 64 (shr f.bits m) : Nat)) = ((m + Lib.ctz 64 (shr f.bits m) : Nat) : Int) := by rw [wrap_i64 (by omega) (by omega)]; push_cast; rfl
      simp -implicitDefEqProofs [hw, optAV]
      exact HWk.new hb (HWk.refl _)
def fromAV : Option Nat → AV
  | some n => .tup [.sc (.int .i64 (n : Int)), .sc (.bool true)]
  | none => .tup [.sc (.int .i64 0), .sc (.bool false)]
set_option maxHeartbeats 2000000 in
theorem c_from (hG : GlobT H) {x : Ex} (hx : x.ok) (hm : mayX x = true) {t T : Nat} (ht : t < 13569465600) (hT : t / 60 * 60 + 60 = T) {r : Option Nat} (hr : IsNext x t r) : AOk Tryz.prog 104 [exAV x, .sc (.int .i64 T)] H (fromAV r) H := by
  obtain ⟨n0, hn0⟩ : ∃ d, T / 86400 = d := ⟨_, rfl⟩
  obtain ⟨m0, hm0⟩ : ∃ d, T % 86400 = d := ⟨_, rfl⟩
  obtain ⟨m1, hm1⟩ : ∃ d, m0 / 60 = d := ⟨_, rfl⟩
  have hO := outN_init (x := x) ht
  rw [hT, hn0, hm0, hm1] at hO
  have hT2 : T < 13569465661 := by omega
  clear hT
  obtain ⟨hba, hbb⟩ := bits_ok hx hm
  have w1 : IntKind.i64.wrap ((T : Int) / 86400) = (n0 : Int) := wdiv (b := 86400) hn0 (by omega)
  have w2 : (T : Int).tmod 86400 = (m0 : Int) := wmod (b := 86400) hm0
  have w3 : IntKind.i64.wrap ((m0 : Int) / 60) = (m1 : Int) := wdiv (b := 60) hm1 (by omega)
  refine ACalls.into Tryz.func104 rfl Tryz.ntmps104 Tryz.results104 (by simp) ?_
  simp -implicitDefEqProofs
  refine AAlloc.intro fun b2 h2 => ?_
  simp -implicitDefEqProofs
  generalize hK : Heap.set _ b2 _ = K0
  have k2 : K0 b2 = some (.cells (exC x) 42) := by rw [← hK]; simp [Heap.set]
  have kG : GlobT K0 := by rw [← hK]; exact hG.new h2
  have kW : HWk H K0 := by rw [← hK]; exact HWk.new h2 (HWk.refl _)
  clear hK
  simp -implicitDefEqProofs [w1, w2, w3]
  refine AGo.rounds (fun m ρ K => ∃ (n mm : Nat), m = 157054 - n ∧ OutN x t n mm ∧ ρ 2 = .sc (.pointer (some ⟨b2, 0, none⟩)) ∧ ρ 6 = .sc (.int .i64 n) ∧ ρ 7 = .sc (.int .i64 mm) ∧ K b2 = some (.cells (exC x) 42) ∧ GlobT K ∧ HWk H K) ?_ (m := 157054 - n0) (HLe.refl _)
    ⟨n0, m1, rfl, hO, by simp, by simp, by simp, k2, kG, kW⟩
  clear kG kW k2 hO
  rintro m ρ K ih ⟨n, mm, rfl, hO, r2, r6, r7, k2, kG, kW⟩
  by_cases hn : n < 157054
  · have hnI : (n : Int) < 157054 := by omega
    have hmm : mm ≤ 1439 := hO.1
    have hoM := fun h => outN_month hO hn h
    have hcm := civ_month hn
    simp -implicitDefEqProofs [r6, hn, hnI]
    refine ACall.eq (c_of hn) ?_
    generalize civ n = cv at *
    obtain ⟨Y, M, Dd⟩ := cv
    simp only at hcm hoM
    simp -implicitDefEqProofs
    refine AAlloc.intro fun b9 h9 => ?_
    have n29 : b2 ≠ b9 := by intro e; subst e; rw [k2] at h9; cases h9
    have n92 := n29.symm
    simp -implicitDefEqProofs [r2, n29, n92, k2]
    generalize hK : Heap.set K b9 _ = K1
    have k21 : K1 b2 = some (.cells (exC x) 42) := by rw [← hK]; simp [Heap.set, n29, k2]
    have k9 : K1 b9 = some (.cells [.sc (.int .i64 Y), .sc (.int .i64 M), .sc (.int .i64 Dd)] 46) := by rw [← hK]; simp [Heap.set]
    have kG1 : GlobT K1 := by rw [← hK]; exact kG.new h9
    have kW1 : HWk H K1 := by rw [← hK]; exact HWk.new (kW.none h9) kW
    clear hK
    obtain ⟨nn, hnn⟩ : ∃ q, n + 1 = q := ⟨_, rfl⟩
    have w7 : IntKind.i64.wrap ((n : Int) + 1) = (nn : Int) := wadd (b := 1) hnn (by omega)
    refine ACall.eq (c_has x.d M hx.d) ?_
    cases hM : hasB x.d.bits M with
    | false =>
      have hlong : longI (Y : Int) (M : Int) = (mLong Y M : Int) := long_nat Y (by omega) (by omega)
      have hO' := hoM hM
      generalize mLong Y M = L at *
      obtain ⟨q1, hq1⟩ : ∃ q, L - Dd = q := ⟨_, rfl⟩
      obtain ⟨q2, hq2⟩ : ∃ q, n + q1 = q := ⟨_, rfl⟩
      obtain ⟨q3, hq3⟩ : ∃ q, q2 + 1 = q := ⟨_, rfl⟩
      have w4 : IntKind.i64.wrap ((L : Int) - (Dd : Int)) = (q1 : Int) := wsub hq1 (by omega) (by omega)
      have w5 : IntKind.i64.wrap ((n : Int) + (q1 : Int)) = (q2 : Int) := wadd hq2 (by omega)
      have w6 : IntKind.i64.wrap ((q2 : Int) + 1) = (q3 : Int) := wadd (b := 1) hq3 (by omega)
      rw [hq1, hq2, hq3] at hO'
      simp -implicitDefEqProofs
      refine go_draw 11 f_mixed (by decide +kernel) ?_
      simp -implicitDefEqProofs [r6, k9]
      refine AQS.eq (c_long (Y : Int) (M : Int)) ?_
      rw [hlong]
      simp -implicitDefEqProofs [r6, k9, w4, w5, w6]
      exact AGo.again ih (m' := 157054 - q3) (by omega) (HLe.refl _) ⟨q3, 0, rfl, hO', by simp [r2], by simp, by simp, k21, kG1, kW1⟩
    | true =>
      simp -implicitDefEqProofs [r2, r6, k21]
      refine ACall.eq (c_nfits x hx hn) ?_
      rw [hm]
      cases hdb : dayB x n with
      | false =>
        have hO' := outN_day hO hn hdb
        rw [hnn] at hO'
        simp -implicitDefEqProofs [r6, w7]
        exact AGo.again ih (m' := 157054 - nn) (by omega) (HLe.refl _) ⟨nn, 0, rfl, hO', by simp [r2], by simp, by simp, k21, kG1, kW1⟩
      | true =>
        obtain ⟨hh, hhh⟩ : ∃ q, mm / 60 = q := ⟨_, rfl⟩
        have w8 : IntKind.i64.wrap ((mm : Int) / 60) = (hh : Int) := wdiv (b := 60) hhh (by omega)
        have hI := inN_init hO hn hdb
        rw [hhh] at hI
        simp -implicitDefEqProofs [r7, w8]
        refine AGo.rounds (fun m ρ K => ∃ (h m2 : Nat), m = 25 - h ∧ InN x t n h (m2 % 60) ∧ m2 ≤ 1439 ∧ ρ 2 = .sc (.pointer (some ⟨b2, 0, none⟩)) ∧ ρ 6 = .sc (.int .i64 n) ∧ ρ 7 = .sc (.int .i64 m2) ∧ ρ 10 = .sc (.int .i64 h) ∧ K = K1) ?_ (m := 25 - hh) (HLe.refl _)
          ⟨hh, mm, rfl, hI, hmm, by simp [r2], by simp [r6], by simp [r7], by simp, rfl⟩
        clear hI hmm hO r2 r6 r7 hoM
        rintro m' ρ' K ih2 ⟨h, m2, rfl, hI, hm2, r2, r6, r7, r10, rfl⟩
        simp -implicitDefEqProofs [r10, r2, k21]
        refine ACall.eq (c_firstT kG1 x.b h hx.b) ?_
        cases htb : firstB x.b.bits (h : Int) with
        | none =>
          have hno := firstB_none hx.b htb
          have hO' := inN_none hI (fun j hj => by
            by_cases j64 : j ≤ 63
            · rw [has_bit j64]; exact hno j (by simpa using hj)
            · unfold hasB; rw [decide_eq_false (by omega : ¬ (j : Int) ≤ 63)]; simp)
          rw [hnn] at hO'
          simp -implicitDefEqProofs [optAV, r6, w7]
          exact AGo.again ih (m' := 157054 - nn) (by omega) (HLe.refl _) ⟨nn, 0, rfl, hO', by simp [r2], by simp, by simp, k21, kG1, kW1⟩
        | some h' =>
          obtain ⟨g1, g0, g2, g3⟩ := firstB_some hx.b htb
          simp only [Int.toNat_natCast] at g1 g3
          have g4 := hbb h' g2
          have g2' : hasB x.b.bits (h' : Int) = true := by rw [has_bit g0]; exact g2
          simp -implicitDefEqProofs [optAV, r10]
          refine ABr.join (fun ρ K' => K' = K ∧ ∃ m3 : Nat, m3 ≤ 1439 ∧ InN x t n h' (m3 % 60) ∧ ρ 2 = .sc (.pointer (some ⟨b2, 0, none⟩)) ∧ ρ 6 = .sc (.int .i64 n) ∧ ρ 7 = .sc (.int .i64 m3) ∧ ρ 10 = .sc (.int .i64 h')) (fun k' hk' => ?_) ?_
          · by_cases hlt : h < h'
            · have hlt' : (h : Int) < (h' : Int) := by omega
              simp -implicitDefEqProofs [hlt, hlt']
              exact hk' _ _ ⟨rfl, 0, by omega, inN_up hI hlt (by omega) (fun j j1 j2 => by rw [has_bit (by omega)]; exact g3 j j1 j2), by simp [r2], by simp [r6], by simp, by simp⟩
            · obtain rfl : h' = h := by omega
              simp -implicitDefEqProofs
              exact hk' _ _ ⟨rfl, m2, hm2, hI, by simp [r2], by simp [r6], by simp [r7], by simp [r10]⟩
          · clear r2 r6 r7 r10
            rintro ρ2 K' ⟨rfl, m3, hm3, hI3, r2, r6, r7, r10⟩
            obtain ⟨m4, hm4⟩ : ∃ q, m3 % 60 = q := ⟨_, rfl⟩
            have w9 : (m3 : Int).tmod 60 = (m4 : Int) := wmod (b := 60) hm4
            rw [hm4] at hI3
            have hm59 : m4 ≤ 59 := hI3.1
            simp -implicitDefEqProofs [r2, r7, k21, w9]
            refine ACall.eq (c_firstT kG1 x.a m4 hx.a) ?_
            cases hta : firstB x.a.bits (m4 : Int) with
            | none =>
              have hno := firstB_none hx.a hta
              obtain ⟨h2, hh2⟩ : ∃ q, h' + 1 = q := ⟨_, rfl⟩
              have w10 : IntKind.i64.wrap ((h' : Int) + 1) = (h2 : Int) := wadd (b := 1) hh2 (by omega)
              have hI' := inN_min hI3 (by omega) (fun j hj => by
                by_cases j64 : j ≤ 63
                · rw [has_bit j64]; exact hno j (by simpa using hj)
                · unfold hasB; rw [decide_eq_false (by omega : ¬ (j : Int) ≤ 63)]; simp)
              rw [hh2] at hI'
              simp -implicitDefEqProofs [optAV, r10, w10]
              exact AGo.again ih2 (m' := 25 - h2) (by omega) (HLe.refl _) ⟨h2, 0, rfl, hI', by omega, by simp [r2], by simp [r6], by simp, by simp, rfl⟩
            | some m5 =>
              obtain ⟨f1, f0, f2, f3⟩ := firstB_some hx.a hta
              simp only [Int.toNat_natCast] at f1 f3
              have f4 := hba m5 f2
              have f2' : hasB x.a.bits (m5 : Int) = true := by rw [has_bit f0]; exact f2
              obtain rfl := next_one hr (inN_found hm hI3 (by omega) g2' f2' f1 (by omega) (fun j j1 j2 => by rw [has_bit (by omega)]; exact f3 j j1 j2))
              obtain ⟨P1, hP1⟩ : ∃ q, n * 86400 = q := ⟨_, rfl⟩
              obtain ⟨P2, hP2⟩ : ∃ q, h' * 3600 = q := ⟨_, rfl⟩
              obtain ⟨P3, hP3⟩ : ∃ q, P1 + P2 = q := ⟨_, rfl⟩
              obtain ⟨P4, hP4⟩ : ∃ q, m5 * 60 = q := ⟨_, rfl⟩
              obtain ⟨P5, hP5⟩ : ∃ q, P3 + P4 = q := ⟨_, rfl⟩
              have v1 : IntKind.i64.wrap ((n : Int) * 86400) = (P1 : Int) := wmul (b := 86400) hP1 (by omega)
              have v2 : IntKind.i64.wrap ((h' : Int) * 3600) = (P2 : Int) := wmul (b := 3600) hP2 (by omega)
              have v3 : IntKind.i64.wrap ((P1 : Int) + (P2 : Int)) = (P3 : Int) := wadd hP3 (by omega)
              have v4 : IntKind.i64.wrap ((m5 : Int) * 60) = (P4 : Int) := wmul (b := 60) hP4 (by omega)
              have v5 : IntKind.i64.wrap ((P3 : Int) + (P4 : Int)) = (P5 : Int) := wadd hP5 (by omega)
              rw [hP1, hP2, hP3, hP4, hP5]
              simp -implicitDefEqProofs [optAV, r6, r10, v1, v2, v3, v4, v5, fromAV]
              exact kW1
  · obtain rfl : n = 157054 := by have := hO.2.1; omega
    obtain rfl := next_one hr (outN_end hO)
    simp -implicitDefEqProofs [r6, fromAV]
    exact kW
theorem badE_ok {x : Ex} (hm : mayX x = true) {t : Nat} (ht : t < 13569465600) : badE x (t : Int) = 0 := by
  unfold badE
  rw [if_neg (by simp [hm]), if_neg (by omega)]
theorem c_after (hG : GlobT H) {x : Ex} (hx : x.ok) (hm : mayX x = true) {t : Nat} (ht : t < 13569465600) {r : Option Nat} (hr : IsNext x t r) : AOk Tryz.prog 32 [exAV x, .sc (.int .i64 t)] H (outAV r) H := by
  obtain ⟨q, hq⟩ : ∃ q, t % 60 = q := ⟨_, rfl⟩
  obtain ⟨z, hz⟩ : ∃ q, t / 60 * 60 = q := ⟨_, rfl⟩
  obtain ⟨T, hT⟩ : ∃ q, z + 60 = q := ⟨_, rfl⟩
  have w1 : (t : Int).tmod 60 = (q : Int) := wmod (b := 60) hq
  have w2 : IntKind.i64.wrap ((t : Int) - (q : Int)) = (z : Int) := wsub (by omega) (by omega) (by omega)
  have w3 : IntKind.i64.wrap ((z : Int) + 60) = (T : Int) := wadd (b := 60) hT (by omega)
  have hf := fun (K : Heap) (kG : GlobT K) => c_from kG hx hm ht (T := T) (by omega) hr
  refine ACalls.into Tryz.func32 rfl Tryz.ntmps32 Tryz.results32 (by simp) ?_
  simp -implicitDefEqProofs
  refine AAlloc.intro fun b2 h2 => ?_
  have kG := fun o => hG.new (o := o) h2
  simp -implicitDefEqProofs
  refine ACall.eq (c_nmay x hx t) ?_
  rw [badE_ok hm ht]
  simp -implicitDefEqProofs [w1, w2, w3]
  refine ACall.eq (hf _ (kG _)) ?_
  cases r with
  | none =>
    simp -implicitDefEqProofs [fromAV, outAV, optN, errN]
    exact HWk.new h2 (HWk.refl _)
  | some n =>
    simp -implicitDefEqProofs [fromAV, outAV, optN, errN]
    exact HWk.new h2 (HWk.refl _)
end Go.Proofs.YtmoncokklkiikaaGreatDoor
namespace Go.Proofs.YtmoncokklkiikaaGreatDoor
open Rg Go
variable {H : Heap}
end Go.Proofs.YtmoncokklkiikaaGreatDoor
namespace Go.Proofs.YtmoncokklkiikaaGreatDoor
open Rg Go
variable {H : Heap}
abbrev ptr (b : Nat) : AV := .sc (.pointer (some ⟨b, 0, none⟩))
def AllR (x : Ex) (a b : Int) (H : Heap) (r : AV) (K : Heap) : Prop :=
  ∃ b3 b4 b5, r = .sc (.func (.func 133) #[] #[.pointer (some ⟨b3, 0, none⟩), .pointer (some ⟨b4, 0, none⟩), .pointer (some ⟨b5, 0, none⟩)]) ∧ HLe H K ∧
    K b3 = some (.cells (exC x) 42) ∧ K b4 = some (.cells [.sc (.int .i64 a)] 2) ∧ K b5 = some (.cells [.sc (.int .i64 b)] 2)
theorem c_nextAll (x : Ex) (a b : Int) : ACalls Tryz.prog 66 [exAV x, .sc (.int .i64 a), .sc (.int .i64 b)] H (AllR x a b H) := by
  refine ACalls.into Tryz.func66 rfl Tryz.ntmps66 Tryz.results66 (by simp) ?_
  simp -implicitDefEqProofs
  refine AAlloc.intro fun b3 h3 => ?_
  simp -implicitDefEqProofs
  refine AAlloc.intro fun b4 h4 => ?_
  simp -implicitDefEqProofs
  refine AAlloc.intro fun b5 h5 => ?_
  have n34 : b3 ≠ b4 := by intro e; subst e; simp [Heap.set] at h4
  have n35 : b3 ≠ b5 := by intro e; subst e; simp [Heap.set, n34] at h5
  have n45 : b4 ≠ b5 := by intro e; subst e; simp [Heap.set] at h5
  simp -implicitDefEqProofs
  refine ⟨_, _, wk_refl _, HWk.refl _, b3, b4, b5, rfl, ((HLe.set_fresh h3).trans (HLe.set_fresh h4)).trans (HLe.set_fresh h5), ?_, ?_, ?_⟩
  · simp [Heap.set, n34, n35]
  · simp [Heap.set, n45]
  · simp [Heap.set]
def IsRun (x : Ex) (b : Nat) : Nat → List Nat → Prop
  | a, [] => ∃ r, IsNext x a r ∧ ∀ t, r = some t → b < t
  | a, t :: L => IsNext x a (some t) ∧ t ≤ b ∧ IsRun x b t L
theorem HWk.delNew {K H : Heap} {b : Nat} (hb : K b = none) (h : HWk K H) : HWk K (H.del b) := fun c ob e => by
  have hc : c ≠ b := by rintro rfl; rw [hb] at e; cases e
  obtain ⟨o, h1, h2⟩ := h c ob e
  exact ⟨o, by unfold Heap.del; rw [if_neg hc]; exact h1, h2⟩
theorem GlobT.set {H : Heap} {b : Nat} {o : AObj} (h : GlobT H) (hb : ∀ us, H b ≠ some (.ro us)) : GlobT (H.set b o) := by
  obtain ⟨us, h1, h2⟩ := h
  refine ⟨us, ?_, h2⟩
  unfold Heap.set
  split
  · rename_i hc; subst hc; exact absurd h1 (hb us)
  · exact h1
theorem del_apply {H : Heap} {b c : Nat} : Heap.del H b c = if c = b then none else H c := rfl
theorem mark_nrm {Q : Post} {D : Nat} : (Q.mark D).nrm = fun ρ H => H D = some .dfr ∧ Q.nrm ρ (H.del D) := rfl
theorem mark_ret {Q : Post} {D : Nat} : (Q.mark D).ret = fun ρ H => H D = some .dfr ∧ Q.ret ρ (H.del D) := rfl
end Go.Proofs.YtmoncokklkiikaaGreatDoor
namespace Go.Proofs.YtmoncokklkiikaaGreatDoor
open Rg Go
variable {H : Heap}
abbrev tAV (t : Nat) : AV := .sc (.int .i64 (t : Int))
end Go.Proofs.YtmoncokklkiikaaGreatDoor
namespace Go.Proofs.YtmoncokklkiikaaGreatDoor
open Rg Go
variable {H : Heap}
structure Jb where
  id : Nat
  name : List UInt8
  ex : List UInt8
  pol : Int
  gr : Int
  lim : Int
  ret : Int
  tim : Int
  deps : List Nat
  pau : Bool
  ver : Nat
  seen : Int
abbrev jbC (j : Jb) (t : Tok) : List AV := [.sc (.int .u64 (j.id : Nat)), str j.name, str j.ex, .sc (.int .i64 j.pol), .sc (.int .i64 j.gr), .sc (.int .i64 j.lim), .sc (.int .i64 j.ret), .sc (.int .i64 j.tim), .sl (j.deps.map fun n : Nat => .sc (.int .u64 n)) t, .sc (.bool j.pau), .sc (.int .u64 (j.ver : Nat)), .sc (.int .i64 j.seen)]
abbrev jbAV (j : Jb) (t : Tok) : AV := .agg (jbC j t)
def badJ (j : Jb) : Bool := decide (j.pol < 1) || decide (3 < j.pol) || decide (j.gr < 0) || decide (604800 < j.gr) || decide (j.lim < 1) || decide (8 < j.lim) || decide (j.ret < 0) || decide (5 < j.ret) || decide (j.tim < 1) || decide (86400 < j.tim) || decide (j.seen < -1) || decide (13569465600 ≤ j.seen)
def mayJ (j : Jb) : Int :=
  if j.name.length < 1 then 140 else if 32 < j.name.length then 140 else if (cronK j.ex).2 ≠ 0 then (cronK j.ex).2 else if 8 < j.deps.length then 3 else if badJ j = true then 2 else 0
set_option maxHeartbeats 4000000 in
theorem c_jobMay (hG : Glob H) (j : Jb) (t : Tok) (hs : j.ex.length ≤ 9223372036854775807) : AOk Tryz.prog 16 [jbAV j t] H (.sc (.int .i64 (mayJ j))) H := by
  unfold mayJ
  refine ACalls.into Tryz.func16 rfl Tryz.ntmps16 Tryz.results16 (by simp) ?_
  simp -implicitDefEqProofs
  refine AAlloc.intro fun b1 h1 => ?_
  simp -implicitDefEqProofs
  generalize hK : Heap.set _ b1 _ = K1
  have k1 : K1 b1 = some (.cells (jbC j t) 25) := by rw [← hK]; simp [Heap.set]
  have kG : Glob K1 := by rw [← hK]; exact hG.new h1
  have kW : HWk H K1 := by rw [← hK]; exact HWk.new h1 (HWk.refl _)
  clear hK
  by_cases c0 : j.name = []
  · simp -implicitDefEqProofs [c0]
    exact kW
  · have c1 : ¬ j.name.length < 1 := by
      have := List.length_pos_iff.2 c0
      omega
    have c1' : ¬ (j.name.length : Int) < 1 := by omega
    by_cases c2 : 32 < j.name.length
    · have c2' : (32 : Int) < (j.name.length : Int) := by omega
      simp -implicitDefEqProofs [k1, c0, c1', c2, c2']
      exact kW
    · have c2' : ¬ (32 : Int) < (j.name.length : Int) := by omega
      simp -implicitDefEqProofs [k1, c0, c1', c2, c2']
      have hp := c_cronParse kG j.ex hs
      generalize cronK j.ex = p at *
      obtain ⟨x, e⟩ := p
      simp only at hp ⊢
      refine ACall.eq hp ?_
      simp -implicitDefEqProofs
      refine AAlloc.intro fun b3 h3 => ?_
      have n13 : b1 ≠ b3 := by intro e; subst e; rw [k1] at h3; cases h3
      have kW3 : ∀ o, HWk H (K1.set b3 o) := fun o => HWk.new (kW.none h3) kW
      by_cases he : e = 0
      · subst he
        simp -implicitDefEqProofs [n13, k1]
        generalize hK : Heap.set K1 b3 _ = K3
        have k3 : K3 b1 = some (.cells (jbC j t) 25) := by rw [← hK]; simp [Heap.set, n13, k1]
        have kW3 : HWk H K3 := by rw [← hK]; exact kW3 _
        clear hK
        by_cases c3 : 8 < j.deps.length
        · have c3' : (8 : Int) < (j.deps.length : Int) := by omega
          simp -implicitDefEqProofs [c3, c3']
          exact kW3
        · have c3' : ¬ (8 : Int) < (j.deps.length : Int) := by omega
          by_cases q0 : j.pol < 1
          · simp -implicitDefEqProofs [k3, c3, c3', q0, badJ]
            exact kW3
          · by_cases q1 : 3 < j.pol
            · simp -implicitDefEqProofs [k3, c3, c3', q0, q1, badJ]
              exact kW3
            · by_cases q2 : j.gr < 0
              · simp -implicitDefEqProofs [k3, c3, c3', q0, q1, q2, badJ]
                exact kW3
              · by_cases q3 : 604800 < j.gr
                · simp -implicitDefEqProofs [k3, c3, c3', q0, q1, q2, q3, badJ]
                  exact kW3
                · by_cases q4 : j.lim < 1
                  · simp -implicitDefEqProofs [k3, c3, c3', q0, q1, q2, q3, q4, badJ]
                    exact kW3
                  · by_cases q5 : 8 < j.lim
                    · simp -implicitDefEqProofs [k3, c3, c3', q0, q1, q2, q3, q4, q5, badJ]
                      exact kW3
                    · by_cases q6 : j.ret < 0
                      · simp -implicitDefEqProofs [k3, c3, c3', q0, q1, q2, q3, q4, q5, q6, badJ]
                        exact kW3
                      · by_cases q7 : 5 < j.ret
                        · simp -implicitDefEqProofs [k3, c3, c3', q0, q1, q2, q3, q4, q5, q6, q7, badJ]
                          exact kW3
                        · by_cases q8 : j.tim < 1
                          · simp -implicitDefEqProofs [k3, c3, c3', q0, q1, q2, q3, q4, q5, q6, q7, q8, badJ]
                            exact kW3
                          · by_cases q9 : 86400 < j.tim
                            · simp -implicitDefEqProofs [k3, c3, c3', q0, q1, q2, q3, q4, q5, q6, q7, q8, q9, badJ]
                              exact kW3
                            · by_cases q10 : j.seen < -1
                              · simp -implicitDefEqProofs [k3, c3, c3', q0, q1, q2, q3, q4, q5, q6, q7, q8, q9, q10, badJ]
                                exact kW3
                              · by_cases q11 : 13569465600 ≤ j.seen
                                · simp -implicitDefEqProofs [k3, c3, c3', q0, q1, q2, q3, q4, q5, q6, q7, q8, q9, q10, q11, badJ]
                                  exact kW3
                                · simp -implicitDefEqProofs [k3, c3, c3', q0, q1, q2, q3, q4, q5, q6, q7, q8, q9, q10, q11, badJ]
                                  exact kW3
      · simp -implicitDefEqProofs [he]
        exact kW3 _
set_option maxHeartbeats 8000000 in
theorem c_ref14May (j : Jb) (t : Tok) (hs : j.ex.length ≤ 9223372036854775807) : AOk Tryz.prog 65 [jbAV j t] H (.sc (.int .i64 (mayJ j))) H := by
  unfold mayJ
  refine ACalls.into Tryz.func65 rfl Tryz.ntmps65 Tryz.results65 (by simp) ?_
  simp -implicitDefEqProofs
  refine AAlloc.intro fun b1 h1 => ?_
  simp -implicitDefEqProofs
  generalize hK : Heap.set _ b1 _ = K1
  have k1 : K1 b1 = some (.cells (jbC j t) 25) := by rw [← hK]; simp [Heap.set]
  have kW : HWk H K1 := by rw [← hK]; exact HWk.new h1 (HWk.refl _)
  clear hK
  by_cases c1 : j.name = []
  · simp -implicitDefEqProofs [c1]
    exact kW
  · have c1' : ¬ j.name.length < 1 := by
      have := List.length_pos_iff.2 c1
      omega
    have c1e : j.name.isEmpty = false := by simp [c1]
    by_cases c2 : 32 < j.name.length
    · have c2' : (32 : Int) < (j.name.length : Int) := by omega
      simp -implicitDefEqProofs [k1, c1, c1e, c2, c2']
      exact kW
    · have c2' : ¬ (32 : Int) < (j.name.length : Int) := by omega
      simp -implicitDefEqProofs [k1, c1, c1e, c2, c2']
      have hp := c_ref7ParseW (H := K1) j.ex hs
      generalize cronK j.ex = p at *
      obtain ⟨x, e⟩ := p
      simp only at hp ⊢
      refine ACall.eq hp ?_
      simp -implicitDefEqProofs
      refine AAlloc.intro fun b3 h3 => ?_
      have n13 : b1 ≠ b3 := by intro e; subst e; rw [k1] at h3; cases h3
      have kW3 : ∀ o, HWk H (K1.set b3 o) := fun o => HWk.new (kW.none h3) kW
      by_cases he : e = 0
      · subst he
        simp -implicitDefEqProofs [n13, k1]
        generalize hK : Heap.set K1 b3 _ = K3
        have k3 : K3 b1 = some (.cells (jbC j t) 25) := by rw [← hK]; simp [Heap.set, n13, k1]
        have kW3 : HWk H K3 := by rw [← hK]; exact kW3 _
        clear hK
        by_cases c3 : 8 < j.deps.length
        · have c3' : (8 : Int) < (j.deps.length : Int) := by omega
          simp -implicitDefEqProofs [c3, c3']
          exact kW3
        · have c3' : ¬ (8 : Int) < (j.deps.length : Int) := by omega
          by_cases p1 : j.pol = 1
          · by_cases q0 : j.gr < 0
            · simp -implicitDefEqProofs [k3, c3, c3', p1, q0, badJ]
              exact kW3
            · by_cases q1 : 604800 < j.gr
              · simp -implicitDefEqProofs [k3, c3, c3', p1, q0, q1, badJ]
                exact kW3
              · by_cases q2 : j.lim < 1
                · simp -implicitDefEqProofs [k3, c3, c3', p1, q0, q1, q2, badJ]
                  exact kW3
                · by_cases q3 : 8 < j.lim
                  · simp -implicitDefEqProofs [k3, c3, c3', p1, q0, q1, q2, q3, badJ]
                    exact kW3
                  · by_cases q4 : j.ret < 0
                    · simp -implicitDefEqProofs [k3, c3, c3', p1, q0, q1, q2, q3, q4, badJ]
                      exact kW3
                    · by_cases q5 : 5 < j.ret
                      · simp -implicitDefEqProofs [k3, c3, c3', p1, q0, q1, q2, q3, q4, q5, badJ]
                        exact kW3
                      · by_cases q6 : j.tim < 1
                        · simp -implicitDefEqProofs [k3, c3, c3', p1, q0, q1, q2, q3, q4, q5, q6, badJ]
                          exact kW3
                        · by_cases q7 : 86400 < j.tim
                          · simp -implicitDefEqProofs [k3, c3, c3', p1, q0, q1, q2, q3, q4, q5, q6, q7, badJ]
                            exact kW3
                          · by_cases q8 : j.seen < -1
                            · simp -implicitDefEqProofs [k3, c3, c3', p1, q0, q1, q2, q3, q4, q5, q6, q7, q8, badJ]
                              exact kW3
                            · by_cases q9 : 13569465600 ≤ j.seen
                              · have r : 13569465599 < j.seen := by omega
                                simp -implicitDefEqProofs [k3, c3, c3', p1, q0, q1, q2, q3, q4, q5, q6, q7, q8, q9, r, badJ]
                                exact kW3
                              · have r : ¬ 13569465599 < j.seen := by omega
                                simp -implicitDefEqProofs [k3, c3, c3', p1, q0, q1, q2, q3, q4, q5, q6, q7, q8, q9, r, badJ]
                                exact kW3
          · by_cases p2 : j.pol = 2
            · by_cases q0 : j.gr < 0
              · simp -implicitDefEqProofs [k3, c3, c3', p2, q0, badJ]
                exact kW3
              · by_cases q1 : 604800 < j.gr
                · simp -implicitDefEqProofs [k3, c3, c3', p2, q0, q1, badJ]
                  exact kW3
                · by_cases q2 : j.lim < 1
                  · simp -implicitDefEqProofs [k3, c3, c3', p2, q0, q1, q2, badJ]
                    exact kW3
                  · by_cases q3 : 8 < j.lim
                    · simp -implicitDefEqProofs [k3, c3, c3', p2, q0, q1, q2, q3, badJ]
                      exact kW3
                    · by_cases q4 : j.ret < 0
                      · simp -implicitDefEqProofs [k3, c3, c3', p2, q0, q1, q2, q3, q4, badJ]
                        exact kW3
                      · by_cases q5 : 5 < j.ret
                        · simp -implicitDefEqProofs [k3, c3, c3', p2, q0, q1, q2, q3, q4, q5, badJ]
                          exact kW3
                        · by_cases q6 : j.tim < 1
                          · simp -implicitDefEqProofs [k3, c3, c3', p2, q0, q1, q2, q3, q4, q5, q6, badJ]
                            exact kW3
                          · by_cases q7 : 86400 < j.tim
                            · simp -implicitDefEqProofs [k3, c3, c3', p2, q0, q1, q2, q3, q4, q5, q6, q7, badJ]
                              exact kW3
                            · by_cases q8 : j.seen < -1
                              · simp -implicitDefEqProofs [k3, c3, c3', p2, q0, q1, q2, q3, q4, q5, q6, q7, q8, badJ]
                                exact kW3
                              · by_cases q9 : 13569465600 ≤ j.seen
                                · have r : 13569465599 < j.seen := by omega
                                  simp -implicitDefEqProofs [k3, c3, c3', p2, q0, q1, q2, q3, q4, q5, q6, q7, q8, q9, r, badJ]
                                  exact kW3
                                · have r : ¬ 13569465599 < j.seen := by omega
                                  simp -implicitDefEqProofs [k3, c3, c3', p2, q0, q1, q2, q3, q4, q5, q6, q7, q8, q9, r, badJ]
                                  exact kW3
            · by_cases p3 : j.pol = 3
              · by_cases q0 : j.gr < 0
                · simp -implicitDefEqProofs [k3, c3, c3', p3, q0, badJ]
                  exact kW3
                · by_cases q1 : 604800 < j.gr
                  · simp -implicitDefEqProofs [k3, c3, c3', p3, q0, q1, badJ]
                    exact kW3
                  · by_cases q2 : j.lim < 1
                    · simp -implicitDefEqProofs [k3, c3, c3', p3, q0, q1, q2, badJ]
                      exact kW3
                    · by_cases q3 : 8 < j.lim
                      · simp -implicitDefEqProofs [k3, c3, c3', p3, q0, q1, q2, q3, badJ]
                        exact kW3
                      · by_cases q4 : j.ret < 0
                        · simp -implicitDefEqProofs [k3, c3, c3', p3, q0, q1, q2, q3, q4, badJ]
                          exact kW3
                        · by_cases q5 : 5 < j.ret
                          · simp -implicitDefEqProofs [k3, c3, c3', p3, q0, q1, q2, q3, q4, q5, badJ]
                            exact kW3
                          · by_cases q6 : j.tim < 1
                            · simp -implicitDefEqProofs [k3, c3, c3', p3, q0, q1, q2, q3, q4, q5, q6, badJ]
                              exact kW3
                            · by_cases q7 : 86400 < j.tim
                              · simp -implicitDefEqProofs [k3, c3, c3', p3, q0, q1, q2, q3, q4, q5, q6, q7, badJ]
                                exact kW3
                              · by_cases q8 : j.seen < -1
                                · simp -implicitDefEqProofs [k3, c3, c3', p3, q0, q1, q2, q3, q4, q5, q6, q7, q8, badJ]
                                  exact kW3
                                · by_cases q9 : 13569465600 ≤ j.seen
                                  · have r : 13569465599 < j.seen := by omega
                                    simp -implicitDefEqProofs [k3, c3, c3', p3, q0, q1, q2, q3, q4, q5, q6, q7, q8, q9, r, badJ]
                                    exact kW3
                                  · have r : ¬ 13569465599 < j.seen := by omega
                                    simp -implicitDefEqProofs [k3, c3, c3', p3, q0, q1, q2, q3, q4, q5, q6, q7, q8, q9, r, badJ]
                                    exact kW3
              · have hb : badJ j = true := by
                  by_cases g : j.pol < 1
                  · simp [badJ, g]
                  · have g2 : 3 < j.pol := by omega
                    simp [badJ, g2]
                simp -implicitDefEqProofs [k3, c3, c3', p1, p2, p3, hb]
                exact kW3
      · simp -implicitDefEqProofs [he]
        exact kW3 _
end Go.Proofs.YtmoncokklkiikaaGreatDoor
namespace Go.Proofs.YtmoncokklkiikaaGreatDoor
open Rg Go
variable {H : Heap}
theorem c_planMoment (t : Int) : AOk Tryz.prog 128 [.sc (.int .i64 t)] H (.sc (.bool (momP t))) H := by
  unfold momP
  refine ACalls.into Tryz.func128 rfl Tryz.ntmps128 Tryz.results128 (by simp) ?_
  by_cases h : 0 ≤ t
  · simp -implicitDefEqProofs [h]
  · simp -implicitDefEqProofs [h]
structure PRow where
  j : Jb
  x : Ex
  at_ : Int
  over : Bool
abbrev rowC (r : PRow) (t : Rg.Tok) : List AV := jbC r.j t ++ exC r.x ++ [.sc (.int .i64 r.at_), .sc (.bool r.over)]
def PRow.next (r : PRow) (n : Option Nat) : PRow := { r with at_ := optN n, over := n.isNone }
set_option maxHeartbeats 4000000 in
theorem c_steps {b : Nat} {r : PRow} {t : Rg.Tok} (hG : GlobT H) (hb : H b = some (.cells (rowC r t) 229)) (hx : r.x.ok) (hm : mayX r.x = true) {a : Nat} (ha : a < 13569465600) (he : r.at_ = (a : Int)) {n : Option Nat} (hn : IsNext r.x a n) :
    AOk Tryz.prog 176 [.sc (.pointer (some ⟨b, 0, none⟩))] H (.tup []) (H.set b (.cells (rowC (r.next n) t) 229)) := by
  refine ACalls.into Tryz.func176 rfl Tryz.ntmps176 Tryz.results176 (by simp) ?_
  have hA := fun K (h : GlobT K) => c_after h hx hm ha hn
  obtain ⟨j, x, at_, over⟩ := r
  simp only at he
  subst he
  simp only [rowC, List.cons_append, List.nil_append] at hb
  simp -implicitDefEqProofs [hb]
  refine go_draw 14 f_mixed (by decide +kernel) ?_
  simp -implicitDefEqProofs [hb]
  refine AQS.eq (hA _ hG) ?_
  cases n with
  | none =>
    simp -implicitDefEqProofs [outAV, optN, errN, hb, PRow.next]
  | some u =>
    simp -implicitDefEqProofs [outAV, optN, errN, hb, PRow.next]
end Go.Proofs.YtmoncokklkiikaaGreatDoor
namespace Go.Proofs.YtmoncokklkiikaaGreatDoor
open Rg Go
theorem parse_may {k : Int} {s : List UInt8} (h : (parseK k s).2 = 0) : mayB k (parseK k s).1.bits = true := by
  cases hk : isK k with
  | false => unfold parseK at h; rw [if_pos hk] at h; exact absurd h (by decide)
  | true =>
    by_cases hs : 150 < s.length
    · unfold parseK at h; rw [if_neg (by simp [hk]), if_pos hs] at h; exact absurd h (by decide)
    · rw [parse_eq hk (by omega)] at h ⊢
      by_cases h1 : firstErr k (sp 44 s) = 0
      · rw [if_neg (by simp [h1])]
        obtain ⟨a1, a2⟩ := orAll_ok hk h1
        exact may_of hk (a1 (sp_ne _ _)) a2
      · rw [if_pos h1] at h
        exact absurd h h1
theorem set_ok {x : Ex} (hx : x.ok) (j : Nat) {f : Fld} (hf : f.bits < 18446744073709551616) : (x.set j f).ok := by
  unfold Ex.set
  split <;> exact ⟨by first | exact hf | exact hx.a, by first | exact hf | exact hx.b, by first | exact hf | exact hx.c, by first | exact hf | exact hx.d, by first | exact hf | exact hx.e⟩
theorem ex0_ok : ex0.ok := ⟨by decide, by decide, by decide, by decide, by decide⟩
theorem goX_lt : ∀ (L : List (List UInt8)) (j : Nat) (x : Ex), x.ok → (goX L j x).1.ok
  | [], _, _, h => h
  | p :: r, j, x, h => by
    unfold goX
    split
    · exact ex0_ok
    · exact goX_lt r _ _ (set_ok h _ (parse_lt _ _))
theorem cronB_lt (s : List UInt8) : (cronB s).1.ok := by
  unfold cronB
  by_cases h1 : (sp 32 s).length ≠ 5
  · rw [if_pos h1]; exact ex0_ok
  · rw [if_neg h1]
    by_cases h2 : [] ∈ sp 32 s
    · rw [if_pos h2]; exact ex0_ok
    · rw [if_neg h2]; exact goX_lt _ _ _ ex0_ok
theorem cronK_lt (s : List UInt8) : (cronK s).1.ok := by
  unfold cronK
  by_cases h : 400 < s.length
  · rw [if_pos h]; exact ex0_ok
  · rw [if_neg h]; exact cronB_lt _
theorem go5 {p0 p1 p2 p3 p4 : List UInt8} : goX [p0, p1, p2, p3, p4] 0 ex0 =
    if (parseK 0 p0).2 ≠ 0 then (ex0, (parseK 0 p0).2) else if (parseK 1 p1).2 ≠ 0 then (ex0, (parseK 1 p1).2) else if (parseK 2 p2).2 ≠ 0 then (ex0, (parseK 2 p2).2)
    else if (parseK 3 p3).2 ≠ 0 then (ex0, (parseK 3 p3).2) else if (parseK 4 p4).2 ≠ 0 then (ex0, (parseK 4 p4).2) else (⟨(parseK 0 p0).1, (parseK 1 p1).1, (parseK 2 p2).1, (parseK 3 p3).1, (parseK 4 p4).1⟩, 0) := rfl
theorem cronB_may {s : List UInt8} (h : (cronB s).2 = 0) : mayX (cronB s).1 = true := by
  unfold cronB at h ⊢
  by_cases h1 : (sp 32 s).length ≠ 5
  · rw [if_pos h1] at h; exact absurd h (by decide)
  · rw [if_neg h1] at h ⊢
    by_cases h2 : [] ∈ sp 32 s
    · rw [if_pos h2] at h; exact absurd h (by decide)
    · rw [if_neg h2] at h ⊢
      have h3 : (sp 32 s).length = 5 := by omega
      generalize sp 32 s = L at *
      match L, h3 with
      | [p0, p1, p2, p3, p4], _ =>
        rw [go5] at h ⊢
        by_cases e0 : (parseK 0 p0).2 = 0
        · by_cases e1 : (parseK 1 p1).2 = 0
          · by_cases e2 : (parseK 2 p2).2 = 0
            · by_cases e3 : (parseK 3 p3).2 = 0
              · by_cases e4 : (parseK 4 p4).2 = 0
                · rw [if_neg (by simp [e0]), if_neg (by simp [e1]), if_neg (by simp [e2]), if_neg (by simp [e3]), if_neg (by simp [e4])]
                  simp [mayX, parse_may e0, parse_may e1, parse_may e2, parse_may e3, parse_may e4]
                · simp [e0, e1, e2, e3, e4] at h
              · simp [e0, e1, e2, e3] at h
            · simp [e0, e1, e2] at h
          · simp [e0, e1] at h
        · simp [e0] at h
theorem cronK_may {s : List UInt8} (h : (cronK s).2 = 0) : mayX (cronK s).1 = true := by
  unfold cronK at h ⊢
  split at h
  · exact absurd h (by decide)
  · rw [if_neg (by assumption)]
    exact cronB_may h
end Go.Proofs.YtmoncokklkiikaaGreatDoor
namespace Go.Proofs.YtmoncokklkiikaaGreatDoor
open Rg Go
variable {H : Heap}
theorem up_raw {sz : Nat} {H0 K K' : Heap} {e : TypeId} {xs : List AV} {v : AV} (h : RawRowZ sz H0 e xs v K) (hl : HLe K K') : RawRowZ sz H0 e xs v K' :=
  ⟨h.1.trans hl, h.2.imp id fun ⟨g, zs, cap, h1, h2, h3, h4⟩ => ⟨g, zs, cap, h1, h2, hl _ _ h3, h4⟩⟩
theorem form_raw {sz : Nat} {H0 K : Heap} {e : TypeId} {xs : List AV} {v : AV} (h : RawRowZ sz H0 e xs v K) : ∃ A cap, v = .sc (.slice A xs.length cap) := by
  rcases h.2 with ⟨rfl, rfl⟩ | ⟨g, zs, cap, _, rfl, _⟩
  · exact ⟨_, _, rfl⟩
  · exact ⟨_, _, rfl⟩
def liveJ (j : Jb) : Bool := !j.pau && decide (mayJ j = 0)
noncomputable def nextOf (x : Ex) (a : Nat) : Option Nat := Classical.choose (next_ex x a)
theorem nextOf_is (x : Ex) (a : Nat) : IsNext x a (nextOf x a) := Classical.choose_spec (next_ex x a)
noncomputable def firstRow (a : Nat) (j : Jb) : PRow := (⟨j, (cronK j.ex).1, a, false⟩ : PRow).next (nextOf (cronK j.ex).1 a)
noncomputable def rowsP (js : List Jb) (a : Nat) : List PRow := (js.filter liveJ).map (firstRow a)
abbrev prAV (r : PRow) : AV := .agg (rowC r .no)
theorem live_ex {j : Jb} (h : mayJ j = 0) : (cronK j.ex).2 = 0 := by
  unfold mayJ at h
  split at h
  · cases h
  · split at h
    · cases h
    · split at h
      · rename_i hc; exact absurd h hc
      · rename_i hc; exact Classical.not_not.1 hc
theorem rowsP_take {js : List Jb} {a i : Nat} (h : i < js.length) : rowsP (js.take (i + 1)) a = rowsP (js.take i) a ++ (if liveJ js[i] = true then [firstRow a js[i]] else []) := by
  unfold rowsP
  rw [List.take_succ_eq_append_getElem h, List.filter_append, List.map_append]
  congr 1
  cases hl : liveJ js[i] <;> simp [hl]
noncomputable def rowZB : Bool := match tzero Tryz.prog 229 with
  | some z => z.cells.toList.all fun q => q.oneCell'
  | none => true
theorem rowZB_ok : rowZB = true := by kernel_rfl
theorem rowZero : ∀ z, tzero Tryz.prog 229 = some z → ∀ q ∈ z.cells.toList, q.oneCell' = true := by
  intro z hz q hq
  have h := rowZB_ok
  unfold rowZB at h
  rw [hz] at h
  exact List.all_eq_true.1 h q hq
set_option maxHeartbeats 8000000 in
theorem c_planRows (hG : Glob H) (hT : GlobT H) (js : List Jb) {a : Nat} (ha : a < 13569465600) (hjs : js.length ≤ 1000000) (hex : ∀ j ∈ js, j.ex.length ≤ 9223372036854775807) :
    ACalls Tryz.prog 174 [.sl (js.map fun j => jbAV j .no) .no, .sc (.int .i64 (a : Int))] H (fun v K => RawRowZ 24 H 229 ((rowsP js a).map prAV) v K) := by
  refine ACalls.into Tryz.func174 rfl Tryz.ntmps174 Tryz.results174 (by simp) ?_
  simp -implicitDefEqProofs
  refine AGo.roundsB 5 (fun μ ρ K => ∃ (i : Nat) (xs : List PRow) (A : Option Addr) (cap : Nat), μ = js.length - i ∧ i ≤ js.length ∧ xs = rowsP (js.take i) a ∧ xs.length ≤ i ∧ ρ 1 = .sc (.int .i64 (a : Int)) ∧ ρ 11 = .sl (js.map fun j => jbAV j .no) .no ∧ ρ 12 = .sc (.int .i64 (js.length : Int)) ∧ ρ 13 = .sc (.int .i64 (i : Int)) ∧ ρ 5 = .sc (.slice A xs.length cap) ∧ RawRowZ 24 H 229 (xs.map prAV) (.sc (.slice A xs.length cap)) K) ?_ (m := js.length) (by simp)
    ⟨0, [], none, 0, by omega, by omega, by simp [rowsP], by simp, by simp, by simp, by simp, by simp, by simp, RawRowZ.none⟩
  rintro μ ρ K ih ⟨i, xs, A, cap, rfl, hi, hxs, hxl, r1, r11, r12, r13, r5, hR⟩
  rcases Nat.lt_or_ge i js.length with hlt | hge
  · obtain ⟨j, hj, _⟩ := getAt hlt
    have hjx := hex j (by rw [← hj]; exact List.getElem_mem _)
    have hst := rowsP_take (a := a) hlt
    rw [hj, ← hxs] at hst
    have hw1 : IntKind.i64.wrap ((i : Int) + 1) = ((i + 1 : Nat) : Int) := wadd (b := 1) rfl (by omega)
    have kG := hG.le hR.1
    have kT := hT.wk hR.1
    simp -implicitDefEqProofs [r11, r12, r13, hlt, hj]
    refine AAlloc.intro fun b7 h7 => ?_
    simp -implicitDefEqProofs
    generalize hK : Heap.set K b7 _ = K1
    have q7 : K1 b7 = some (.cells (jbC j .no) 25) := by rw [← hK]; simp [Heap.set]
    have l1 : HLe K K1 := by rw [← hK]; exact HLe.set_fresh h7
    clear hK
    cases hp : j.pau with
    | true =>
      have hl : liveJ j = false := by unfold liveJ; rw [hp]; rfl
      rw [hl, if_neg (by simp), List.append_nil] at hst
      simp -implicitDefEqProofs [q7, hp, r13, hw1]
      exact AGo.again ih (m' := js.length - (i + 1)) (by omega) (HLe.refl _) ⟨i + 1, xs, A, cap, rfl, by omega, hst.symm, by omega, by simp [r1], by simp [r11], by simp [r12], by simp, by simp [r5], up_raw hR l1⟩
    | false =>
      have hmay := c_jobMay (kG.le l1) j .no (by omega)
      unfold jbAV jbC at hmay
      rw [hp] at hmay
      simp -implicitDefEqProofs [q7, hp]
      first | refine ACall.eq hmay ?_ | refine AQS.eq hmay ?_
      by_cases hm : mayJ j = 0
      · have hl : liveJ j = true := by unfold liveJ; rw [hp, hm]; rfl
        rw [hl, if_pos rfl] at hst
        have hcp := c_cronParse (kG.le l1) j.ex (by omega)
        have hxo := cronK_lt j.ex
        have hxm := cronK_may (live_ex hm)
        obtain ⟨fr, hfr⟩ : ∃ r, firstRow a j = r := ⟨_, rfl⟩
        rw [hfr] at hst
        unfold firstRow at hfr
        generalize (cronK j.ex).1 = x at *
        simp -implicitDefEqProofs [hm, q7]
        refine ACall.eq hcp ?_
        simp -implicitDefEqProofs
        refine AAlloc.intro fun b8 h8 => ?_
        have n78 : b7 ≠ b8 := by intro e; subst e; rw [q7] at h8; cases h8
        simp -implicitDefEqProofs [n78, q7, r1]
        have l2 : ∀ o, HLe K (K1.set b8 o) := fun o => l1.trans (HLe.set_fresh h8)
        generalize hK2 : Heap.set K1 b8 _ = K2
        have l2 : HLe K K2 := by rw [← hK2]; exact l2 _
        clear hK2
        refine AAlloc.intro fun b10 h10 => ?_
        simp -implicitDefEqProofs
        generalize hK : Heap.set K2 b10 _ = K3
        have q10 : K3 b10 = some (.cells (rowC ⟨j, x, a, false⟩ .no) 229) := by rw [← hK]; simp [Heap.set]
        have l3 : HLe K2 K3 := by rw [← hK]; exact HLe.set_fresh h10
        clear hK
        refine ACall.eq (c_steps (kT.wk (l2.trans l3)) q10 hxo hxm ha rfl (nextOf_is x a)) ?_
        have l4 : HLe K (K3.set b10 (.cells (rowC fr .no) 229)) := l2.trans (HLe.set_new l3 h10)
        rw [hfr]
        simp -implicitDefEqProofs [r5]
        have hsz : szs 24 (xs.map prAV) = true := szs_map (f := prAV) (fun _ => rfl) _
        refine ACall.intro (app_rawZ (by decide) (e := 229) el_226 rowZero (up_raw hR l4) hsz (y := prAV fr) rfl (by simp; omega) (by simp [maxLen]; omega)) fun v' K' hR' => ?_
        have ex : (xs.map prAV) ++ [prAV fr] = (xs ++ [fr]).map prAV := by simp
        rw [ex] at hR'
        obtain ⟨A', cap', rfl⟩ := form_raw hR'
        rw [List.length_map] at hR'
        simp -implicitDefEqProofs [r13, hw1]
        exact AGo.again ih (m' := js.length - (i + 1)) (by omega) (HLe.refl _) ⟨i + 1, xs ++ [fr], A', cap', rfl, by omega, hst.symm, by simp; omega, by simp [r1], by simp [r11], by simp [r12], by simp, by simp, hR'⟩
      · have hl : liveJ j = false := by unfold liveJ; rw [hp]; simp [hm]
        rw [hl, if_neg (by simp), List.append_nil] at hst
        simp -implicitDefEqProofs [q7, hp, r13, hw1, hm]
        exact AGo.again ih (m' := js.length - (i + 1)) (by omega) (HLe.refl _) ⟨i + 1, xs, A, cap, rfl, by omega, hst.symm, by omega, by simp [r1], by simp [r11], by simp [r12], by simp, by simp [r5], up_raw hR l1⟩
  · have hn : ¬ i < js.length := by omega
    rw [List.take_of_length_le hge] at hxs
    subst hxs
    simp -implicitDefEqProofs [r5, r12, r13, hn]
    exact ⟨_, _, wk_refl _, HWk.refl _, hR⟩
end Go.Proofs.YtmoncokklkiikaaGreatDoor
