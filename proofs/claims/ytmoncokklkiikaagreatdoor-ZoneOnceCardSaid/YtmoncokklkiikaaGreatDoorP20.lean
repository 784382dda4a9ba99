/- Zones: which may be, the offset at a moment; clocks joined. Zones: local clocks, the moments of a clock. Rows of two at most, put in order; the moments of a clock. Zones' texts, plainly: what is told, what is read; what was told is read as it was. Zones: the moments of a clock, when it begins. The firings of a time, gone over by a loop: next.All, next.Count. -/
import Derived.Test.YtmoncokklkiikaaGreatDoorP15
import Derived.Test.YtmoncokklkiikaaGreatDoorP19
import Derived.Test.YtmoncokklkiikaaGreatDoorP13
import Derived.Lib.ItoaMem
import Derived.Lib.ParseIntBCases
set_option linter.unusedSimpArgs false
set_option linter.unusedVariables false
set_option linter.unnecessarySimpa false
namespace Go.Proofs.YtmoncokklkiikaaGreatDoor
open Rg Go
variable {H : Heap}
abbrev chAV (c : Int × Int) : AV := .agg [.sc (.int .i64 c.1), .sc (.int .i64 c.2)]
abbrev zC (z : Zn) (t : Rg.Tok) : List AV := [.sc (.int .i64 z.first), .sl (z.l.map chAV) t]
abbrev zAV (z : Zn) (t : Rg.Tok) : AV := .agg (zC z t)
theorem tmod60 (n : Int) : (n.tmod 60 = 0) ↔ n % 60 = 0 := by
  rw [← Int.dvd_iff_tmod_eq_zero, ← Int.dvd_iff_emod_eq_zero]
theorem c_zOffset (n : Int) : AOk Tryz.prog 105 [.sc (.int .i64 n)] H (.sc (.bool (offOk n))) H := by
  have e := tmod60 n
  unfold offOk
  refine ACalls.into Tryz.func105 rfl Tryz.ntmps105 Tryz.results105 (by simp) ?_
  by_cases h1 : n % 60 = 0
  · have h1' : n.tmod 60 = 0 := e.2 h1
    by_cases h2 : -50400 ≤ n
    · simp -implicitDefEqProofs [h1, h1', h2]
    · simp -implicitDefEqProofs [h1, h1', h2]
  · have h1' : ¬ n.tmod 60 = 0 := fun h => h1 (e.1 h)
    simp -implicitDefEqProofs [h1, h1']
def momOk (t : Int) : Bool := decide (0 ≤ t) && decide (t < 13569465600)
theorem c_zMoment (t : Int) : AOk Tryz.prog 98 [.sc (.int .i64 t)] H (.sc (.bool (momOk t))) H := by
  unfold momOk
  refine ACalls.into Tryz.func98 rfl Tryz.ntmps98 Tryz.results98 (by simp) ?_
  by_cases h1 : 0 ≤ t
  · simp -implicitDefEqProofs [h1]
  · simp -implicitDefEqProofs [h1]
set_option maxHeartbeats 1000000 in
theorem c_zAt (z : Zn) (t : Rg.Tok) (m : Int) (hz : z.l.length ≤ 1000000) : AOk Tryz.prog 106 [zAV z t, .sc (.int .i64 m)] H (.sc (.int .i64 (atZ z m))) H := by
  unfold atZ
  refine ACalls.into Tryz.func106 rfl Tryz.ntmps106 Tryz.results106 (by simp) ?_
  simp -implicitDefEqProofs
  refine AAlloc.intro fun b1 h1 => ?_
  simp -implicitDefEqProofs
  generalize hK : Heap.set _ b1 _ = K
  have kW : HLe H K := by rw [← hK]; exact HLe.set_fresh h1
  clear hK
  refine AGo.rounds (fun mm ρ K2 => ∃ i f, mm = z.l.length - i ∧ i ≤ z.l.length ∧ atL f (z.l.drop i) m = atL z.first z.l m ∧ ρ 5 = .sc (.int .i64 f) ∧ ρ 13 = .sc (.int .i64 (i : Int)) ∧ ρ 1 = .sc (.int .i64 m) ∧ ρ 11 = .sl (z.l.map chAV) t ∧ ρ 12 = .sc (.int .i64 (z.l.length : Int)) ∧ K2 = K) ?_ (m := z.l.length) (HLe.refl _)
    ⟨0, z.first, rfl, by omega, rfl, by simp, by simp, by simp, by simp, by simp, rfl⟩
  rintro mm ρ K2 ih ⟨i, f, rfl, hi, hat, r5, r13, r1, r11, r12, rfl⟩
  rcases Nat.lt_or_ge i z.l.length with hlt | hge
  · obtain ⟨c, hej, hc⟩ := getAt hlt
    have hlt' : (i : Int) < (z.l.length : Int) := by omega
    have hw1 : IntKind.i64.wrap ((i : Int) + 1) = (i : Int) + 1 := wrap_i64 (by omega) (by omega)
    have hd : z.l.drop i = (c.1, c.2) :: z.l.drop (i + 1) := by rw [List.drop_eq_getElem_cons hlt, hej]
    rw [hd] at hat
    simp only [atL] at hat
    simp -implicitDefEqProofs [r5, r13, r1, r11, r12, hlt, hlt', hej]
    refine AAlloc.intro fun b7 h7 => ?_
    by_cases hm : m < c.1
    · rw [if_pos hm] at hat
      simp -implicitDefEqProofs [r5, r13, r1, r11, r12, hm]
      rw [← hat]
      exact ⟨rfl, (HLe.set_new kW (kW.none h7)).wk⟩
    · rw [if_neg hm] at hat
      simp -implicitDefEqProofs [r5, r13, r1, r11, r12, hm, hw1]
      exact AGo.again ih (m' := z.l.length - (i + 1)) (by omega) (HLe.set_fresh h7) ⟨i + 1, c.2, rfl, by omega, hat, by simp, by simp, by simp [r1], by simp [r11], by simp [r12], rfl⟩
  · have hn : ¬ (i : Int) < (z.l.length : Int) := by omega
    have hn' : ¬ i < z.l.length := by omega
    rw [List.drop_of_length_le hge] at hat
    simp only [atL] at hat
    simp -implicitDefEqProofs [r5, r13, r1, r11, r12, hn, hn', hat]
    exact kW.wk
set_option maxHeartbeats 4000000 in
theorem c_zMay (z : Zn) (t : Rg.Tok) : AOk Tryz.prog 33 [zAV z t] H (.sc (.bool (mayZ z))) H := by
  refine ACalls.into Tryz.func33 rfl Tryz.ntmps33 Tryz.results33 (by simp) ?_
  simp -implicitDefEqProofs
  refine AAlloc.intro fun b1 h1 => ?_
  simp -implicitDefEqProofs
  generalize hK : Heap.set _ b1 _ = K1
  have k1 : K1 b1 = some (.cells (zC z t) 55) := by rw [← hK]; simp [Heap.set]
  have kW : HLe H K1 := by rw [← hK]; exact HLe.set_fresh h1
  clear hK
  refine ACall.eq (c_zOffset _) ?_
  cases h0 : offOk z.first with
  | false =>
    have hr : mayZ z = false := by simp [mayZ, h0]
    rw [hr]
    simp -implicitDefEqProofs [k1]
    exact kW.wk
  | true =>
    by_cases hl : 64 < z.l.length
    · have hl' : (64 : Int) < (z.l.length : Int) := by omega
      have hr : mayZ z = false := by simp [mayZ, h0]; omega
      rw [hr]
      simp -implicitDefEqProofs [k1, hl, hl']
      exact kW.wk
    · have hl' : ¬ (64 : Int) < (z.l.length : Int) := by omega
      have hr : mayZ z = mayL none z.l := by simp [mayZ, h0]; omega
      rw [hr]
      simp -implicitDefEqProofs [k1, hl, hl']
      refine AGo.rounds (fun mm ρ K2 => ∃ (i : Nat) (p : Option Int), mm = z.l.length - i ∧ i ≤ z.l.length ∧ mayL p (z.l.drop i) = mayL none z.l ∧ (i = 0 ∧ p = none ∨ ∃ (j : Nat) (d : Int × Int), i = j + 1 ∧ z.l[j]? = some d ∧ p = some d.1 ∧ 0 ≤ d.1 ∧ d.1 < 13569465600) ∧
        ρ 1 = .sc (.pointer (some ⟨b1, 0, none⟩)) ∧ ρ 16 = .sl (z.l.map chAV) t ∧ ρ 17 = .sc (.int .i64 (z.l.length : Int)) ∧ ρ 18 = .sc (.int .i64 (i : Int)) ∧ K2 = K1) ?_ (m := z.l.length) (HLe.refl _)
        ⟨0, none, rfl, by omega, rfl, .inl ⟨rfl, rfl⟩, by simp, by simp, by simp, by simp, rfl⟩
      rintro mm ρ K2 ih ⟨i, p, rfl, hi, hat, hp, r1, r16, r17, r18, rfl⟩
      rcases Nat.lt_or_ge i z.l.length with hlt | hge
      · obtain ⟨c, hej, hc⟩ := getAt hlt
        have hlt' : (i : Int) < (z.l.length : Int) := by omega
        have hw1 : IntKind.i64.wrap ((i : Int) + 1) = (i : Int) + 1 := wrap_i64 (by omega) (by omega)
        have hd : z.l.drop i = (c.1, c.2) :: z.l.drop (i + 1) := by rw [List.drop_eq_getElem_cons hlt, hej]
        rw [hd] at hat
        simp -implicitDefEqProofs [r1, r16, r17, r18, hlt, hlt', hej]
        refine AAlloc.intro fun b4 h4 => ?_
        have n14 : b1 ≠ b4 := by intro e; subst e; rw [k1] at h4; cases h4
        have kW4 : ∀ o, HWk H (K2.set b4 o) := fun o => HWk.new (kW.none h4) kW.wk
        simp -implicitDefEqProofs [r1, r16, r17, r18]
        have hm60 := tmod60 c.1
        cases ho : offOk c.2 with
        | false =>
          have hr2 : mayL none z.l = false := by rw [← hat]; simp [mayL, ho]
          rw [hr2]
          refine go_draw 33 f_mixed (by decide +kernel) ?_
          simp -implicitDefEqProofs [n14]
          refine AQS.eq (c_zOffset _) ?_
          rw [ho]
          simp -implicitDefEqProofs
          exact kW4 _
        | true =>
          cases hk : momOk c.1 with
          | false =>
            have hr2 : mayL none z.l = false := by
              rw [← hat]
              unfold momOk at hk
              simp only [Bool.and_eq_false_iff, decide_eq_false_iff_not] at hk
              cases hq : mayL p ((c.1, c.2) :: z.l.drop (i + 1)) with
              | false => rfl
              | true => rw [mayL_cons] at hq; omega
            rw [hr2]
            refine go_draw 33 f_mixed (by decide +kernel) ?_
            simp -implicitDefEqProofs [n14]
            refine AQS.eq (c_zOffset _) ?_
            rw [ho]
            simp -implicitDefEqProofs
            refine AQS.eq (c_zMoment _) ?_
            rw [hk]
            simp -implicitDefEqProofs
            exact kW4 _
          | true =>
            have hk' : 0 ≤ c.1 ∧ c.1 < 13569465600 := by simpa [momOk] using hk
            by_cases h60 : c.1 % 60 = 0
            · have h60' := hm60.2 h60
              rcases hp with ⟨rfl, rfl⟩ | ⟨j, d, hij, hjd, rfl, hd0, hd1⟩
              · have hnx : mayL (some c.1) (z.l.drop (0 + 1)) = mayL none z.l := by
                  rw [← hat]; simp [mayL, ho, hk', h60]
                refine go_draw 33 f_mixed (by decide +kernel) ?_
                simp -implicitDefEqProofs [n14]
                refine AQS.eq (c_zOffset _) ?_
                rw [ho]
                simp -implicitDefEqProofs
                refine AQS.eq (c_zMoment _) ?_
                rw [hk]
                simp -implicitDefEqProofs [h60', r18, wrap_i64]
                refine AGo.again ih (m' := z.l.length - (0 + 1)) (by omega) (HLe.set_fresh h4) ?_
                exact ⟨0 + 1, some c.1, rfl, by omega, hnx, .inr ⟨0, c, rfl, by rw [List.getElem?_eq_getElem hlt, hej], rfl, hk'.1, hk'.2⟩, by simp [r1], by simp [r16], by simp [r17], by simp, rfl⟩
              · have hjl : j < z.l.length := by omega
                have hjd' : z.l[j] = d := by rw [List.getElem?_eq_getElem hjl] at hjd; exact Option.some.inj hjd
                have hw2 : IntKind.i64.wrap ((i : Int) - 1) = (j : Int) := by rw [wrap_i64 (by omega) (by omega)]; omega
                have hw3 : IntKind.i64.wrap (c.1 - d.1) = c.1 - d.1 := wrap_i64 (by omega) (by omega)
                have hi0 : 0 < i := by omega
                have hi0' : (0 : Int) < (i : Int) := by omega
                by_cases hap : c.1 - d.1 < 172800
                · have hr2 : mayL none z.l = false := by
                    rw [← hat]; simp [mayL, ho, hk', h60]; omega
                  rw [hr2]
                  refine go_draw 33 f_mixed (by decide +kernel) ?_
                  simp -implicitDefEqProofs [n14]
                  refine AQS.eq (c_zOffset _) ?_
                  rw [ho]
                  simp -implicitDefEqProofs
                  refine AQS.eq (c_zMoment _) ?_
                  rw [hk]
                  simp -implicitDefEqProofs [h60', hi0, hi0', n14, k1, hw2, hjl, hjd', hw3, hap, r1, r18]
                  exact kW4 _
                · have hnx : mayL (some c.1) (z.l.drop (i + 1)) = mayL none z.l := by
                    have : d.1 + 172800 ≤ c.1 := by omega
                    rw [← hat]; simp [mayL, ho, hk', h60, this]
                  refine go_draw 33 f_mixed (by decide +kernel) ?_
                  simp -implicitDefEqProofs [n14]
                  refine AQS.eq (c_zOffset _) ?_
                  rw [ho]
                  simp -implicitDefEqProofs
                  refine AQS.eq (c_zMoment _) ?_
                  rw [hk]
                  simp -implicitDefEqProofs [h60', hi0, hi0', n14, k1, hw2, hjl, hjd', hw3, hap, r1, r18, hw1]
                  refine AGo.again ih (m' := z.l.length - (i + 1)) (by omega) (HLe.set_fresh h4) ?_
                  exact ⟨i + 1, some c.1, rfl, by omega, hnx, .inr ⟨i, c, rfl, by rw [List.getElem?_eq_getElem hlt, hej], rfl, hk'.1, hk'.2⟩, by simp [r1], by simp [r16], by simp [r17], by simp [hw1], rfl⟩
            · have h60' : ¬ c.1.tmod 60 = 0 := fun h => h60 (hm60.1 h)
              have hr2 : mayL none z.l = false := by rw [← hat]; simp [mayL, h60]
              rw [hr2]
              refine go_draw 33 f_mixed (by decide +kernel) ?_
              simp -implicitDefEqProofs [n14]
              refine AQS.eq (c_zOffset _) ?_
              rw [ho]
              simp -implicitDefEqProofs
              refine AQS.eq (c_zMoment _) ?_
              rw [hk]
              simp -implicitDefEqProofs [h60']
              exact kW4 _
      · have hn : ¬ (i : Int) < (z.l.length : Int) := by omega
        have hn' : ¬ i < z.l.length := by omega
        rw [List.drop_of_length_le hge] at hat
        simp only [mayL] at hat
        rw [← hat]
        simp -implicitDefEqProofs [r17, r18, hn, hn']
        exact kW.wk
end Go.Proofs.YtmoncokklkiikaaGreatDoor
namespace Go.Proofs.YtmoncokklkiikaaGreatDoor
open Rg Go
variable {H : Heap}
def offsetZ (z : Zn) (m : Int) : Int := if mayZ z = true then atZ z m else 0
theorem z_len {z : Zn} (h : mayZ z = true) : z.l.length ≤ 64 := by
  simp only [mayZ, Bool.and_eq_true, decide_eq_true_eq] at h
  exact h.1.2
theorem c_zOffsetAt (z : Zn) (t : Rg.Tok) (m : Int) : AOk Tryz.prog 38 [zAV z t, .sc (.int .i64 m)] H (.sc (.int .i64 (offsetZ z m))) H := by
  unfold offsetZ
  refine ACalls.into Tryz.func38 rfl Tryz.ntmps38 Tryz.results38 (by simp) ?_
  simp -implicitDefEqProofs
  refine AAlloc.intro fun b1 h1 => ?_
  have kW : ∀ o, HWk H (H.set b1 o) := fun o => HWk.new h1 (HWk.refl _)
  simp -implicitDefEqProofs
  refine ACall.eq (c_zMay z t) ?_
  cases h : mayZ z with
  | false =>
    simp -implicitDefEqProofs
    exact kW _
  | true =>
    simp -implicitDefEqProofs
    refine ACall.eq (c_zAt z t m (by have := z_len h; omega)) ?_
    simp -implicitDefEqProofs
    exact kW _
def momI (c : Clk) : Int := if mayC c = true then (momC c.y.toNat c.m.toNat c.d.toNat c.h.toNat c.mi.toNat c.s.toNat : Nat) else 0
def joinE (c : Clk) : Int := if mayC c = true then 0 else 2
theorem mayC_cases {c : Clk} (h : mayC c = true) : ∃ Y M D hh mi s : Nat, c = ⟨Y, M, D, hh, mi, s, (((daysN Y M D + 4) % 7 : Nat) : Int)⟩ ∧ mayD (Y : Int) (M : Int) (D : Int) = true ∧ hh ≤ 23 ∧ mi ≤ 59 ∧ s ≤ 59 := by
  obtain ⟨y, m, d, h', mi, s, w⟩ := c
  simp only [mayC, Bool.and_eq_true, decide_eq_true_eq] at h
  obtain ⟨⟨⟨⟨⟨⟨⟨h1, h2⟩, h3⟩, h4⟩, h5⟩, h6⟩, hd⟩, hw⟩ := h
  obtain ⟨i, dd, hi, hdd, e1, e2, e3⟩ := mayD_in hd
  generalize 1970 + i / 12 = Y at e1
  generalize i % 12 + 1 = M at e2
  generalize dd + 1 = D at e3
  subst e1 e2 e3
  obtain ⟨h', rfl⟩ := Int.eq_ofNat_of_zero_le h1
  obtain ⟨mi, rfl⟩ := Int.eq_ofNat_of_zero_le h3
  obtain ⟨s, rfl⟩ := Int.eq_ofNat_of_zero_le h5
  exact ⟨Y, M, D, h', mi, s, by rw [hw]; rfl, hd, by omega, by omega, by omega⟩
theorem momI_lt (c : Clk) : 0 ≤ momI c ∧ momI c < 13569465600 := by
  unfold momI
  split
  · rename_i h
    obtain ⟨Y, M, D, hh, mi, s, rfl, hd, h1, h2, h3⟩ := mayC_cases h
    have := (clk_mom hd h1 h2 h3).1
    simp only [Int.toNat_natCast]
    omega
  · omega
theorem momI_clk {t : Nat} (h : t < 13569465600) : momI (clk t) = (t : Int) := by
  unfold momI
  rw [if_pos (mayC_clk h)]
  obtain ⟨i, d, hi, hd, hn⟩ := day_of (n := t / 86400) (by omega)
  have hc := civ_at hi hd
  rw [← hn] at hc
  unfold clk momC
  rw [hc]
  simp only [Int.toNat_natCast, days_of, ← hn]
  omega
theorem c_sJoin (c : Clk) : AOk Tryz.prog 107 [cAV c] H (.tup [.sc (.int .i64 (momI c)), .sc (.int .i64 (joinE c))]) H := by
  unfold momI joinE
  refine ACalls.into Tryz.func107 rfl Tryz.ntmps107 Tryz.results107 (by simp) ?_
  simp -implicitDefEqProofs
  refine AAlloc.intro fun b1 h1 => ?_
  have kW : ∀ o, HWk H (H.set b1 o) := fun o => HWk.new h1 (HWk.refl _)
  simp -implicitDefEqProofs
  refine ACall.eq (c_smay c) ?_
  cases h : mayC c with
  | false =>
    simp -implicitDefEqProofs
    exact kW _
  | true =>
    obtain ⟨Y, M, D, hh, mi, s, rfl, hd, g1, g2, g3⟩ := mayC_cases h
    simp -implicitDefEqProofs
    refine ACall.eq (c_moment hd g1 g2 g3) ?_
    simp -implicitDefEqProofs
    exact kW _
def splitI (u : Int) : Clk := if 0 ≤ u ∧ u < 13569465600 then clk u.toNat else clk0
def splitE (u : Int) : Int := if 0 ≤ u ∧ u < 13569465600 then 0 else 50
theorem c_splitI (u : Int) : AOk Tryz.prog 23 [.sc (.int .i64 u)] H (.tup [cAV (splitI u), .sc (.int .i64 (splitE u))]) H := by
  unfold splitI splitE
  by_cases h : 0 ≤ u ∧ u < 13569465600
  · rw [if_pos h, if_pos h]
    obtain ⟨n, rfl⟩ := Int.eq_ofNat_of_zero_le h.1
    exact c_split_s (by omega)
  · rw [if_neg h, if_neg h]
    exact c_split_bad (by omega)
def localC (z : Zn) (m : Int) : Clk := if mayZ z = true ∧ momOk m = true then splitI (m + atZ z m) else clk0
def localE (z : Zn) (m : Int) : Int := if mayZ z = true then if momOk m = true then splitE (m + atZ z m) else 50 else 2
theorem momOk_iff {t : Int} : momOk t = true ↔ 0 ≤ t ∧ t < 13569465600 := by simp [momOk]
set_option maxHeartbeats 1000000 in
theorem c_zLocal (z : Zn) (t : Rg.Tok) (m : Int) : AOk Tryz.prog 34 [zAV z t, .sc (.int .i64 m)] H (.tup [cAV (localC z m), .sc (.int .i64 (localE z m))]) H := by
  unfold localC localE
  refine ACalls.into Tryz.func34 rfl Tryz.ntmps34 Tryz.results34 (by simp) ?_
  simp -implicitDefEqProofs
  refine AAlloc.intro fun b2 h2 => ?_
  simp -implicitDefEqProofs
  refine AAlloc.intro fun b4 h4 => ?_
  have n24 : b2 ≠ b4 := by intro e; subst e; simp [Heap.set] at h4
  have n42 := n24.symm
  have e4 : H b4 = none := (HLe.set_fresh h2).none h4
  simp -implicitDefEqProofs [n24, n42]
  refine ACall.eq (c_zMay z t) ?_
  cases h : mayZ z with
  | false =>
    simp -implicitDefEqProofs [n24, n42, clk0]
    repeat (first | exact HWk.refl _ | refine HWk.new (by assumption) ?_)
  | true =>
    simp -implicitDefEqProofs [n24, n42]
    refine ACall.eq (c_zMoment m) ?_
    cases hm : momOk m with
    | false =>
      simp -implicitDefEqProofs [n24, n42, clk0]
      repeat (first | exact HWk.refl _ | refine HWk.new (by assumption) ?_)
    | true =>
      have hm' := momOk_iff.1 hm
      have ho := offOk_iff.1 (at_ok h m)
      obtain ⟨u, hu⟩ : ∃ u, m + atZ z m = u := ⟨_, rfl⟩
      have hw : IntKind.i64.wrap (m + atZ z m) = u := by rw [wrap_i64 (by omega) (by omega), hu]
      have hw2 : IntKind.i64.wrap (atZ z m) = atZ z m := wrap_i64 (by omega) (by omega)
      rw [hu]
      simp -implicitDefEqProofs [n24, n42]
      refine ACall.eq (c_zAt z t m (by have := z_len h; omega)) ?_
      simp -implicitDefEqProofs [n24, n42, hw, hw2]
      refine ACall.eq (c_splitI u) ?_
      simp -implicitDefEqProofs [n24, n42]
      repeat (first | exact HWk.refl _ | refine HWk.new (by assumption) ?_)
set_option maxHeartbeats 1000000 in
theorem c_zOffsets (z : Zn) (t : Rg.Tok) (hz : z.l.length ≤ 1000000) : AOk Tryz.prog 154 [zAV z t] H (.sl (z.l.map fun c => i64 c.2) .no) H := by
  refine ACalls.into Tryz.func154 rfl Tryz.ntmps154 Tryz.results154 (by simp) ?_
  simp -implicitDefEqProofs
  refine AAlloc.intro fun b1 h1 => ?_
  simp -implicitDefEqProofs
  generalize hK : Heap.set _ b1 _ = K
  have kW : HLe H K := by rw [← hK]; exact HLe.set_fresh h1
  clear hK
  refine AGo.rounds (fun mm ρ K2 => ∃ (i : Nat) (tk : Rg.Tok), mm = z.l.length - i ∧ i ≤ z.l.length ∧ ρ 3 = .sl ((z.l.map fun c => i64 c.2).take i) tk ∧ ρ 9 = .sc (.int .i64 (i : Int)) ∧ ρ 7 = .sl (z.l.map chAV) t ∧ ρ 8 = .sc (.int .i64 (z.l.length : Int)) ∧ Grows K ((z.l.map fun c => i64 c.2).take i) 1 3 tk K2) ?_ (m := z.l.length) (HLe.refl _)
    ⟨0, .nil, by omega, by omega, by simp, by simp, by simp, by simp, Grows.zero⟩
  rintro mm ρ K2 ih ⟨i, tk, rfl, hi, r3, r9, r7, r8, hg⟩
  rcases Nat.lt_or_ge i z.l.length with hlt | hge
  · obtain ⟨c, hej, hc⟩ := getAt hlt
    have hlt' : (i : Int) < (z.l.length : Int) := by omega
    have hw1 : IntKind.i64.wrap ((i : Int) + 1) = (i : Int) + 1 := wrap_i64 (by omega) (by omega)
    have hlen : ((z.l.map fun c => i64 c.2).take i).length = i := by simp; omega
    have hd : (z.l.map fun c => i64 c.2).take (i + 1) = (z.l.map fun c => i64 c.2).take i ++ [i64 c.2] := by
      rw [List.take_succ_eq_append_getElem (by simpa using hlt)]; simp [hej]
    obtain ⟨xs, hxs⟩ : ∃ xs, (z.l.map fun c => i64 c.2).take i = xs := ⟨_, rfl⟩
    have hsz : szs 1 xs = true := by
      rw [← hxs]
      simp only [szs, List.all_eq_true]
      intro a ha
      obtain ⟨c, _, rfl⟩ := List.mem_map.1 (List.mem_of_mem_take ha)
      rfl
    rw [hxs] at r3 hg hlen hd
    simp -implicitDefEqProofs [r3, r9, r7, r8, hlt, hlt', hej]
    refine AAlloc.intro fun b5 h5 => ?_
    simp -implicitDefEqProofs [r3, r9, r7, r8]
    refine AApp.grows el_106 hg (HLe.set_fresh h5) (by simp) hsz (by simp [szs]) (by simp; omega) (by simp [maxLen]; omega) fun t' K' Hn hg' hl' => ?_
    simp -implicitDefEqProofs [r9, hw1]
    refine AGo.again ih (m' := z.l.length - (i + 1)) (by omega) hl' ?_
    refine ⟨i + 1, t', rfl, by omega, by simp; exact hd.symm, by simp, by simp [r7], by simp [r8], ?_⟩
    rw [hd]
    exact hg'
  · have hn : ¬ (i : Int) < (z.l.length : Int) := by omega
    have hn' : ¬ i < z.l.length := by omega
    have hd : (z.l.map fun c => i64 c.2).take i = z.l.map fun c => i64 c.2 := List.take_of_length_le (by simpa using hge)
    rw [hd] at r3 hg
    simp -implicitDefEqProofs [r3, r9, r8, hn, hn']
    exact (kW.trans hg.le).wk
def idxI (x : Int) : List Int → Nat → Int
  | [], _ => -1
  | y :: r, i => if x = y then (i : Int) else idxI x r (i + 1)
theorem idxI_iff (x : Int) : ∀ (L : List Int) (i : Nat), 0 ≤ idxI x L i ↔ x ∈ L
  | [], i => by simp [idxI]
  | y :: r, i => by
    unfold idxI
    split
    · rename_i h; simp [h]
    · rename_i h; rw [idxI_iff x r (i + 1)]; simp [h]
theorem c_index64 {H0 : Heap} {L : List Int} {v : AV} (x : Int) (hR : RawRow H0 2 (L.map i64) v H) (hL : L.length ≤ 1000000) :
    AOk Tryz.prog 193 [v, .sc (.int .i64 x)] H (.sc (.int .i64 (idxI x L 0))) H := by
  obtain ⟨A, cap, rfl⟩ := hR.form
  rw [List.length_map] at hR ⊢
  generalize hk0 : idxI x L 0 = k0
  refine ACalls.into Tryz.func193 rfl Tryz.ntmps193 Tryz.results193 (by simp) ?_
  simp -implicitDefEqProofs
  refine AGo.rounds (fun mm ρ K2 => ∃ (i : Nat), mm = L.length - i ∧ i ≤ L.length ∧ idxI x (L.drop i) i = k0 ∧ ρ 0 = .sc (.slice A L.length cap) ∧ ρ 1 = .sc (.int .i64 x) ∧ ρ 7 = .sc (.int .i64 (L.length : Int)) ∧ ρ 8 = .sc (.int .i64 (i : Int)) ∧ K2 = H) ?_ (m := L.length) (HLe.refl _)
    ⟨0, by omega, by omega, hk0, by simp, by simp, by simp, by simp, rfl⟩
  rintro mm ρ K2 ih ⟨i, rfl, hi, hx, r0, r1, r7, r8, rfl⟩
  rcases Nat.lt_or_ge i L.length with hlt | hge
  · obtain ⟨y, hy, _⟩ := getAt hlt
    have hw1 : IntKind.i64.wrap ((i : Int) + 1) = (i : Int) + 1 := wrap_i64 (by omega) (by omega)
    rw [List.drop_eq_getElem_cons hlt, hy] at hx
    unfold idxI at hx
    rcases hR.2 with ⟨h1, _⟩ | ⟨g, zs, hg0, hv, hKg, hKm⟩
    · have : L = [] := by simpa using h1
      subst this
      simp at hlt
    · simp only [AV.sc.injEq, Value.slice.injEq, List.length_map] at hv
      obtain ⟨rfl, _, rfl⟩ := hv
      have cx : (L.map i64 ++ zs)[i]? = some (i64 y) := by rw [List.getElem?_append_left (by simp; omega), List.getElem?_map, List.getElem?_eq_getElem hlt, hy]; rfl
      by_cases hxy : x = y
      · rw [if_pos hxy] at hx
        rw [← hx]
        subst hxy
        simp -implicitDefEqProofs [r0, r1, r7, r8, hlt, hKg, cx, i64]
      · rw [if_neg hxy] at hx
        simp -implicitDefEqProofs [r0, r1, r7, r8, hlt, hKg, cx, i64, hxy, hw1]
        refine AGo.again ih (m' := L.length - (i + 1)) (by omega) (HLe.refl _) ⟨i + 1, rfl, by omega, hx, by simp [r0], by simp [r1], by simp [r7], by simp, rfl⟩
  · have hn' : ¬ i < L.length := by omega
    rw [List.drop_of_length_le hge] at hx
    rw [← hx]
    simp -implicitDefEqProofs [r7, r8, hn', idxI]
theorem c_contains64 {H0 : Heap} {L : List Int} {v : AV} (x : Int) (hR : RawRow H0 2 (L.map i64) v H) (hL : L.length ≤ 1000000) :
    AOk Tryz.prog 155 [v, .sc (.int .i64 x)] H (.sc (.bool (decide (x ∈ L)))) H := by
  refine ACalls.into Tryz.func155 rfl Tryz.ntmps155 Tryz.results155 (by simp) ?_
  have hc := c_index64 x hR hL
  have he := idxI_iff x L 0
  generalize idxI x L 0 = k at hc he
  simp -implicitDefEqProofs
  refine ACall.eq hc ?_
  by_cases h : x ∈ L
  · simp -implicitDefEqProofs [h, he.2 h]
  · have : k < 0 := by have := mt he.1 h; omega
    simp -implicitDefEqProofs [h, this]
end Go.Proofs.YtmoncokklkiikaaGreatDoor
namespace Go.Proofs.YtmoncokklkiikaaGreatDoor
open Rg Go
variable {H : Heap}
theorem c_less64 (x y : Int) : AOk Tryz.prog 229 [.sc (.int .i64 x), .sc (.int .i64 y)] H (.sc (.bool (decide (x < y)))) H := by
  have hn : ∀ x, AOk Tryz.prog 265 [.sc (.int .i64 x)] H (.sc (.bool false)) H := fun x => by
    refine ACalls.into Tryz.func265 rfl Tryz.ntmps265 Tryz.results265 (by simp) ?_
    simp -implicitDefEqProofs
  refine ACalls.into Tryz.func229 rfl Tryz.ntmps229 Tryz.results229 (by simp) ?_
  simp -implicitDefEqProofs
  refine ACall.eq (hn x) ?_
  simp -implicitDefEqProofs
def sort2 : List Int → List Int
  | [x, y] => if y < x then [y, x] else [x, y]
  | L => L
set_option maxHeartbeats 1000000 in
theorem c_insert_few {A : Option Addr} {cap n : Nat} (hn : n ≤ 1) : AOk Tryz.prog 223 [.sc (.slice A n cap), .sc (.int .i64 0), .sc (.int .i64 n)] H (.tup []) H := by
  have h1 : ¬ (1 : Int) < (n : Int) := by omega
  have h1' : ¬ 1 < n := by omega
  have hw : IntKind.i64.wrap 1 = 1 := by decide
  refine ACalls.into Tryz.func223 rfl Tryz.ntmps223 Tryz.results223 (by simp) ?_
  simp -implicitDefEqProofs
  refine AGo.rounds (fun _ ρ K => ρ 6 = .sc (.int .i64 1) ∧ ρ 2 = .sc (.int .i64 n) ∧ K = H) ?_ (m := 0) (HLe.refl _) ⟨by simp [hw], by simp, rfl⟩
  rintro m ρ K _ ⟨r6, r2, rfl⟩
  simp -implicitDefEqProofs [r6, r2, h1, h1']
set_option maxHeartbeats 4000000 in
theorem c_insert_two {g : Nat} {x y : Int} {zs : List AV} {cap : Nat} (hg : H g = some (.cells (i64 x :: i64 y :: zs) 2)) :
    AOk Tryz.prog 223 [.sc (.slice (some ⟨g, 0, none⟩) 2 cap), .sc (.int .i64 0), .sc (.int .i64 2)] H (.tup []) (H.set g (.cells ((sort2 [x, y]).map i64 ++ zs) 2)) := by
  have hsame : ¬ y < x → H.set g (.cells ((sort2 [x, y]).map i64 ++ zs) 2) = H := fun h => by
    funext c
    rw [show sort2 [x, y] = [x, y] from if_neg h]
    simp only [Heap.set]
    split <;> simp_all
  have hturn : y < x → (sort2 [x, y]).map i64 ++ zs = i64 y :: i64 x :: zs := fun h => by
    rw [show sort2 [x, y] = [y, x] from if_pos h]
    rfl
  have hw : IntKind.i64.wrap 1 = 1 := by decide
  have hw0 : IntKind.i64.wrap 0 = 0 := by decide
  have hw2 : IntKind.i64.wrap 2 = 2 := by decide
  generalize hK' : H.set g (.cells ((sort2 [x, y]).map i64 ++ zs) 2) = K'
  refine ACalls.into Tryz.func223 rfl Tryz.ntmps223 Tryz.results223 (by simp) ?_
  simp -implicitDefEqProofs
  refine AGo.rounds (fun m ρ K => (m = 1 ∧ ρ 6 = .sc (.int .i64 1) ∧ K = H ∨ m = 0 ∧ ρ 6 = .sc (.int .i64 2) ∧ K = K') ∧ ρ 0 = .sc (.slice (some ⟨g, 0, none⟩) 2 cap) ∧ ρ 1 = .sc (.int .i64 0) ∧ ρ 2 = .sc (.int .i64 2)) ?_ (m := 1) (HLe.refl _)
    ⟨.inl ⟨rfl, by simp [hw], rfl⟩, by simp, by simp, by simp⟩
  rintro m ρ K ih ⟨h, r0, r1, r2⟩
  rcases h with ⟨rfl, r6, rfl⟩ | ⟨rfl, r6, rfl⟩
  · simp -implicitDefEqProofs [r6, r2]
    refine AGo.rounds (fun m ρ K2 => (m = 1 ∧ ρ 7 = .sc (.int .i64 1) ∧ K2 = K ∨ m = 0 ∧ ρ 7 = .sc (.int .i64 0) ∧ K2 = K') ∧ ρ 0 = .sc (.slice (some ⟨g, 0, none⟩) 2 cap) ∧ ρ 1 = .sc (.int .i64 0) ∧ ρ 2 = .sc (.int .i64 2) ∧ ρ 6 = .sc (.int .i64 1)) ?_ (m := 1) (HLe.refl _)
      ⟨.inl ⟨rfl, by simp, rfl⟩, by simp [r0], by simp [r1], by simp [r2], by simp [r6]⟩
    rintro m ρ K2 ih2 ⟨h, r0, r1, r2, r6⟩
    rcases h with ⟨rfl, r7, rfl⟩ | ⟨rfl, r7, rfl⟩
    · simp -implicitDefEqProofs []
      refine go_draw 15 f_mixed (by decide +kernel) ?_
      simp -implicitDefEqProofs [r0, r1, r7, hg, i64, hw0]
      refine AQS.eq (c_less64 y x) ?_
      by_cases hyx : y < x
      · simp -implicitDefEqProofs [hyx]
        refine go_draw3 [0, 1, 2, 3, 4, 5, 6, 7, 8, 10, 11, 12] _ f_mixed (by decide +kernel) HC.nothing ?_
        simp -implicitDefEqProofs []
        repeat (refine aq3_op ?_; simp -implicitDefEqProofs [r0, r7, hw0])
        have cx : (i64 x :: i64 y :: zs)[0]? = some (i64 x) := rfl
        have cy : (i64 x :: i64 y :: zs)[1]? = some (i64 y) := rfl
        refine AWK.two 9 13 (by decide +kernel) ?_ ?_
        · refine AWE.op rfl ?_
          simp -implicitDefEqProofs [hg, cx]
          refine AWK.one 13 (by decide +kernel) ?_
          refine AWE.op rfl ?_
          simp -implicitDefEqProofs [hg, cy]
          refine AWK.one 14 (by decide +kernel) ?_
          refine AWE.op rfl ?_
          simp -implicitDefEqProofs []
          refine AWK.one 15 (by decide +kernel) ?_
          refine AWE.op rfl ?_
          simp -implicitDefEqProofs [i64_lies, i64_cells, hg]
          refine AWS.store hg (HC.setn HC.nothing rfl) ?_
          refine AWK.one 16 (by decide +kernel) ?_
          refine AWE.op rfl ?_
          simp -implicitDefEqProofs []
          refine AWK.one 17 (by decide +kernel) ?_
          refine AWE.op rfl ?_
          simp -implicitDefEqProofs [i64_lies, i64_cells, hg]
          refine AWS.store (by exact if_pos rfl) (HC.setn HC.nothing rfl) ?_
          refine AWK.fin (by decide +kernel) ?_
          simp -implicitDefEqProofs [r7, hw0]
          refine AGo.again ih2 (m' := 0) (by omega) (HLe.refl _) ?_
          exact ⟨.inr ⟨rfl, by simp, by rw [← hK', hturn hyx]⟩, by simp [r0], by simp [r1], by simp [r2], by simp [r6]⟩
        · refine AWE.op rfl ?_
          simp -implicitDefEqProofs [hg, cy]
          refine AWK.one 9 (by decide +kernel) ?_
          refine AWE.op rfl ?_
          simp -implicitDefEqProofs [hg, cx]
          refine AWK.one 14 (by decide +kernel) ?_
          refine AWE.op rfl ?_
          simp -implicitDefEqProofs []
          refine AWK.one 15 (by decide +kernel) ?_
          refine AWE.op rfl ?_
          simp -implicitDefEqProofs [i64_lies, i64_cells, hg]
          refine AWS.store hg (HC.setn HC.nothing rfl) ?_
          refine AWK.one 16 (by decide +kernel) ?_
          refine AWE.op rfl ?_
          simp -implicitDefEqProofs []
          refine AWK.one 17 (by decide +kernel) ?_
          refine AWE.op rfl ?_
          simp -implicitDefEqProofs [i64_lies, i64_cells, hg]
          refine AWS.store (by exact if_pos rfl) (HC.setn HC.nothing rfl) ?_
          refine AWK.fin (by decide +kernel) ?_
          simp -implicitDefEqProofs [r7, hw0]
          refine AGo.again ih2 (m' := 0) (by omega) (HLe.refl _) ?_
          exact ⟨.inr ⟨rfl, by simp, by rw [← hK', hturn hyx]⟩, by simp [r0], by simp [r1], by simp [r2], by simp [r6]⟩
      · simp -implicitDefEqProofs [hyx, r6]
        exact AGo.again ih (m' := 0) (by omega) (HLe.refl _) ⟨.inr ⟨rfl, by simp [hw2], by rw [← hK', hsame hyx]⟩, by simp [r0], by simp [r1], by simp [r2]⟩
    · simp -implicitDefEqProofs []
      refine go_draw 15 f_mixed (by decide +kernel) ?_
      simp -implicitDefEqProofs [r1, r7, r6]
      exact AGo.again ih (m' := 0) (by omega) (HLe.refl _) ⟨.inr ⟨rfl, by simp [hw2], rfl⟩, by simp [r0], by simp [r1], by simp [r2]⟩
  · simp -implicitDefEqProofs [r6, r2]
theorem sort2_len (L : List Int) : (sort2 L).length = L.length := by
  unfold sort2
  split
  · split <;> rfl
  · rfl
theorem sort2_mem (L : List Int) (t : Int) : t ∈ sort2 L ↔ t ∈ L := by
  unfold sort2
  split
  · split
    · simp only [List.mem_cons, List.not_mem_nil, or_false]; exact or_comm
    · rfl
  · rfl
theorem sort2_sorted {L : List Int} (hl : L.length ≤ 2) (hn : L.Nodup) : (sort2 L).Pairwise (· < ·) := by
  match L, hl, hn with
  | [], _, _ => exact List.Pairwise.nil
  | [x], _, _ => simp [sort2]
  | [x, y], _, hn =>
    have hne : x ≠ y := by simpa using hn
    unfold sort2
    simp only
    split
    · simpa
    · simp; omega
  | _ :: _ :: _ :: _, hl, _ => simp at hl
set_option maxHeartbeats 1000000 in
theorem c_sort64 {H0 : Heap} {L : List Int} {v : AV} (hR : RawRow H0 2 (L.map i64) v H) (hL : L.length ≤ 2) :
    ACalls Tryz.prog 156 [v] H (fun _ K => RawRow H0 2 ((sort2 L).map i64) v K) := by
  have hi : ∃ K, AOk Tryz.prog 223 [v, .sc (.int .i64 0), .sc (.int .i64 L.length)] H (.tup []) K ∧ RawRow H0 2 ((sort2 L).map i64) v K := by
    obtain ⟨A, cap, rfl⟩ := hR.form
    rw [List.length_map] at hR ⊢
    match L, hL, hR with
    | [], _, hR => exact ⟨H, c_insert_few (n := 0) (by omega), hR⟩
    | [x], _, hR => exact ⟨H, c_insert_few (n := 1) (by omega), hR⟩
    | [x, y], _, hR =>
      rcases hR.2 with ⟨h1, _⟩ | ⟨g, zs, hg0, hv, hKg, hKm⟩
      · simp at h1
      · simp only [AV.sc.injEq, Value.slice.injEq] at hv
        obtain ⟨rfl, _, rfl⟩ := hv
        refine ⟨_, c_insert_two (x := x) (y := y) (zs := zs) hKg, HLe.set_new hR.1 hg0, .inr ⟨g, zs, hg0, ?_, by simp [Heap.set], ?_⟩⟩
        · have := sort2_len [x, y]
          simp only [List.length_map, this]
        · have := sort2_len [x, y]
          simp only [List.length_map, this] at hKm ⊢
          exact hKm
    | _ :: _ :: _ :: _, hL, _ => simp at hL
  obtain ⟨K, hc, hK⟩ := hi
  obtain ⟨A, cap, rfl⟩ := hR.form
  rw [List.length_map] at hc hK ⊢
  obtain ⟨n, hn⟩ : ∃ n, L.length = n := ⟨_, rfl⟩
  rw [hn] at hc hK ⊢ hL
  have hw : IntKind.i64.wrap (n : Int) = n := wrap_i64 (by omega) (by omega)
  have hu : IntKind.u64.wrap (n : Int) = n := wrap_u64 (by omega) (by omega)
  have hb : ∃ m : Int, AOk Tryz.prog 195 [.sc (.int .u64 n)] H (.sc (.int .i64 m)) H := by
    refine ⟨Lib.bitLen n, ?_⟩
    refine ACalls.into Tryz.func195 rfl Tryz.ntmps195 Tryz.results195 (by simp) ?_
    simp -implicitDefEqProofs
    refine ACall.eq (c_len64 n (by omega) (by omega)) ?_
    simp -implicitDefEqProofs
  obtain ⟨m, hb⟩ := hb
  have hle : (n : Int) ≤ 12 := by omega
  have hle' : n ≤ 12 := by omega
  have hp : AOk Tryz.prog 194 [.sc (.slice A n cap), .sc (.int .i64 0), .sc (.int .i64 n), .sc (.int .i64 m)] H (.tup []) K := by
    refine ACalls.into Tryz.func194 rfl Tryz.ntmps194 Tryz.results194 (by simp) ?_
    simp -implicitDefEqProofs
    refine AGo.rounds (fun _ ρ K => ρ 0 = .sc (.slice A n cap) ∧ ρ 1 = .sc (.int .i64 0) ∧ ρ 2 = .sc (.int .i64 n) ∧ K = H) ?_ (m := 0) (HLe.refl _) ⟨by simp, by simp, by simp, rfl⟩
    rintro _ ρ _ _ ⟨r0, r1, r2, rfl⟩
    simp -implicitDefEqProofs [r0, r1, r2, hw, hle, hle']
    refine ACall.eq hc ?_
    simp -implicitDefEqProofs
  refine ACalls.into Tryz.func156 rfl Tryz.ntmps156 Tryz.results156 (by simp) ?_
  simp -implicitDefEqProofs [hw, hu]
  refine ACall.eq hb ?_
  simp -implicitDefEqProofs
  refine ACall.eq hp ?_
  simp -implicitDefEqProofs
  exact ⟨_, _, wk_refl _, HWk.refl _, hK⟩
end Go.Proofs.YtmoncokklkiikaaGreatDoor
namespace Go.Proofs.YtmoncokklkiikaaGreatDoor
open Rg Go
def dg8 (n : Nat) : UInt8 := UInt8.ofNat (48 + n % 10)
def four (m : Nat) : List UInt8 := [dg8 (m / 1000), dg8 (m / 100), dg8 (m / 10), dg8 m]
def hhmm (n : Nat) : Nat := n / 3600 * 100 + n / 60 % 60
def wrZ (n : Int) : List UInt8 := (if n < 0 then 45 else 43) :: four (hhmm n.natAbs)
def partZ (c : Int × Int) : List UInt8 := Lib.itoa c.1 ++ wrZ c.2
def wordsZ (z : Zn) : List (List UInt8) := wrZ z.first :: z.l.map partZ
def textZ (z : Zn) : List UInt8 := if mayZ z = true then Lib.join (wordsZ z) [32] else []
theorem wrZ_len (n : Int) : (wrZ n).length = 5 := rfl
theorem hhmm_lt {n : Nat} (h : n ≤ 50400) : hhmm n < 1460 := by unfold hhmm; omega
theorem itoa_nat {a : Int} (h : 0 ≤ a) : Lib.itoa a = Lib.decDigits a.toNat := by
  unfold Lib.itoa
  rw [if_neg (by omega)]
theorem mayL_in : ∀ {l : List (Int × Int)} {p : Option Int}, mayL p l = true → ∀ c ∈ l, offOk c.2 = true ∧ 0 ≤ c.1 ∧ c.1 < 13569465600
  | [], _, _, c, hc => by cases hc
  | (a, o) :: r, p, h, c, hc => by
    rw [mayL_cons] at h
    rcases List.mem_cons.1 hc with e | hc
    · subst e; exact ⟨h.1, h.2.1, h.2.2.1⟩
    · exact mayL_in h.2.2.2.2.2 c hc
theorem may_parts {z : Zn} (h : mayZ z = true) : offOk z.first = true ∧ z.l.length ≤ 64 ∧ mayL none z.l = true := by
  simp only [mayZ, Bool.and_eq_true, decide_eq_true_eq] at h
  exact ⟨h.1.1, h.1.2, h.2⟩
theorem digits_le {n : Nat} (h : n < 13569465600) : (Lib.decDigits n).length ≤ 11 := by
  rw [Lib.decDigits_length]
  by_cases hn : n < 10
  · rw [Lib.nDigits_small hn]; omega
  · refine Nat.not_lt.1 fun hc => ?_
    obtain ⟨k, hk⟩ : ∃ k, Lib.nDigits n = k + 12 := ⟨Lib.nDigits n - 12, by omega⟩
    have : ∀ k u : Nat, Lib.nDigits u = k + 1 → 10 ^ k ≤ u ∨ k = 0 := by
      intro k
      induction k with
      | zero => intro u _; exact .inr rfl
      | succ k ih =>
        intro u hu
        by_cases h10 : u < 10
        · rw [Lib.nDigits_small h10] at hu; omega
        · rw [Lib.nDigits_big h10] at hu
          rcases ih (u / 10) (by omega) with h | h
          · left; rw [Nat.pow_succ]; omega
          · subst h; left; simp; omega
    rcases this (k + 11) n (by omega) with h1 | h1
    · have h2 : 10 ^ 11 ≤ 10 ^ (k + 11) := Nat.pow_le_pow_right (by decide) (by omega)
      omega
    · omega
theorem join_len (c : UInt8) (m : Nat) : ∀ (l : List (List UInt8)), (∀ x ∈ l, x.length ≤ m) → (Lib.join l [c]).length ≤ l.length * (m + 1)
  | [], _ => by simp [Lib.join]
  | [x], h => by have := h x (by simp); simp [Lib.join]; omega
  | x :: y :: r, h => by
    have h1 := h x (by simp)
    have h2 := join_len c m (y :: r) fun w hw => h w (by simp [hw])
    rw [join_cons2]
    simp only [List.length_append, List.length_cons] at h2 ⊢
    rw [Nat.add_mul]
    omega
theorem part_len {c : Int × Int} (h0 : 0 ≤ c.1) (h1 : c.1 < 13569465600) : (partZ c).length ≤ 16 := by
  unfold partZ
  rw [itoa_nat h0, List.length_append, wrZ_len]
  have := digits_le (n := c.1.toNat) (by omega)
  omega
theorem text_len (z : Zn) : (textZ z).length ≤ 1105 := by
  unfold textZ
  split
  · rename_i h
    obtain ⟨h1, h2, h3⟩ := may_parts h
    have := join_len 32 16 (wordsZ z) fun x hx => by
      unfold wordsZ at hx
      rcases List.mem_cons.1 hx with e | hx
      · subst e; rw [wrZ_len]; omega
      · obtain ⟨c, hc, rfl⟩ := List.mem_map.1 hx
        have := mayL_in h3 c hc
        exact part_len this.2.1 this.2.2
    unfold wordsZ at this ⊢
    simp only [List.length_cons, List.length_map] at this
    omega
  · simp
end Go.Proofs.YtmoncokklkiikaaGreatDoor
namespace Go.Proofs.YtmoncokklkiikaaGreatDoor
open Rg Go
variable {H : Heap}
theorem atL_mem : ∀ (l : List (Int × Int)) (f t : Int), atL f l t ∈ f :: l.map (·.2)
  | [], f, t => by simp [atL]
  | (a, o) :: r, f, t => by
    unfold atL
    split
    · simp
    · have := atL_mem r o t
      rw [List.map_cons]
      exact List.mem_cons_of_mem _ this
theorem mom_of_row {z : Zn} (hz : mayZ z = true) {l : Int} {xs : List Int} (hn : xs.Nodup) (hm : ∀ t, t ∈ xs ↔ IsMom z l t) : xs.length ≤ 2 ∧ sort2 xs = momZ z l := by
  have hl := mom_len hz hn fun t ht => (hm t).1 ht
  refine ⟨hl, sorted_eq (sort2_sorted hl hn) (mom_sorted z l) fun t => ?_⟩
  rw [sort2_mem, hm, mom_mem hz]
set_option maxHeartbeats 4000000 in
theorem c_zMoments_raw (z : Zn) (t : Rg.Tok) (hz : mayZ z = true) {l : Int} (h0 : 0 ≤ l) (h1 : l < 13569465600) :
    ACalls Tryz.prog 108 [zAV z t, .sc (.int .i64 l)] H (fun v K => ∃ xs, xs = (momZ z l).map i64 ∧ RawRow H 2 xs v K) := by
  have hlen := z_len hz
  have hfo := offOk_iff.1 (may_parts hz).1
  have hin := mayL_in (may_parts hz).2.2
  obtain ⟨ns, hns⟩ : ∃ ns, z.first :: z.l.map (·.2) = ns := ⟨_, rfl⟩
  have hnl : ns.length = z.l.length + 1 := by rw [← hns]; simp
  have hno : ∀ n ∈ ns, -50400 ≤ n ∧ n ≤ 50400 := by
    intro n hn
    rw [← hns] at hn
    rcases List.mem_cons.1 hn with e | hn
    · subst e; exact hfo.2
    · obtain ⟨c, hc, rfl⟩ := List.mem_map.1 hn
      exact (offOk_iff.1 (hin c hc).1).2
  have happ : i64 z.first :: (z.l.map fun c => i64 c.2) = ns.map i64 := by rw [← hns]; simp [Function.comp_def]
  refine ACalls.into Tryz.func108 rfl Tryz.ntmps108 Tryz.results108 (by simp) ?_
  simp -implicitDefEqProofs
  refine AAlloc.intro fun b2 h2 => ?_
  simp -implicitDefEqProofs
  generalize hK : Heap.set _ b2 _ = K1
  have k2 : K1 b2 = some (.cells (zC z t) 55) := by rw [← hK]; simp [Heap.set]
  have kW : HLe H K1 := by rw [← hK]; exact HLe.set_fresh h2
  clear hK
  refine go_draw 8 f_mixed (by decide +kernel) ?_
  simp -implicitDefEqProofs [k2]
  refine AQS.eq (c_zOffsets z t (by omega)) ?_
  simp -implicitDefEqProofs
  refine AQS.app el_106 (.inl (.inr rfl)) (by simp [szs]) (szs_map (f := fun c : Int × Int => i64 c.2) (fun _ => rfl) _) (by simp; omega) (by simp [maxLen]; omega) ?_
  have happ' : [AV.sc (.int .i64 z.first)] ++ (z.l.map fun c => i64 c.2) = ns.map i64 := happ
  rw [happ']
  simp -implicitDefEqProofs
  refine AGo.roundsB 5 (fun μ ρ K => ∃ (i : Nat) (xs : List Int) (A : Option Addr) (cap : Nat), μ = ns.length - i ∧ i ≤ ns.length ∧ xs.Nodup ∧ (∀ t, t ∈ xs ↔ IsMom z l t ∧ l - t ∈ ns.take i) ∧
    ρ 1 = .sc (.int .i64 l) ∧ ρ 2 = .sc (.pointer (some ⟨b2, 0, none⟩)) ∧ ρ 14 = .sl (ns.map i64) .no ∧ ρ 15 = .sc (.int .i64 (ns.length : Int)) ∧ ρ 16 = .sc (.int .i64 (i : Int)) ∧ ρ 5 = .sc (.slice A xs.length cap) ∧ RawRow K1 2 (xs.map i64) (.sc (.slice A xs.length cap)) K) ?_ (m := ns.length) (by simp)
    ⟨0, [], none, 0, by omega, by omega, List.nodup_nil, by simp, by simp, by simp, by simp, by simp, by simp, by simp, RawRow.none⟩
  rintro μ ρ K ih ⟨i, xs, A, cap, rfl, hi, hnd, hmem, r1, r2, r14, r15, r16, r5, hR⟩
  have hxl : xs.length ≤ 2 := mom_len hz hnd fun t ht => ((hmem t).1 ht).1
  have k2' : K b2 = some (.cells (zC z t) 55) := hR.1 _ _ k2
  rcases Nat.lt_or_ge i ns.length with hlt | hge
  · obtain ⟨n, hn, _⟩ := getAt hlt
    have hbn := hno n (by rw [← hn]; exact List.getElem_mem _)
    have hw1 : IntKind.i64.wrap ((i : Int) + 1) = (i : Int) + 1 := wrap_i64 (by omega) (by omega)
    obtain ⟨u, hu⟩ : ∃ u, l - n = u := ⟨_, rfl⟩
    have hw2 : IntKind.i64.wrap (l - n) = u := by rw [wrap_i64 (by omega) (by omega), hu]
    have hw3 : IntKind.i64.wrap n = n := wrap_i64 (by omega) (by omega)
    have htk : ∀ t, l - t ∈ ns.take (i + 1) ↔ l - t ∈ ns.take i ∨ t = u := fun t => by
      rw [List.take_succ_eq_append_getElem hlt, hn, List.mem_append, List.mem_singleton]
      constructor <;> (rintro (h | h); exact .inl h; right; omega)
    have keep : (IsMom z l u → u ∈ xs) → ∀ t, t ∈ xs ↔ IsMom z l t ∧ l - t ∈ ns.take (i + 1) := fun h t => by
      rw [htk, hmem]
      constructor
      · exact fun h2 => ⟨h2.1, .inl h2.2⟩
      · rintro ⟨h2, h3 | h3⟩
        · exact ⟨h2, h3⟩
        · subst h3; exact (hmem t).1 (h h2)
    simp -implicitDefEqProofs [r1, r2, r14, r15, r16, hlt, hn, i64, hw2, hw3]
    refine ACall.eq (c_zMoment u) ?_
    cases hmo : momOk u with
    | false =>
      simp -implicitDefEqProofs [r16, hw1]
      refine AGo.again ih (m' := ns.length - (i + 1)) (by omega) (HLe.refl _) ⟨i + 1, xs, A, cap, rfl, by omega, hnd, keep fun h => ?_, by simp [r1], by simp [r2], by simp [r14], by simp [r15], by simp, by simp [r5], hR⟩
      have := momOk_iff.2 ⟨h.1, h.2.1⟩
      rw [hmo] at this
      cases this
    | true =>
      have hmo' := momOk_iff.1 hmo
      simp -implicitDefEqProofs [r1, r2, k2']
      refine ACall.eq (c_zAt z t u (by omega)) ?_
      by_cases hat : atZ z u = n
      · have hmm : IsMom z l u := ⟨hmo'.1, hmo'.2, by omega⟩
        by_cases hx : u ∈ xs
        · simp -implicitDefEqProofs [hat, r5]
          refine ACall.eq (c_contains64 u hR (by omega)) ?_
          simp -implicitDefEqProofs [hx, r16, hw1]
          exact AGo.again ih (m' := ns.length - (i + 1)) (by omega) (HLe.refl _) ⟨i + 1, xs, A, cap, rfl, by omega, hnd, keep fun _ => hx, by simp [r1], by simp [r2], by simp [r14], by simp [r15], by simp, by simp [r5], hR⟩
        · simp -implicitDefEqProofs [hat, r5]
          refine ACall.eq (c_contains64 u hR (by omega)) ?_
          simp -implicitDefEqProofs [hx, r5]
          refine ACall.intro (app_raw (e := 2) el_36 (fun z hz q hq => by simp at hz; subst hz; simp at hq; subst hq; rfl) hR rfl (by simp; omega) (by simp [maxLen]; omega)) fun v' K' hR' => ?_
          have ex : (xs.map i64) ++ [i64 u] = (xs ++ [u]).map i64 := by simp
          change RawRow K1 _ ((xs.map i64) ++ [i64 u]) v' K' at hR'
          rw [ex] at hR'
          obtain ⟨A', cap', hv'⟩ := hR'.form
          rw [List.length_map] at hv'
          subst hv'
          simp -implicitDefEqProofs [r16, hw1]
          refine AGo.again ih (m' := ns.length - (i + 1)) (by omega) (HLe.refl _) ⟨i + 1, xs ++ [u], A', cap', rfl, by omega, ?_, fun t => ?_, by simp [r1], by simp [r2], by simp [r14], by simp [r15], by simp, by simp, hR'⟩
          · rw [List.nodup_append]
            refine ⟨hnd, by simp, fun a ha b hb => ?_⟩
            simp only [List.mem_singleton] at hb
            subst hb
            rintro rfl
            exact hx ha
          · rw [htk, List.mem_append, hmem, List.mem_singleton]
            constructor
            · rintro (h | h)
              · exact ⟨h.1, .inl h.2⟩
              · subst h; exact ⟨hmm, .inr rfl⟩
            · rintro ⟨h2, h3 | h3⟩
              · exact .inl ⟨h2, h3⟩
              · exact .inr h3
      · simp -implicitDefEqProofs [hat, r16, hw1]
        refine AGo.again ih (m' := ns.length - (i + 1)) (by omega) (HLe.refl _) ⟨i + 1, xs, A, cap, rfl, by omega, hnd, keep fun h => ?_, by simp [r1], by simp [r2], by simp [r14], by simp [r15], by simp, by simp [r5], hR⟩
        have := h.2.2
        omega
  · have hn' : ¬ i < ns.length := by omega
    have hall : ∀ t, t ∈ xs ↔ IsMom z l t := fun t => by
      rw [hmem, List.take_of_length_le hge]
      refine ⟨fun h => h.1, fun h => ⟨h, ?_⟩⟩
      have := atL_mem z.l z.first t
      rw [hns] at this
      have h3 := h.2.2
      unfold atZ at h3
      rwa [show l - t = atL z.first z.l t by omega]
    obtain ⟨_, he⟩ := mom_of_row hz hnd hall
    simp -implicitDefEqProofs [r15, r16, r5, hn']
    refine ACall.intro (c_sort64 hR hxl) fun v' K' hR' => ?_
    simp -implicitDefEqProofs [r5]
    refine ⟨_, _, wk_refl _, HWk.refl _, ?_⟩
    rw [he] at hR'
    exact hR'.le kW
theorem c_zMoments (z : Zn) (t : Rg.Tok) (hz : mayZ z = true) {l : Int} (h0 : 0 ≤ l) (h1 : l < 13569465600) :
    AOk Tryz.prog 108 [zAV z t, .sc (.int .i64 l)] H (.sl ((momZ z l).map i64) .no) H := by
  have hr := c_zMoments_raw (H := H) z t hz h0 h1
  generalize momZ z l = M at hr ⊢
  have hf := ACalls.freeze (X := fun xs => xs = M.map i64) (fun xs hx x hm => by subst hx; obtain ⟨z, _, rfl⟩ := List.mem_map.1 hm; rfl) hr
  exact ACalls.weaken (ACalls.mono hf fun v K ⟨xs, e1, e2, e3⟩ => ⟨_, H, by rw [e2, e1]; exact wk_refl _, e3.wk, rfl, rfl⟩)
def momentsZ (z : Zn) (c : Clk) : List Int := if mayZ z = true ∧ mayC c = true then momZ z (momI c) else []
def argE (z : Zn) (c : Clk) : Int := if mayZ z = true ∧ mayC c = true then 0 else 2
theorem c_zMomentsC (z : Zn) (t : Rg.Tok) (c : Clk) : AOk Tryz.prog 35 [zAV z t, cAV c] H (.tup [.sl ((momentsZ z c).map i64) .no, .sc (.int .i64 (argE z c))]) H := by
  unfold momentsZ argE
  refine ACalls.into Tryz.func35 rfl Tryz.ntmps35 Tryz.results35 (by simp) ?_
  simp -implicitDefEqProofs
  refine AAlloc.intro fun b2 h2 => ?_
  simp -implicitDefEqProofs
  refine AAlloc.intro fun b3 h3 => ?_
  have n23 : b2 ≠ b3 := by intro e; subst e; simp [Heap.set] at h3
  have n32 := n23.symm
  have e3 : H b3 = none := (HLe.set_fresh h2).none h3
  simp -implicitDefEqProofs [n23, n32]
  refine ACall.eq (c_sJoin c) ?_
  simp -implicitDefEqProofs [n23, n32]
  refine ACall.eq (c_zMay z t) ?_
  cases hz : mayZ z with
  | false =>
    simp -implicitDefEqProofs
    repeat (first | exact HWk.refl _ | refine HWk.new (by assumption) ?_)
  | true =>
    unfold joinE
    cases hc : mayC c with
    | false =>
      simp -implicitDefEqProofs
      repeat (first | exact HWk.refl _ | refine HWk.new (by assumption) ?_)
    | true =>
      simp -implicitDefEqProofs [n23, n32]
      refine ACall.eq (c_zMoments z t hz (momI_lt c).1 (momI_lt c).2) ?_
      simp -implicitDefEqProofs
      repeat (first | exact HWk.refl _ | refine HWk.new (by assumption) ?_)
end Go.Proofs.YtmoncokklkiikaaGreatDoor
namespace Go.Proofs.YtmoncokklkiikaaGreatDoor
open Rg Go
variable {H : Heap}
abbrev ptr (b : Nat) : AV := .sc (.pointer (some ⟨b, 0, none⟩))
theorem HWk.delNew {K H : Heap} {b : Nat} (hb : K b = none) (h : HWk K H) : HWk K (H.del b) := fun c ob e => by
  have hc : c ≠ b := by rintro rfl; rw [hb] at e; cases e
  obtain ⟨o, h1, h2⟩ := h c ob e
  exact ⟨o, by unfold Heap.del; rw [if_neg hc]; exact h1, h2⟩
theorem GlobT.set {H : Heap} {b : Nat} {o : AObj} (h : GlobT H) (hb : ∀ us, H b ≠ some (.ro us)) : GlobT (H.set b o) := by
  obtain ⟨us, h1, h2⟩ := h
  refine ⟨us, ?_, h2⟩
  unfold Heap.set
  split
  · rename_i hc; subst hc; exact absurd h1 (hb us)
  · exact h1
theorem del_apply {H : Heap} {b c : Nat} : Heap.del H b c = if c = b then none else H c := rfl
theorem mark_nrm {Q : Post} {D : Nat} : (Q.mark D).nrm = fun ρ H => H D = some .dfr ∧ Q.nrm ρ (H.del D) := rfl
theorem mark_ret {Q : Post} {D : Nat} : (Q.mark D).ret = fun ρ H => H D = some .dfr ∧ Q.ret ρ (H.del D) := rfl
end Go.Proofs.YtmoncokklkiikaaGreatDoor
