/- Zones: which may be, the offset at a moment; clocks joined. Zones: local clocks, the moments of a clock. Rows of two at most, put in order; the moments of a clock. Zones' texts, plainly: what is told, what is read; what was told is read as it was. -/
import Derived.Test.YtmoncokklkiikaaGreatDoorP17
import Derived.Test.YtmoncokklkiikaaGreatDoorP21
import Derived.Test.YtmoncokklkiikaaGreatDoorP22
import Derived.Test.YtmoncokklkiikaaGreatDoorP15
import Derived.Lib.ItoaMem
import Derived.Lib.ParseIntBCases
set_option linter.unusedSimpArgs false
set_option linter.unusedVariables false
set_option linter.unnecessarySimpa false
namespace Go.Proofs.YtmoncokklkiikaaGreatDoor
open Rg Go
variable {H : Heap}
abbrev chAV (c : Int × Int) : AV := .agg [.sc (.int .i64 c.1), .sc (.int .i64 c.2)]
abbrev zC (z : Zn) (t : Rg.Tok) : List AV := [.sc (.int .i64 z.first), .sl (z.l.map chAV) t]
abbrev zAV (z : Zn) (t : Rg.Tok) : AV := .agg (zC z t)
theorem szs_ch (l : List (Int × Int)) : szs 2 (l.map chAV) = true := szs_map (f := chAV) (fun _ => rfl) l
theorem tmod60 (n : Int) : (n.tmod 60 = 0) ↔ n % 60 = 0 := by
  rw [← Int.dvd_iff_tmod_eq_zero, ← Int.dvd_iff_emod_eq_zero]
theorem c_zOffset (n : Int) : AOk Tryz.prog 105 [.sc (.int .i64 n)] H (.sc (.bool (offOk n))) H := by
  have e := tmod60 n
  unfold offOk
  refine ACalls.into Tryz.func105 rfl Tryz.ntmps105 Tryz.results105 (by simp) ?_
  by_cases h1 : n % 60 = 0
  · have h1' : n.tmod 60 = 0 := e.2 h1
    by_cases h2 : -50400 ≤ n
    · simp -implicitDefEqProofs [h1, h1', h2]
    · simp -implicitDefEqProofs [h1, h1', h2]
  · have h1' : ¬ n.tmod 60 = 0 := fun h => h1 (e.1 h)
    simp -implicitDefEqProofs [h1, h1']
def momOk (t : Int) : Bool := decide (0 ≤ t) && decide (t < 13569465600)
theorem c_zMoment (t : Int) : AOk Tryz.prog 98 [.sc (.int .i64 t)] H (.sc (.bool (momOk t))) H := by
  unfold momOk
  refine ACalls.into Tryz.func98 rfl Tryz.ntmps98 Tryz.results98 (by simp) ?_
  by_cases h1 : 0 ≤ t
  · simp -implicitDefEqProofs [h1]
  · simp -implicitDefEqProofs [h1]
set_option maxHeartbeats 1000000 in
theorem c_zAt (z : Zn) (t : Rg.Tok) (m : Int) (hz : z.l.length ≤ 1000000) : AOk Tryz.prog 106 [zAV z t, .sc (.int .i64 m)] H (.sc (.int .i64 (atZ z m))) H := by
  unfold atZ
  refine ACalls.into Tryz.func106 rfl Tryz.ntmps106 Tryz.results106 (by simp) ?_
  simp -implicitDefEqProofs
  refine AAlloc.intro fun b1 h1 => ?_
  simp -implicitDefEqProofs
  generalize hK : Heap.set _ b1 _ = K
  have kW : HLe H K := by rw [← hK]; exact HLe.set_fresh h1
  clear hK
  refine AGo.rounds (fun mm ρ K2 => ∃ i f, mm = z.l.length - i ∧ i ≤ z.l.length ∧ atL f (z.l.drop i) m = atL z.first z.l m ∧ ρ 5 = .sc (.int .i64 f) ∧ ρ 13 = .sc (.int .i64 (i : Int)) ∧ ρ 1 = .sc (.int .i64 m) ∧ ρ 11 = .sl (z.l.map chAV) t ∧ ρ 12 = .sc (.int .i64 (z.l.length : Int)) ∧ K2 = K) ?_ (m := z.l.length) (HLe.refl _)
    ⟨0, z.first, rfl, by omega, rfl, by simp, by simp, by simp, by simp, by simp, rfl⟩
  rintro mm ρ K2 ih ⟨i, f, rfl, hi, hat, r5, r13, r1, r11, r12, rfl⟩
  rcases Nat.lt_or_ge i z.l.length with hlt | hge
  · obtain ⟨c, hej, hc⟩ := getAt hlt
    have hlt' : (i : Int) < (z.l.length : Int) := by omega
    have hw1 : IntKind.i64.wrap ((i : Int) + 1) = (i : Int) + 1 := wrap_i64 (by omega) (by omega)
    have hd : z.l.drop i = (c.1, c.2) :: z.l.drop (i + 1) := by rw [List.drop_eq_getElem_cons hlt, hej]
    rw [hd] at hat
    simp only [atL] at hat
    simp -implicitDefEqProofs [r5, r13, r1, r11, r12, hlt, hlt', hej]
    refine AAlloc.intro fun b7 h7 => ?_
    by_cases hm : m < c.1
    · rw [if_pos hm] at hat
      simp -implicitDefEqProofs [r5, r13, r1, r11, r12, hm]
      rw [← hat]
      exact ⟨rfl, (HLe.set_new kW (kW.none h7)).wk⟩
    · rw [if_neg hm] at hat
      simp -implicitDefEqProofs [r5, r13, r1, r11, r12, hm, hw1]
      exact AGo.again ih (m' := z.l.length - (i + 1)) (by omega) (HLe.set_fresh h7) ⟨i + 1, c.2, rfl, by omega, hat, by simp, by simp, by simp [r1], by simp [r11], by simp [r12], rfl⟩
  · have hn : ¬ (i : Int) < (z.l.length : Int) := by omega
    have hn' : ¬ i < z.l.length := by omega
    rw [List.drop_of_length_le hge] at hat
    simp only [atL] at hat
    simp -implicitDefEqProofs [r5, r13, r1, r11, r12, hn, hn', hat]
    exact kW.wk
set_option maxHeartbeats 4000000 in
theorem c_zMay (z : Zn) (t : Rg.Tok) : AOk Tryz.prog 33 [zAV z t] H (.sc (.bool (mayZ z))) H := by
  refine ACalls.into Tryz.func33 rfl Tryz.ntmps33 Tryz.results33 (by simp) ?_
  simp -implicitDefEqProofs
  refine AAlloc.intro fun b1 h1 => ?_
  simp -implicitDefEqProofs
  generalize hK : Heap.set _ b1 _ = K1
  have k1 : K1 b1 = some (.cells (zC z t) 55) := by rw [← hK]; simp [Heap.set]
  have kW : HLe H K1 := by rw [← hK]; exact HLe.set_fresh h1
  clear hK
  refine ACall.eq (c_zOffset _) ?_
  cases h0 : offOk z.first with
  | false =>
    have hr : mayZ z = false := by simp [mayZ, h0]
    rw [hr]
    simp -implicitDefEqProofs [k1]
    exact kW.wk
  | true =>
    by_cases hl : 64 < z.l.length
    · have hl' : (64 : Int) < (z.l.length : Int) := by omega
      have hr : mayZ z = false := by simp [mayZ, h0]; omega
      rw [hr]
      simp -implicitDefEqProofs [k1, hl, hl']
      exact kW.wk
    · have hl' : ¬ (64 : Int) < (z.l.length : Int) := by omega
      have hr : mayZ z = mayL none z.l := by simp [mayZ, h0]; omega
      rw [hr]
      simp -implicitDefEqProofs [k1, hl, hl']
      refine AGo.rounds (fun mm ρ K2 => ∃ (i : Nat) (p : Option Int), mm = z.l.length - i ∧ i ≤ z.l.length ∧ mayL p (z.l.drop i) = mayL none z.l ∧ (i = 0 ∧ p = none ∨ ∃ (j : Nat) (d : Int × Int), i = j + 1 ∧ z.l[j]? = some d ∧ p = some d.1 ∧ 0 ≤ d.1 ∧ d.1 < 13569465600) ∧
        ρ 1 = .sc (.pointer (some ⟨b1, 0, none⟩)) ∧ ρ 16 = .sl (z.l.map chAV) t ∧ ρ 17 = .sc (.int .i64 (z.l.length : Int)) ∧ ρ 18 = .sc (.int .i64 (i : Int)) ∧ K2 = K1) ?_ (m := z.l.length) (HLe.refl _)
        ⟨0, none, rfl, by omega, rfl, .inl ⟨rfl, rfl⟩, by simp, by simp, by simp, by simp, rfl⟩
      rintro mm ρ K2 ih ⟨i, p, rfl, hi, hat, hp, r1, r16, r17, r18, rfl⟩
      rcases Nat.lt_or_ge i z.l.length with hlt | hge
      · obtain ⟨c, hej, hc⟩ := getAt hlt
        have hlt' : (i : Int) < (z.l.length : Int) := by omega
        have hw1 : IntKind.i64.wrap ((i : Int) + 1) = (i : Int) + 1 := wrap_i64 (by omega) (by omega)
        have hd : z.l.drop i = (c.1, c.2) :: z.l.drop (i + 1) := by rw [List.drop_eq_getElem_cons hlt, hej]
        rw [hd] at hat
        simp -implicitDefEqProofs [r1, r16, r17, r18, hlt, hlt', hej]
        refine AAlloc.intro fun b4 h4 => ?_
        have n14 : b1 ≠ b4 := by intro e; subst e; rw [k1] at h4; cases h4
        have kW4 : ∀ o, HWk H (K2.set b4 o) := fun o => HWk.new (kW.none h4) kW.wk
        simp -implicitDefEqProofs [r1, r16, r17, r18]
        have hm60 := tmod60 c.1
        cases ho : offOk c.2 with
        | false =>
          have hr2 : mayL none z.l = false := by rw [← hat]; simp [mayL, ho]
          rw [hr2]
          refine go_draw 33 f_mixed (by decide +kernel) ?_
          simp -implicitDefEqProofs [n14]
          refine AQS.eq (c_zOffset _) ?_
          rw [ho]
          simp -implicitDefEqProofs
          exact kW4 _
        | true =>
          cases hk : momOk c.1 with
          | false =>
            have hr2 : mayL none z.l = false := by
              rw [← hat]
              unfold momOk at hk
              simp only [Bool.and_eq_false_iff, decide_eq_false_iff_not] at hk
              cases hq : mayL p ((c.1, c.2) :: z.l.drop (i + 1)) with
              | false => rfl
              | true => rw [mayL_cons] at hq; omega
            rw [hr2]
            refine go_draw 33 f_mixed (by decide +kernel) ?_
            simp -implicitDefEqProofs [n14]
            refine AQS.eq (c_zOffset _) ?_
            rw [ho]
            simp -implicitDefEqProofs
            refine AQS.eq (c_zMoment _) ?_
            rw [hk]
            simp -implicitDefEqProofs
            exact kW4 _
          | true =>
            have hk' : 0 ≤ c.1 ∧ c.1 < 13569465600 := by simpa [momOk] using hk
            by_cases h60 : c.1 % 60 = 0
            · have h60' := hm60.2 h60
              rcases hp with ⟨rfl, rfl⟩ | ⟨j, d, hij, hjd, rfl, hd0, hd1⟩
              · have hnx : mayL (some c.1) (z.l.drop (0 + 1)) = mayL none z.l := by
                  rw [← hat]; simp [mayL, ho, hk', h60]
                refine go_draw 33 f_mixed (by decide +kernel) ?_
                simp -implicitDefEqProofs [n14]
                refine AQS.eq (c_zOffset _) ?_
                rw [ho]
                simp -implicitDefEqProofs
                refine AQS.eq (c_zMoment _) ?_
                rw [hk]
                simp -implicitDefEqProofs [h60', r18, wrap_i64]
                refine AGo.again ih (m' := z.l.length - (0 + 1)) (by omega) (HLe.set_fresh h4) ?_
                exact ⟨0 + 1, some c.1, rfl, by omega, hnx, .inr ⟨0, c, rfl, by rw [List.getElem?_eq_getElem hlt, hej], rfl, hk'.1, hk'.2⟩, by simp [r1], by simp [r16], by simp [r17], by simp, rfl⟩
              · have hjl : j < z.l.length := by omega
                have hjd' : z.l[j] = d := by rw [List.getElem?_eq_getElem hjl] at hjd; exact Option.some.inj hjd
                have hw2 : IntKind.i64.wrap ((i : Int) - 1) = (j : Int) := by rw [wrap_i64 (by omega) (by omega)]; omega
                have hw3 : IntKind.i64.wrap (c.1 - d.1) = c.1 - d.1 := wrap_i64 (by omega) (by omega)
                have hi0 : 0 < i := by omega
                have hi0' : (0 : Int) < (i : Int) := by omega
                by_cases hap : c.1 - d.1 < 172800
                · have hr2 : mayL none z.l = false := by
                    rw [← hat]; simp [mayL, ho, hk', h60]; omega
                  rw [hr2]
                  refine go_draw 33 f_mixed (by decide +kernel) ?_
                  simp -implicitDefEqProofs [n14]
                  refine AQS.eq (c_zOffset _) ?_
                  rw [ho]
                  simp -implicitDefEqProofs
                  refine AQS.eq (c_zMoment _) ?_
                  rw [hk]
                  simp -implicitDefEqProofs [h60', hi0, hi0', n14, k1, hw2, hjl, hjd', hw3, hap, r1, r18]
                  exact kW4 _
                · have hnx : mayL (some c.1) (z.l.drop (i + 1)) = mayL none z.l := by
                    have : d.1 + 172800 ≤ c.1 := by omega
                    rw [← hat]; simp [mayL, ho, hk', h60, this]
                  refine go_draw 33 f_mixed (by decide +kernel) ?_
                  simp -implicitDefEqProofs [n14]
                  refine AQS.eq (c_zOffset _) ?_
                  rw [ho]
                  simp -implicitDefEqProofs
                  refine AQS.eq (c_zMoment _) ?_
                  rw [hk]
                  simp -implicitDefEqProofs [h60', hi0, hi0', n14, k1, hw2, hjl, hjd', hw3, hap, r1, r18, hw1]
                  refine AGo.again ih (m' := z.l.length - (i + 1)) (by omega) (HLe.set_fresh h4) ?_
                  exact ⟨i + 1, some c.1, rfl, by omega, hnx, .inr ⟨i, c, rfl, by rw [List.getElem?_eq_getElem hlt, hej], rfl, hk'.1, hk'.2⟩, by simp [r1], by simp [r16], by simp [r17], by simp [hw1], rfl⟩
            · have h60' : ¬ c.1.tmod 60 = 0 := fun h => h60 (hm60.1 h)
              have hr2 : mayL none z.l = false := by rw [← hat]; simp [mayL, h60]
              rw [hr2]
              refine go_draw 33 f_mixed (by decide +kernel) ?_
              simp -implicitDefEqProofs [n14]
              refine AQS.eq (c_zOffset _) ?_
              rw [ho]
              simp -implicitDefEqProofs
              refine AQS.eq (c_zMoment _) ?_
              rw [hk]
              simp -implicitDefEqProofs [h60']
              exact kW4 _
      · have hn : ¬ (i : Int) < (z.l.length : Int) := by omega
        have hn' : ¬ i < z.l.length := by omega
        rw [List.drop_of_length_le hge] at hat
        simp only [mayL] at hat
        rw [← hat]
        simp -implicitDefEqProofs [r17, r18, hn, hn']
        exact kW.wk
end Go.Proofs.YtmoncokklkiikaaGreatDoor
namespace Go.Proofs.YtmoncokklkiikaaGreatDoor
open Rg Go
variable {H : Heap}
def offsetZ (z : Zn) (m : Int) : Int := if mayZ z = true then atZ z m else 0
theorem z_len {z : Zn} (h : mayZ z = true) : z.l.length ≤ 64 := by
  simp only [mayZ, Bool.and_eq_true, decide_eq_true_eq] at h
  exact h.1.2
theorem c_zOffsetAt (z : Zn) (t : Rg.Tok) (m : Int) : AOk Tryz.prog 38 [zAV z t, .sc (.int .i64 m)] H (.sc (.int .i64 (offsetZ z m))) H := by
  unfold offsetZ
  refine ACalls.into Tryz.func38 rfl Tryz.ntmps38 Tryz.results38 (by simp) ?_
  simp -implicitDefEqProofs
  refine AAlloc.intro fun b1 h1 => ?_
  have kW : ∀ o, HWk H (H.set b1 o) := fun o => HWk.new h1 (HWk.refl _)
  simp -implicitDefEqProofs
  refine ACall.eq (c_zMay z t) ?_
  cases h : mayZ z with
  | false =>
    simp -implicitDefEqProofs
    exact kW _
  | true =>
    simp -implicitDefEqProofs
    refine ACall.eq (c_zAt z t m (by have := z_len h; omega)) ?_
    simp -implicitDefEqProofs
    exact kW _
def momI (c : Clk) : Int := if mayC c = true then (momC c.y.toNat c.m.toNat c.d.toNat c.h.toNat c.mi.toNat c.s.toNat : Nat) else 0
def joinE (c : Clk) : Int := if mayC c = true then 0 else 2
theorem mayC_cases {c : Clk} (h : mayC c = true) : ∃ Y M D hh mi s : Nat, c = ⟨Y, M, D, hh, mi, s, (((daysN Y M D + 4) % 7 : Nat) : Int)⟩ ∧ mayD (Y : Int) (M : Int) (D : Int) = true ∧ hh ≤ 23 ∧ mi ≤ 59 ∧ s ≤ 59 := by
  obtain ⟨y, m, d, h', mi, s, w⟩ := c
  simp only [mayC, Bool.and_eq_true, decide_eq_true_eq] at h
  obtain ⟨⟨⟨⟨⟨⟨⟨h1, h2⟩, h3⟩, h4⟩, h5⟩, h6⟩, hd⟩, hw⟩ := h
  obtain ⟨i, dd, hi, hdd, e1, e2, e3⟩ := mayD_in hd
  generalize 1970 + i / 12 = Y at e1
  generalize i % 12 + 1 = M at e2
  generalize dd + 1 = D at e3
  subst e1 e2 e3
  obtain ⟨h', rfl⟩ := Int.eq_ofNat_of_zero_le h1
  obtain ⟨mi, rfl⟩ := Int.eq_ofNat_of_zero_le h3
  obtain ⟨s, rfl⟩ := Int.eq_ofNat_of_zero_le h5
  exact ⟨Y, M, D, h', mi, s, by rw [hw]; rfl, hd, by omega, by omega, by omega⟩
theorem momI_lt (c : Clk) : 0 ≤ momI c ∧ momI c < 13569465600 := by
  unfold momI
  split
  · rename_i h
    obtain ⟨Y, M, D, hh, mi, s, rfl, hd, h1, h2, h3⟩ := mayC_cases h
    have := (clk_mom hd h1 h2 h3).1
    simp only [Int.toNat_natCast]
    omega
  · omega
theorem clk_momI {c : Clk} (h : mayC c = true) : clk (momI c).toNat = c := by
  unfold momI
  rw [if_pos h]
  obtain ⟨Y, M, D, hh, mi, s, rfl, hd, h1, h2, h3⟩ := mayC_cases h
  simp only [Int.toNat_natCast]
  exact (clk_mom hd h1 h2 h3).2
theorem momI_clk {t : Nat} (h : t < 13569465600) : momI (clk t) = (t : Int) := by
  unfold momI
  rw [if_pos (mayC_clk h)]
  obtain ⟨i, d, hi, hd, hn⟩ := day_of (n := t / 86400) (by omega)
  have hc := civ_at hi hd
  rw [← hn] at hc
  unfold clk momC
  rw [hc]
  simp only [Int.toNat_natCast, days_of, ← hn]
  omega
theorem c_sJoin (c : Clk) : AOk Tryz.prog 107 [cAV c] H (.tup [.sc (.int .i64 (momI c)), .sc (.int .i64 (joinE c))]) H := by
  unfold momI joinE
  refine ACalls.into Tryz.func107 rfl Tryz.ntmps107 Tryz.results107 (by simp) ?_
  simp -implicitDefEqProofs
  refine AAlloc.intro fun b1 h1 => ?_
  have kW : ∀ o, HWk H (H.set b1 o) := fun o => HWk.new h1 (HWk.refl _)
  simp -implicitDefEqProofs
  refine ACall.eq (c_smay c) ?_
  cases h : mayC c with
  | false =>
    simp -implicitDefEqProofs
    exact kW _
  | true =>
    obtain ⟨Y, M, D, hh, mi, s, rfl, hd, g1, g2, g3⟩ := mayC_cases h
    simp -implicitDefEqProofs
    refine ACall.eq (c_moment hd g1 g2 g3) ?_
    simp -implicitDefEqProofs
    exact kW _
theorem c_join5 (c : Clk) : AOk Tryz.prog 37 [cAV c] H (.tup [.sc (.int .i64 (momI c)), .sc (.int .i64 (joinE c))]) H := by
  unfold momI joinE
  cases h : mayC c with
  | false => exact c_join_bad h
  | true =>
    obtain ⟨Y, M, D, hh, mi, s, rfl, hd, g1, g2, g3⟩ := mayC_cases h
    simp only [if_true, Int.toNat_natCast]
    exact c_join_ok hd g1 g2 g3
def splitI (u : Int) : Clk := if 0 ≤ u ∧ u < 13569465600 then clk u.toNat else clk0
def splitE (u : Int) : Int := if 0 ≤ u ∧ u < 13569465600 then 0 else 50
theorem c_splitI (u : Int) : AOk Tryz.prog 23 [.sc (.int .i64 u)] H (.tup [cAV (splitI u), .sc (.int .i64 (splitE u))]) H := by
  unfold splitI splitE
  by_cases h : 0 ≤ u ∧ u < 13569465600
  · rw [if_pos h, if_pos h]
    obtain ⟨n, rfl⟩ := Int.eq_ofNat_of_zero_le h.1
    exact c_split_s (by omega)
  · rw [if_neg h, if_neg h]
    exact c_split_bad (by omega)
def localC (z : Zn) (m : Int) : Clk := if mayZ z = true ∧ momOk m = true then splitI (m + atZ z m) else clk0
def localE (z : Zn) (m : Int) : Int := if mayZ z = true then if momOk m = true then splitE (m + atZ z m) else 50 else 2
theorem momOk_iff {t : Int} : momOk t = true ↔ 0 ≤ t ∧ t < 13569465600 := by simp [momOk]
set_option maxHeartbeats 1000000 in
theorem c_zLocal (z : Zn) (t : Rg.Tok) (m : Int) : AOk Tryz.prog 34 [zAV z t, .sc (.int .i64 m)] H (.tup [cAV (localC z m), .sc (.int .i64 (localE z m))]) H := by
  unfold localC localE
  refine ACalls.into Tryz.func34 rfl Tryz.ntmps34 Tryz.results34 (by simp) ?_
  simp -implicitDefEqProofs
  refine AAlloc.intro fun b2 h2 => ?_
  simp -implicitDefEqProofs
  refine AAlloc.intro fun b4 h4 => ?_
  have n24 : b2 ≠ b4 := by intro e; subst e; simp [Heap.set] at h4
  have n42 := n24.symm
  have e4 : H b4 = none := (HLe.set_fresh h2).none h4
  simp -implicitDefEqProofs [n24, n42]
  refine ACall.eq (c_zMay z t) ?_
  cases h : mayZ z with
  | false =>
    simp -implicitDefEqProofs [n24, n42, clk0]
    repeat (first | exact HWk.refl _ | refine HWk.new (by assumption) ?_)
  | true =>
    simp -implicitDefEqProofs [n24, n42]
    refine ACall.eq (c_zMoment m) ?_
    cases hm : momOk m with
    | false =>
      simp -implicitDefEqProofs [n24, n42, clk0]
      repeat (first | exact HWk.refl _ | refine HWk.new (by assumption) ?_)
    | true =>
      have hm' := momOk_iff.1 hm
      have ho := offOk_iff.1 (at_ok h m)
      obtain ⟨u, hu⟩ : ∃ u, m + atZ z m = u := ⟨_, rfl⟩
      have hw : IntKind.i64.wrap (m + atZ z m) = u := by rw [wrap_i64 (by omega) (by omega), hu]
      have hw2 : IntKind.i64.wrap (atZ z m) = atZ z m := wrap_i64 (by omega) (by omega)
      rw [hu]
      simp -implicitDefEqProofs [n24, n42]
      refine ACall.eq (c_zAt z t m (by have := z_len h; omega)) ?_
      simp -implicitDefEqProofs [n24, n42, hw, hw2]
      refine ACall.eq (c_splitI u) ?_
      simp -implicitDefEqProofs [n24, n42]
      repeat (first | exact HWk.refl _ | refine HWk.new (by assumption) ?_)
set_option maxHeartbeats 1000000 in
theorem c_zOffsets (z : Zn) (t : Rg.Tok) (hz : z.l.length ≤ 1000000) : AOk Tryz.prog 154 [zAV z t] H (.sl (z.l.map fun c => i64 c.2) .no) H := by
  refine ACalls.into Tryz.func154 rfl Tryz.ntmps154 Tryz.results154 (by simp) ?_
  simp -implicitDefEqProofs
  refine AAlloc.intro fun b1 h1 => ?_
  simp -implicitDefEqProofs
  generalize hK : Heap.set _ b1 _ = K
  have kW : HLe H K := by rw [← hK]; exact HLe.set_fresh h1
  clear hK
  refine AGo.rounds (fun mm ρ K2 => ∃ (i : Nat) (tk : Rg.Tok), mm = z.l.length - i ∧ i ≤ z.l.length ∧ ρ 3 = .sl ((z.l.map fun c => i64 c.2).take i) tk ∧ ρ 9 = .sc (.int .i64 (i : Int)) ∧ ρ 7 = .sl (z.l.map chAV) t ∧ ρ 8 = .sc (.int .i64 (z.l.length : Int)) ∧ Grows K ((z.l.map fun c => i64 c.2).take i) 1 3 tk K2) ?_ (m := z.l.length) (HLe.refl _)
    ⟨0, .nil, by omega, by omega, by simp, by simp, by simp, by simp, Grows.zero⟩
  rintro mm ρ K2 ih ⟨i, tk, rfl, hi, r3, r9, r7, r8, hg⟩
  rcases Nat.lt_or_ge i z.l.length with hlt | hge
  · obtain ⟨c, hej, hc⟩ := getAt hlt
    have hlt' : (i : Int) < (z.l.length : Int) := by omega
    have hw1 : IntKind.i64.wrap ((i : Int) + 1) = (i : Int) + 1 := wrap_i64 (by omega) (by omega)
    have hlen : ((z.l.map fun c => i64 c.2).take i).length = i := by simp; omega
    have hd : (z.l.map fun c => i64 c.2).take (i + 1) = (z.l.map fun c => i64 c.2).take i ++ [i64 c.2] := by
      rw [List.take_succ_eq_append_getElem (by simpa using hlt)]; simp [hej]
    obtain ⟨xs, hxs⟩ : ∃ xs, (z.l.map fun c => i64 c.2).take i = xs := ⟨_, rfl⟩
    have hsz : szs 1 xs = true := by
      rw [← hxs]
      simp only [szs, List.all_eq_true]
      intro a ha
      obtain ⟨c, _, rfl⟩ := List.mem_map.1 (List.mem_of_mem_take ha)
      rfl
    rw [hxs] at r3 hg hlen hd
    simp -implicitDefEqProofs [r3, r9, r7, r8, hlt, hlt', hej]
    refine AAlloc.intro fun b5 h5 => ?_
    simp -implicitDefEqProofs [r3, r9, r7, r8]
    refine AApp.grows el_106 hg (HLe.set_fresh h5) (by simp) hsz (by simp [szs]) (by simp; omega) (by simp [maxLen]; omega) fun t' K' Hn hg' hl' => ?_
    simp -implicitDefEqProofs [r9, hw1]
    refine AGo.again ih (m' := z.l.length - (i + 1)) (by omega) hl' ?_
    refine ⟨i + 1, t', rfl, by omega, by simp; exact hd.symm, by simp, by simp [r7], by simp [r8], ?_⟩
    rw [hd]
    exact hg'
  · have hn : ¬ (i : Int) < (z.l.length : Int) := by omega
    have hn' : ¬ i < z.l.length := by omega
    have hd : (z.l.map fun c => i64 c.2).take i = z.l.map fun c => i64 c.2 := List.take_of_length_le (by simpa using hge)
    rw [hd] at r3 hg
    simp -implicitDefEqProofs [r3, r9, r8, hn, hn']
    exact (kW.trans hg.le).wk
def idxI (x : Int) : List Int → Nat → Int
  | [], _ => -1
  | y :: r, i => if x = y then (i : Int) else idxI x r (i + 1)
theorem idxI_iff (x : Int) : ∀ (L : List Int) (i : Nat), 0 ≤ idxI x L i ↔ x ∈ L
  | [], i => by simp [idxI]
  | y :: r, i => by
    unfold idxI
    split
    · rename_i h; simp [h]
    · rename_i h; rw [idxI_iff x r (i + 1)]; simp [h]
theorem c_index64 {H0 : Heap} {L : List Int} {v : AV} (x : Int) (hR : RawRow H0 2 (L.map i64) v H) (hL : L.length ≤ 1000000) :
    AOk Tryz.prog 193 [v, .sc (.int .i64 x)] H (.sc (.int .i64 (idxI x L 0))) H := by
  obtain ⟨A, cap, rfl⟩ := hR.form
  rw [List.length_map] at hR ⊢
  generalize hk0 : idxI x L 0 = k0
  refine ACalls.into Tryz.func193 rfl Tryz.ntmps193 Tryz.results193 (by simp) ?_
  simp -implicitDefEqProofs
  refine AGo.rounds (fun mm ρ K2 => ∃ (i : Nat), mm = L.length - i ∧ i ≤ L.length ∧ idxI x (L.drop i) i = k0 ∧ ρ 0 = .sc (.slice A L.length cap) ∧ ρ 1 = .sc (.int .i64 x) ∧ ρ 7 = .sc (.int .i64 (L.length : Int)) ∧ ρ 8 = .sc (.int .i64 (i : Int)) ∧ K2 = H) ?_ (m := L.length) (HLe.refl _)
    ⟨0, by omega, by omega, hk0, by simp, by simp, by simp, by simp, rfl⟩
  rintro mm ρ K2 ih ⟨i, rfl, hi, hx, r0, r1, r7, r8, rfl⟩
  rcases Nat.lt_or_ge i L.length with hlt | hge
  · obtain ⟨y, hy, _⟩ := getAt hlt
    have hw1 : IntKind.i64.wrap ((i : Int) + 1) = (i : Int) + 1 := wrap_i64 (by omega) (by omega)
    rw [List.drop_eq_getElem_cons hlt, hy] at hx
    unfold idxI at hx
    rcases hR.2 with ⟨h1, _⟩ | ⟨g, zs, hg0, hv, hKg, hKm⟩
    · have : L = [] := by simpa using h1
      subst this
      simp at hlt
    · simp only [AV.sc.injEq, Value.slice.injEq, List.length_map] at hv
      obtain ⟨rfl, _, rfl⟩ := hv
      have cx : (L.map i64 ++ zs)[i]? = some (i64 y) := by rw [List.getElem?_append_left (by simp; omega), List.getElem?_map, List.getElem?_eq_getElem hlt, hy]; rfl
      by_cases hxy : x = y
      · rw [if_pos hxy] at hx
        rw [← hx]
        subst hxy
        simp -implicitDefEqProofs [r0, r1, r7, r8, hlt, hKg, cx, i64]
      · rw [if_neg hxy] at hx
        simp -implicitDefEqProofs [r0, r1, r7, r8, hlt, hKg, cx, i64, hxy, hw1]
        refine AGo.again ih (m' := L.length - (i + 1)) (by omega) (HLe.refl _) ⟨i + 1, rfl, by omega, hx, by simp [r0], by simp [r1], by simp [r7], by simp, rfl⟩
  · have hn' : ¬ i < L.length := by omega
    rw [List.drop_of_length_le hge] at hx
    rw [← hx]
    simp -implicitDefEqProofs [r7, r8, hn', idxI]
theorem c_contains64 {H0 : Heap} {L : List Int} {v : AV} (x : Int) (hR : RawRow H0 2 (L.map i64) v H) (hL : L.length ≤ 1000000) :
    AOk Tryz.prog 155 [v, .sc (.int .i64 x)] H (.sc (.bool (decide (x ∈ L)))) H := by
  refine ACalls.into Tryz.func155 rfl Tryz.ntmps155 Tryz.results155 (by simp) ?_
  have hc := c_index64 x hR hL
  have he := idxI_iff x L 0
  generalize idxI x L 0 = k at hc he
  simp -implicitDefEqProofs
  refine ACall.eq hc ?_
  by_cases h : x ∈ L
  · simp -implicitDefEqProofs [h, he.2 h]
  · have : k < 0 := by have := mt he.1 h; omega
    simp -implicitDefEqProofs [h, this]
end Go.Proofs.YtmoncokklkiikaaGreatDoor
namespace Go.Proofs.YtmoncokklkiikaaGreatDoor
open Rg Go
variable {H : Heap}
theorem c_less64 (x y : Int) : AOk Tryz.prog 229 [.sc (.int .i64 x), .sc (.int .i64 y)] H (.sc (.bool (decide (x < y)))) H := by
  have hn : ∀ x, AOk Tryz.prog 265 [.sc (.int .i64 x)] H (.sc (.bool false)) H := fun x => by
    refine ACalls.into Tryz.func265 rfl Tryz.ntmps265 Tryz.results265 (by simp) ?_
    simp -implicitDefEqProofs
  refine ACalls.into Tryz.func229 rfl Tryz.ntmps229 Tryz.results229 (by simp) ?_
  simp -implicitDefEqProofs
  refine ACall.eq (hn x) ?_
  simp -implicitDefEqProofs
def sort2 : List Int → List Int
  | [x, y] => if y < x then [y, x] else [x, y]
  | L => L
set_option maxHeartbeats 1000000 in
theorem c_insert_few {A : Option Addr} {cap n : Nat} (hn : n ≤ 1) : AOk Tryz.prog 223 [.sc (.slice A n cap), .sc (.int .i64 0), .sc (.int .i64 n)] H (.tup []) H := by
  have h1 : ¬ (1 : Int) < (n : Int) := by omega
  have h1' : ¬ 1 < n := by omega
  have hw : IntKind.i64.wrap 1 = 1 := by decide
  refine ACalls.into Tryz.func223 rfl Tryz.ntmps223 Tryz.results223 (by simp) ?_
  simp -implicitDefEqProofs
  refine AGo.rounds (fun _ ρ K => ρ 6 = .sc (.int .i64 1) ∧ ρ 2 = .sc (.int .i64 n) ∧ K = H) ?_ (m := 0) (HLe.refl _) ⟨by simp [hw], by simp, rfl⟩
  rintro m ρ K _ ⟨r6, r2, rfl⟩
  simp -implicitDefEqProofs [r6, r2, h1, h1']
set_option maxHeartbeats 4000000 in
theorem c_insert_two {g : Nat} {x y : Int} {zs : List AV} {cap : Nat} (hg : H g = some (.cells (i64 x :: i64 y :: zs) 2)) :
    AOk Tryz.prog 223 [.sc (.slice (some ⟨g, 0, none⟩) 2 cap), .sc (.int .i64 0), .sc (.int .i64 2)] H (.tup []) (H.set g (.cells ((sort2 [x, y]).map i64 ++ zs) 2)) := by
  have hsame : ¬ y < x → H.set g (.cells ((sort2 [x, y]).map i64 ++ zs) 2) = H := fun h => by
    funext c
    rw [show sort2 [x, y] = [x, y] from if_neg h]
    simp only [Heap.set]
    split <;> simp_all
  have hturn : y < x → (sort2 [x, y]).map i64 ++ zs = i64 y :: i64 x :: zs := fun h => by
    rw [show sort2 [x, y] = [y, x] from if_pos h]
    rfl
  have hw : IntKind.i64.wrap 1 = 1 := by decide
  have hw0 : IntKind.i64.wrap 0 = 0 := by decide
  have hw2 : IntKind.i64.wrap 2 = 2 := by decide
  generalize hK' : H.set g (.cells ((sort2 [x, y]).map i64 ++ zs) 2) = K'
  refine ACalls.into Tryz.func223 rfl Tryz.ntmps223 Tryz.results223 (by simp) ?_
  simp -implicitDefEqProofs
  refine AGo.rounds (fun m ρ K => (m = 1 ∧ ρ 6 = .sc (.int .i64 1) ∧ K = H ∨ m = 0 ∧ ρ 6 = .sc (.int .i64 2) ∧ K = K') ∧ ρ 0 = .sc (.slice (some ⟨g, 0, none⟩) 2 cap) ∧ ρ 1 = .sc (.int .i64 0) ∧ ρ 2 = .sc (.int .i64 2)) ?_ (m := 1) (HLe.refl _)
    ⟨.inl ⟨rfl, by simp [hw], rfl⟩, by simp, by simp, by simp⟩
  rintro m ρ K ih ⟨h, r0, r1, r2⟩
  rcases h with ⟨rfl, r6, rfl⟩ | ⟨rfl, r6, rfl⟩
  · simp -implicitDefEqProofs [r6, r2]
    refine AGo.rounds (fun m ρ K2 => (m = 1 ∧ ρ 7 = .sc (.int .i64 1) ∧ K2 = K ∨ m = 0 ∧ ρ 7 = .sc (.int .i64 0) ∧ K2 = K') ∧ ρ 0 = .sc (.slice (some ⟨g, 0, none⟩) 2 cap) ∧ ρ 1 = .sc (.int .i64 0) ∧ ρ 2 = .sc (.int .i64 2) ∧ ρ 6 = .sc (.int .i64 1)) ?_ (m := 1) (HLe.refl _)
      ⟨.inl ⟨rfl, by simp, rfl⟩, by simp [r0], by simp [r1], by simp [r2], by simp [r6]⟩
    rintro m ρ K2 ih2 ⟨h, r0, r1, r2, r6⟩
    rcases h with ⟨rfl, r7, rfl⟩ | ⟨rfl, r7, rfl⟩
    · simp -implicitDefEqProofs []
      refine go_draw 15 f_mixed (by decide +kernel) ?_
      simp -implicitDefEqProofs [r0, r1, r7, hg, i64, hw0]
      refine AQS.eq (c_less64 y x) ?_
      by_cases hyx : y < x
      · simp -implicitDefEqProofs [hyx]
        refine go_draw3 [0, 1, 2, 3, 4, 5, 6, 7, 8, 10, 11, 12] _ f_mixed (by decide +kernel) HC.nothing ?_
        simp -implicitDefEqProofs []
        repeat (refine aq3_op ?_; simp -implicitDefEqProofs [r0, r7, hw0])
        have cx : (i64 x :: i64 y :: zs)[0]? = some (i64 x) := rfl
        have cy : (i64 x :: i64 y :: zs)[1]? = some (i64 y) := rfl
        refine AWK.two 9 13 (by decide +kernel) ?_ ?_
        · refine AWE.op rfl ?_
          simp -implicitDefEqProofs [hg, cx]
          refine AWK.one 13 (by decide +kernel) ?_
          refine AWE.op rfl ?_
          simp -implicitDefEqProofs [hg, cy]
          refine AWK.one 14 (by decide +kernel) ?_
          refine AWE.op rfl ?_
          simp -implicitDefEqProofs []
          refine AWK.one 15 (by decide +kernel) ?_
          refine AWE.op rfl ?_
          simp -implicitDefEqProofs [i64_lies, i64_cells, hg]
          refine AWS.store hg (HC.setn HC.nothing rfl) ?_
          refine AWK.one 16 (by decide +kernel) ?_
          refine AWE.op rfl ?_
          simp -implicitDefEqProofs []
          refine AWK.one 17 (by decide +kernel) ?_
          refine AWE.op rfl ?_
          simp -implicitDefEqProofs [i64_lies, i64_cells, hg]
          refine AWS.store (by exact if_pos rfl) (HC.setn HC.nothing rfl) ?_
          refine AWK.fin (by decide +kernel) ?_
          simp -implicitDefEqProofs [r7, hw0]
          refine AGo.again ih2 (m' := 0) (by omega) (HLe.refl _) ?_
          exact ⟨.inr ⟨rfl, by simp, by rw [← hK', hturn hyx]⟩, by simp [r0], by simp [r1], by simp [r2], by simp [r6]⟩
        · refine AWE.op rfl ?_
          simp -implicitDefEqProofs [hg, cy]
          refine AWK.one 9 (by decide +kernel) ?_
          refine AWE.op rfl ?_
          simp -implicitDefEqProofs [hg, cx]
          refine AWK.one 14 (by decide +kernel) ?_
          refine AWE.op rfl ?_
          simp -implicitDefEqProofs []
          refine AWK.one 15 (by decide +kernel) ?_
          refine AWE.op rfl ?_
          simp -implicitDefEqProofs [i64_lies, i64_cells, hg]
          refine AWS.store hg (HC.setn HC.nothing rfl) ?_
          refine AWK.one 16 (by decide +kernel) ?_
          refine AWE.op rfl ?_
          simp -implicitDefEqProofs []
          refine AWK.one 17 (by decide +kernel) ?_
          refine AWE.op rfl ?_
          simp -implicitDefEqProofs [i64_lies, i64_cells, hg]
          refine AWS.store (by exact if_pos rfl) (HC.setn HC.nothing rfl) ?_
          refine AWK.fin (by decide +kernel) ?_
          simp -implicitDefEqProofs [r7, hw0]
          refine AGo.again ih2 (m' := 0) (by omega) (HLe.refl _) ?_
          exact ⟨.inr ⟨rfl, by simp, by rw [← hK', hturn hyx]⟩, by simp [r0], by simp [r1], by simp [r2], by simp [r6]⟩
      · simp -implicitDefEqProofs [hyx, r6]
        exact AGo.again ih (m' := 0) (by omega) (HLe.refl _) ⟨.inr ⟨rfl, by simp [hw2], by rw [← hK', hsame hyx]⟩, by simp [r0], by simp [r1], by simp [r2]⟩
    · simp -implicitDefEqProofs []
      refine go_draw 15 f_mixed (by decide +kernel) ?_
      simp -implicitDefEqProofs [r1, r7, r6]
      exact AGo.again ih (m' := 0) (by omega) (HLe.refl _) ⟨.inr ⟨rfl, by simp [hw2], rfl⟩, by simp [r0], by simp [r1], by simp [r2]⟩
  · simp -implicitDefEqProofs [r6, r2]
theorem sort2_len (L : List Int) : (sort2 L).length = L.length := by
  unfold sort2
  split
  · split <;> rfl
  · rfl
theorem sort2_mem (L : List Int) (t : Int) : t ∈ sort2 L ↔ t ∈ L := by
  unfold sort2
  split
  · split
    · simp only [List.mem_cons, List.not_mem_nil, or_false]; exact or_comm
    · rfl
  · rfl
theorem sort2_sorted {L : List Int} (hl : L.length ≤ 2) (hn : L.Nodup) : (sort2 L).Pairwise (· < ·) := by
  match L, hl, hn with
  | [], _, _ => exact List.Pairwise.nil
  | [x], _, _ => simp [sort2]
  | [x, y], _, hn =>
    have hne : x ≠ y := by simpa using hn
    unfold sort2
    simp only
    split
    · simpa
    · simp; omega
  | _ :: _ :: _ :: _, hl, _ => simp at hl
set_option maxHeartbeats 1000000 in
theorem c_sort64 {H0 : Heap} {L : List Int} {v : AV} (hR : RawRow H0 2 (L.map i64) v H) (hL : L.length ≤ 2) :
    ACalls Tryz.prog 156 [v] H (fun _ K => RawRow H0 2 ((sort2 L).map i64) v K) := by
  have hi : ∃ K, AOk Tryz.prog 223 [v, .sc (.int .i64 0), .sc (.int .i64 L.length)] H (.tup []) K ∧ RawRow H0 2 ((sort2 L).map i64) v K := by
    obtain ⟨A, cap, rfl⟩ := hR.form
    rw [List.length_map] at hR ⊢
    match L, hL, hR with
    | [], _, hR => exact ⟨H, c_insert_few (n := 0) (by omega), hR⟩
    | [x], _, hR => exact ⟨H, c_insert_few (n := 1) (by omega), hR⟩
    | [x, y], _, hR =>
      rcases hR.2 with ⟨h1, _⟩ | ⟨g, zs, hg0, hv, hKg, hKm⟩
      · simp at h1
      · simp only [AV.sc.injEq, Value.slice.injEq] at hv
        obtain ⟨rfl, _, rfl⟩ := hv
        refine ⟨_, c_insert_two (x := x) (y := y) (zs := zs) hKg, HLe.set_new hR.1 hg0, .inr ⟨g, zs, hg0, ?_, by simp [Heap.set], ?_⟩⟩
        · have := sort2_len [x, y]
          simp only [List.length_map, this]
        · have := sort2_len [x, y]
          simp only [List.length_map, this] at hKm ⊢
          exact hKm
    | _ :: _ :: _ :: _, hL, _ => simp at hL
  obtain ⟨K, hc, hK⟩ := hi
  obtain ⟨A, cap, rfl⟩ := hR.form
  rw [List.length_map] at hc hK ⊢
  obtain ⟨n, hn⟩ : ∃ n, L.length = n := ⟨_, rfl⟩
  rw [hn] at hc hK ⊢ hL
  have hw : IntKind.i64.wrap (n : Int) = n := wrap_i64 (by omega) (by omega)
  have hu : IntKind.u64.wrap (n : Int) = n := wrap_u64 (by omega) (by omega)
  have hb : ∃ m : Int, AOk Tryz.prog 195 [.sc (.int .u64 n)] H (.sc (.int .i64 m)) H := by
    refine ⟨Lib.bitLen n, ?_⟩
    refine ACalls.into Tryz.func195 rfl Tryz.ntmps195 Tryz.results195 (by simp) ?_
    simp -implicitDefEqProofs
    refine ACall.eq (c_len64 n (by omega) (by omega)) ?_
    simp -implicitDefEqProofs
  obtain ⟨m, hb⟩ := hb
  have hle : (n : Int) ≤ 12 := by omega
  have hle' : n ≤ 12 := by omega
  have hp : AOk Tryz.prog 194 [.sc (.slice A n cap), .sc (.int .i64 0), .sc (.int .i64 n), .sc (.int .i64 m)] H (.tup []) K := by
    refine ACalls.into Tryz.func194 rfl Tryz.ntmps194 Tryz.results194 (by simp) ?_
    simp -implicitDefEqProofs
    refine AGo.rounds (fun _ ρ K => ρ 0 = .sc (.slice A n cap) ∧ ρ 1 = .sc (.int .i64 0) ∧ ρ 2 = .sc (.int .i64 n) ∧ K = H) ?_ (m := 0) (HLe.refl _) ⟨by simp, by simp, by simp, rfl⟩
    rintro _ ρ _ _ ⟨r0, r1, r2, rfl⟩
    simp -implicitDefEqProofs [r0, r1, r2, hw, hle, hle']
    refine ACall.eq hc ?_
    simp -implicitDefEqProofs
  refine ACalls.into Tryz.func156 rfl Tryz.ntmps156 Tryz.results156 (by simp) ?_
  simp -implicitDefEqProofs [hw, hu]
  refine ACall.eq hb ?_
  simp -implicitDefEqProofs
  refine ACall.eq hp ?_
  simp -implicitDefEqProofs
  exact ⟨_, _, wk_refl _, HWk.refl _, hK⟩
end Go.Proofs.YtmoncokklkiikaaGreatDoor
namespace Go.Proofs.YtmoncokklkiikaaGreatDoor
open Rg Go
def dg8 (n : Nat) : UInt8 := UInt8.ofNat (48 + n % 10)
def four (m : Nat) : List UInt8 := [dg8 (m / 1000), dg8 (m / 100), dg8 (m / 10), dg8 m]
def hhmm (n : Nat) : Nat := n / 3600 * 100 + n / 60 % 60
def wrZ (n : Int) : List UInt8 := (if n < 0 then 45 else 43) :: four (hhmm n.natAbs)
def partZ (c : Int × Int) : List UInt8 := Lib.itoa c.1 ++ wrZ c.2
def wordsZ (z : Zn) : List (List UInt8) := wrZ z.first :: z.l.map partZ
def textZ (z : Zn) : List UInt8 := if mayZ z = true then Lib.join (wordsZ z) [32] else []
theorem dg8_toNat (n : Nat) : (dg8 n).toNat = 48 + n % 10 := by
  unfold dg8
  rw [UInt8.toNat_ofNat']
  omega
theorem dg8_ne (n : Nat) {c : UInt8} (h : c.toNat < 48 ∨ 57 < c.toNat) : dg8 n ≠ c := by
  intro e
  have := dg8_toNat n
  rw [e] at this
  omega
theorem wrZ_len (n : Int) : (wrZ n).length = 5 := rfl
theorem hhmm_lt {n : Nat} (h : n ≤ 50400) : hhmm n < 1460 := by unfold hhmm; omega
theorem hhmm_back {n : Nat} (h : n % 60 = 0) : hhmm n / 100 * 3600 + hhmm n % 100 * 60 = n := by
  unfold hhmm
  omega
def pI (a : List UInt8) : Int × Bool :=
  match Lib.parseIntB 64 a with
  | .ok v => (v, true)
  | .syntax => (0, false)
  | .range => (Lib.intSat 64 a, false)
def offV (neg : Bool) (u : Nat) : Int := if neg = true then -((u / 100 * 3600 + u % 100 * 60 : Nat) : Int) else ((u / 100 * 3600 + u % 100 * 60 : Nat) : Int)
def readZ : List UInt8 → Int × Bool
  | [] => (0, false)
  | c :: r =>
    if c = 43 ∨ c = 45 then
      match Lib.parseUintB 16 r with
      | .ok u => (offV (decide (c = 45)) u, true)
      | .syntax => (0, false)
      | .range => (offV (decide (c = 45)) 65535, false)
    else (0, false)
def stepZ (j : Nat) (w : List UInt8) (st : Bool × Int × List (Int × Int)) : Bool × Int × List (Int × Int) :=
  if j = 0 then (st.1 && (readZ (w.drop (w.length - 5))).2 && decide (w.length - 5 = 0), (readZ (w.drop (w.length - 5))).1, st.2.2)
  else (st.1 && (readZ (w.drop (w.length - 5))).2 && (pI (w.take (w.length - 5))).2, st.2.1, st.2.2 ++ [((pI (w.take (w.length - 5))).1, (readZ (w.drop (w.length - 5))).1)])
def goZ : Nat → List (List UInt8) → Bool × Int × List (Int × Int) → Option (Bool × Int × List (Int × Int))
  | _, [], st => some st
  | j, w :: r, st => if w.length < 5 then none else goZ (j + 1) r (stepZ j w st)
def finZ (s : List UInt8) : Option (Bool × Int × List (Int × Int)) → Option Zn
  | none => none
  | some (ok, f, L) => if ok = true ∧ textZ ⟨f, L⟩ = s then some ⟨f, L⟩ else none
def parseZ (s : List UInt8) : Option Zn := if 4000 < s.length then none else finZ s (goZ 0 (sp 32 s) (true, 0, []))
theorem parseZ_sound {s : List UInt8} {z : Zn} (h : parseZ s = some z) : textZ z = s ∧ mayZ z = true := by
  unfold parseZ at h
  split at h
  · cases h
  · cases hg : goZ 0 (sp 32 s) (true, 0, []) with
    | none => rw [hg] at h; cases h
    | some st =>
      obtain ⟨ok, f, L⟩ := st
      rw [hg] at h
      unfold finZ at h
      simp only at h
      split at h
      · rename_i hc
        cases h
        refine ⟨hc.2, ?_⟩
        cases hm : mayZ ⟨f, L⟩ with
        | true => rfl
        | false =>
          exfalso
          have h2 := hc.2
          unfold textZ at h2
          rw [hm, if_neg (by simp)] at h2
          subst h2
          simp [sp, goZ] at hg
      · cases h
theorem dec_digit : ∀ (n : Nat), ∀ c ∈ Lib.decDigits n, 48 ≤ c.toNat ∧ c.toNat ≤ 57 := by
  intro n
  induction n using Nat.strongRecOn with
  | ind n ih =>
    intro c hc
    rw [Lib.decDigits] at hc
    split at hc
    · simp only [List.mem_singleton] at hc
      subst hc
      rw [UInt8.toNat_ofNat']
      omega
    · rename_i h10
      rcases List.mem_append.1 hc with hc | hc
      · exact ih (n / 10) (by omega) c hc
      · simp only [List.mem_singleton] at hc
        subst hc
        rw [UInt8.toNat_ofNat']
        omega
theorem dec_ne (n : Nat) : Lib.decDigits n ≠ [] := by
  rw [Lib.decDigits]
  split <;> simp
theorem puM_dec (M : Nat) (r : List UInt8) : ∀ n : Nat, n ≤ M → n < 18446744073709551616 → Lib.parseUintM M 0 (Lib.decDigits n ++ r) = Lib.parseUintM M n r := by
  intro n
  induction n using Nat.strongRecOn generalizing r with
  | ind n ih =>
    intro hM hn
    rw [Lib.decDigits]
    split
    · have e : (UInt8.ofNat (48 + n)).toNat = 48 + n := by rw [UInt8.toNat_ofNat']; omega
      rw [List.singleton_append, Lib.parseUintM, e, if_pos (by omega), if_neg (by omega), if_neg (by omega)]
      congr 1
      omega
    · have e : (UInt8.ofNat (48 + n % 10)).toNat = 48 + n % 10 := by rw [UInt8.toNat_ofNat']; omega
      rw [List.append_assoc, List.singleton_append, ih (n / 10) (by omega) _ (by omega) (by omega), Lib.parseUintM, e, if_pos (by omega), if_neg (by omega), if_neg (by omega)]
      congr 1
      omega
theorem pu_dec {B n : Nat} (h : n ≤ 2 ^ B - 1) (h2 : n < 18446744073709551616) : Lib.parseUintB B (Lib.decDigits n) = .ok n := by
  unfold Lib.parseUintB
  rw [if_neg (dec_ne n)]
  have := puM_dec (2 ^ B - 1) [] n h h2
  rw [List.append_nil] at this
  rw [this, Lib.parseUintM]
theorem itoa_nat {a : Int} (h : 0 ≤ a) : Lib.itoa a = Lib.decDigits a.toNat := by
  unfold Lib.itoa
  rw [if_neg (by omega)]
theorem pI_itoa {a : Int} (h0 : 0 ≤ a) (h : a < 13569465600) : pI (Lib.itoa a) = (a, true) := by
  obtain ⟨n, rfl⟩ := Int.eq_ofNat_of_zero_le h0
  rw [itoa_nat h0, Int.toNat_natCast]
  have hd := dec_digit n
  have hp := pu_dec (B := 64) (n := n) (by omega) (by omega)
  unfold pI
  cases hl : Lib.decDigits n with
  | nil => exact absurd hl (dec_ne n)
  | cons c r =>
    have hc := hd c (by rw [hl]; simp)
    rw [hl] at hp
    have : Lib.parseIntB 64 (c :: r) = .ok (n : Int) := by
      rw [Lib.parseIntB_plain 64 c r (by omega) (by omega), hp]
      unfold Lib.signlessC
      simp only
      rw [if_neg (by omega)]
    rw [this]
def okFour (m : Nat) : Bool := match Lib.parseUintB 16 (four m) with | .ok u => u == m | _ => false
theorem four_back : ∀ m, m < 1460 → okFour m = true := by decide +kernel
theorem four_read {m : Nat} (h : m < 1460) : Lib.parseUintB 16 (four m) = .ok m := by
  have := four_back m h
  unfold okFour at this
  split at this
  · rename_i u hu; rw [hu]; simp at this; rw [this]
  · cases this
theorem offV_back {o : Int} (h : offOk o = true) : offV (decide (o < 0)) (hhmm o.natAbs) = o := by
  rw [offOk_iff] at h
  unfold offV
  have := hhmm_back (n := o.natAbs) (by omega)
  rw [this]
  by_cases ho : o < 0
  · rw [if_pos (by simp [ho])]; omega
  · rw [if_neg (by simp [ho])]; omega
theorem readZ_wr {o : Int} (h : offOk o = true) : readZ (wrZ o) = (o, true) := by
  have hb := offV_back h
  have h' := offOk_iff.1 h
  unfold wrZ readZ
  simp only
  rw [four_read (hhmm_lt (by omega))]
  by_cases ho : o < 0
  · simp only [if_pos ho]
    rw [if_pos (by simp)]
    simp only [decide_true]
    rw [decide_eq_true ho] at hb
    rw [hb]
  · simp only [if_neg ho]
    rw [if_pos (by simp)]
    rw [decide_eq_false ho] at hb
    have : decide ((43 : UInt8) = 45) = false := by decide
    rw [this, hb]
theorem blank_wr (o : Int) : (32 : UInt8) ∉ wrZ o := by
  unfold wrZ four
  simp only [List.mem_cons, List.not_mem_nil, or_false, not_or]
  refine ⟨?_, (dg8_ne _ (by decide)).symm, (dg8_ne _ (by decide)).symm, (dg8_ne _ (by decide)).symm, (dg8_ne _ (by decide)).symm⟩
  split <;> decide
theorem blank_part {c : Int × Int} (h : 0 ≤ c.1) : (32 : UInt8) ∉ partZ c := by
  unfold partZ
  rw [itoa_nat h, List.mem_append, not_or]
  refine ⟨fun hm => ?_, blank_wr _⟩
  have := dec_digit _ _ hm
  revert this
  decide
theorem step_word {j : Nat} (hj : j ≠ 0) {c : Int × Int} (ho : offOk c.2 = true) (h0 : 0 ≤ c.1) (h1 : c.1 < 13569465600) (f : Int) (L : List (Int × Int)) : ¬ (partZ c).length < 5 ∧ stepZ j (partZ c) (true, f, L) = (true, f, L ++ [c]) := by
  have hl : (partZ c).length = (Lib.itoa c.1).length + 5 := by unfold partZ; rw [List.length_append, wrZ_len]
  refine ⟨by omega, ?_⟩
  unfold stepZ
  rw [if_neg hj, hl, Nat.add_sub_cancel]
  have e1 : (partZ c).drop (Lib.itoa c.1).length = wrZ c.2 := by unfold partZ; rw [List.drop_left]
  have e2 : (partZ c).take (Lib.itoa c.1).length = Lib.itoa c.1 := by unfold partZ; rw [List.take_left]
  rw [e1, e2, readZ_wr ho, pI_itoa h0 h1]
  rfl
theorem go_words : ∀ (R : List (Int × Int)) (j : Nat) (f : Int) (L : List (Int × Int)), j ≠ 0 → (∀ c ∈ R, offOk c.2 = true ∧ 0 ≤ c.1 ∧ c.1 < 13569465600) → goZ j (R.map partZ) (true, f, L) = some (true, f, L ++ R)
  | [], j, f, L, _, _ => by simp [goZ]
  | c :: R, j, f, L, hj, h => by
    obtain ⟨h1, h2, h3⟩ := h c (by simp)
    obtain ⟨s1, s2⟩ := step_word hj h1 h2 h3 f L
    rw [List.map_cons, goZ, if_neg s1, s2, go_words R (j + 1) f (L ++ [c]) (by omega) fun d hd => h d (by simp [hd])]
    simp
theorem mayL_in : ∀ {l : List (Int × Int)} {p : Option Int}, mayL p l = true → ∀ c ∈ l, offOk c.2 = true ∧ 0 ≤ c.1 ∧ c.1 < 13569465600
  | [], _, _, c, hc => by cases hc
  | (a, o) :: r, p, h, c, hc => by
    rw [mayL_cons] at h
    rcases List.mem_cons.1 hc with e | hc
    · subst e; exact ⟨h.1, h.2.1, h.2.2.1⟩
    · exact mayL_in h.2.2.2.2.2 c hc
theorem may_parts {z : Zn} (h : mayZ z = true) : offOk z.first = true ∧ z.l.length ≤ 64 ∧ mayL none z.l = true := by
  simp only [mayZ, Bool.and_eq_true, decide_eq_true_eq] at h
  exact ⟨h.1.1, h.1.2, h.2⟩
theorem digits_le {n : Nat} (h : n < 13569465600) : (Lib.decDigits n).length ≤ 11 := by
  rw [Lib.decDigits_length]
  by_cases hn : n < 10
  · rw [Lib.nDigits_small hn]; omega
  · refine Nat.not_lt.1 fun hc => ?_
    obtain ⟨k, hk⟩ : ∃ k, Lib.nDigits n = k + 12 := ⟨Lib.nDigits n - 12, by omega⟩
    have : ∀ k u : Nat, Lib.nDigits u = k + 1 → 10 ^ k ≤ u ∨ k = 0 := by
      intro k
      induction k with
      | zero => intro u _; exact .inr rfl
      | succ k ih =>
        intro u hu
        by_cases h10 : u < 10
        · rw [Lib.nDigits_small h10] at hu; omega
        · rw [Lib.nDigits_big h10] at hu
          rcases ih (u / 10) (by omega) with h | h
          · left; rw [Nat.pow_succ]; omega
          · subst h; left; simp; omega
    rcases this (k + 11) n (by omega) with h1 | h1
    · have h2 : 10 ^ 11 ≤ 10 ^ (k + 11) := Nat.pow_le_pow_right (by decide) (by omega)
      omega
    · omega
theorem join_len (c : UInt8) (m : Nat) : ∀ (l : List (List UInt8)), (∀ x ∈ l, x.length ≤ m) → (Lib.join l [c]).length ≤ l.length * (m + 1)
  | [], _ => by simp [Lib.join]
  | [x], h => by have := h x (by simp); simp [Lib.join]; omega
  | x :: y :: r, h => by
    have h1 := h x (by simp)
    have h2 := join_len c m (y :: r) fun w hw => h w (by simp [hw])
    rw [join_cons2]
    simp only [List.length_append, List.length_cons] at h2 ⊢
    rw [Nat.add_mul]
    omega
theorem part_len {c : Int × Int} (h0 : 0 ≤ c.1) (h1 : c.1 < 13569465600) : (partZ c).length ≤ 16 := by
  unfold partZ
  rw [itoa_nat h0, List.length_append, wrZ_len]
  have := digits_le (n := c.1.toNat) (by omega)
  omega
theorem text_len (z : Zn) : (textZ z).length ≤ 1105 := by
  unfold textZ
  split
  · rename_i h
    obtain ⟨h1, h2, h3⟩ := may_parts h
    have := join_len 32 16 (wordsZ z) fun x hx => by
      unfold wordsZ at hx
      rcases List.mem_cons.1 hx with e | hx
      · subst e; rw [wrZ_len]; omega
      · obtain ⟨c, hc, rfl⟩ := List.mem_map.1 hx
        have := mayL_in h3 c hc
        exact part_len this.2.1 this.2.2
    unfold wordsZ at this ⊢
    simp only [List.length_cons, List.length_map] at this
    omega
  · simp
theorem words_sp {z : Zn} (h : mayZ z = true) : sp 32 (textZ z) = wordsZ z := by
  obtain ⟨h1, h2, h3⟩ := may_parts h
  unfold textZ
  rw [if_pos h]
  unfold wordsZ
  refine sp_join _ _ fun y hy => ?_
  rcases List.mem_cons.1 hy with e | hy
  · subst e; exact blank_wr _
  · obtain ⟨c, hc, rfl⟩ := List.mem_map.1 hy
    exact blank_part (mayL_in h3 c hc).2.1
theorem parseZ_text {z : Zn} (h : mayZ z = true) : parseZ (textZ z) = some z := by
  obtain ⟨h1, h2, h3⟩ := may_parts h
  have hl := text_len z
  unfold parseZ
  rw [if_neg (by omega), words_sp h]
  unfold wordsZ
  have e0 : stepZ 0 (wrZ z.first) (true, 0, []) = (true, z.first, []) := by
    unfold stepZ
    rw [if_pos rfl, wrZ_len]
    simp only [Nat.sub_self, List.drop_zero]
    rw [readZ_wr h1]
    rfl
  rw [goZ, wrZ_len, if_neg (by omega), e0, go_words _ _ _ _ (by omega) (mayL_in h3)]
  unfold finZ
  simp
def isDg (c : UInt8) : Bool := decide (48 ≤ c.toNat) && decide (c.toNat ≤ 57)
def dv (c : UInt8) : Nat := c.toNat - 48
def offR : List UInt8 → Int × Bool
  | c :: a :: b :: d :: e :: _ =>
    if (c = 43 ∨ c = 45) ∧ isDg a = true ∧ isDg b = true ∧ isDg d = true ∧ isDg e = true then (offV (decide (c = 45)) (((dv a * 10 + dv b) * 10 + dv d) * 10 + dv e), true) else (0, false)
  | _ => (0, false)
def digR : Nat → List UInt8 → Nat × List UInt8
  | t, [] => (t, [])
  | t, c :: r => if isDg c = true ∧ t < 13569465600 then digR (10 * t + dv c) r else (t, c :: r)
theorem digR_len : ∀ (r : List UInt8) (t : Nat), (digR t r).2.length ≤ r.length
  | [], t => by simp [digR]
  | c :: r, t => by
    unfold digR
    split
    · have := digR_len r (10 * t + dv c); simp; omega
    · simp
def goR : Nat → List UInt8 → List (Int × Int) → Bool × List (Int × Int)
  | _, [], L => (true, L)
  | 0, _, L => (false, L)
  | f + 1, _ :: r, L =>
    if (offR (digR 0 r).2).2 = true then goR f ((digR 0 r).2.drop 5) (L ++ [(((digR 0 r).1 : Int), (offR (digR 0 r).2).1)])
    else (false, L ++ [(((digR 0 r).1 : Int), (offR (digR 0 r).2).1)])
def refZ (s : List UInt8) : Option Zn :=
  if (offR s).2 = true ∧ s.length ≤ 4000 ∧ (goR s.length (s.drop 5) []).1 = true ∧ mayZ ⟨(offR s).1, (goR s.length (s.drop 5) []).2⟩ = true ∧ textZ ⟨(offR s).1, (goR s.length (s.drop 5) []).2⟩ = s then some ⟨(offR s).1, (goR s.length (s.drop 5) []).2⟩ else none
theorem refZ_sound {s : List UInt8} {z : Zn} (h : refZ s = some z) : textZ z = s ∧ mayZ z = true := by
  unfold refZ at h
  split at h
  · rename_i hc; cases h; exact ⟨hc.2.2.2.2, hc.2.2.2.1⟩
  · cases h
def okFourR (m : Nat) : Bool := match four m with | [a, b, d, e] => isDg a && isDg b && isDg d && isDg e && (((dv a * 10 + dv b) * 10 + dv d) * 10 + dv e == m) | _ => false
theorem fourR_back : ∀ m, m < 1460 → okFourR m = true := by decide +kernel
theorem offR_wr {o : Int} (h : offOk o = true) (r : List UInt8) : offR (wrZ o ++ r) = (o, true) := by
  have hb := offV_back h
  have h' := offOk_iff.1 h
  have hf := fourR_back (hhmm o.natAbs) (hhmm_lt (by omega))
  unfold wrZ
  generalize hhmm o.natAbs = m at hb hf ⊢
  unfold okFourR four at hf
  simp only [Bool.and_eq_true, beq_iff_eq] at hf
  obtain ⟨⟨⟨⟨f1, f2⟩, f3⟩, f4⟩, f5⟩ := hf
  unfold four offR
  simp only [List.cons_append, List.nil_append, f1, f2, f3, f4, f5, and_self, and_true]
  by_cases ho : o < 0
  · simp only [if_pos ho]
    rw [if_pos (by simp)]
    rw [decide_eq_true ho] at hb
    simp only [decide_true]
    rw [hb]
  · simp only [if_neg ho]
    rw [if_pos (by simp)]
    rw [decide_eq_false ho] at hb
    have : decide ((43 : UInt8) = 45) = false := by decide
    rw [this, hb]
theorem digR_dec (r : List UInt8) : ∀ n : Nat, n < 13569465600 → digR 0 (Lib.decDigits n ++ r) = digR n r := by
  intro n
  induction n using Nat.strongRecOn generalizing r with
  | ind n ih =>
    intro hn
    rw [Lib.decDigits]
    split
    · have e : (UInt8.ofNat (48 + n)).toNat = 48 + n := by rw [UInt8.toNat_ofNat']; omega
      rw [List.singleton_append, digR, if_pos ⟨by unfold isDg; rw [e]; simp; omega, by omega⟩]
      congr 1
      unfold dv
      omega
    · have e : (UInt8.ofNat (48 + n % 10)).toNat = 48 + n % 10 := by rw [UInt8.toNat_ofNat']; omega
      rw [List.append_assoc, List.singleton_append, ih (n / 10) (by omega) _ (by omega), digR, if_pos ⟨by unfold isDg; rw [e]; simp; omega, by omega⟩]
      congr 1
      unfold dv
      omega
theorem digR_stop (t : Nat) {c : UInt8} (h : isDg c = false) (r : List UInt8) : digR t (c :: r) = (t, c :: r) := by
  rw [digR, if_neg (by rw [h]; simp)]
theorem sign_dg (o : Int) : isDg (if o < 0 then 45 else 43) = false := by
  split <;> decide
theorem digR_part {c : Int × Int} (h0 : 0 ≤ c.1) (h1 : c.1 < 13569465600) (r : List UInt8) : digR 0 (partZ c ++ r) = (c.1.toNat, wrZ c.2 ++ r) := by
  unfold partZ
  rw [itoa_nat h0, List.append_assoc, digR_dec _ _ (by omega)]
  unfold wrZ
  rw [List.cons_append, digR_stop _ (sign_dg _)]
theorem goR_words : ∀ (R : List (Int × Int)) (f : Nat) (L : List (Int × Int)), R.length ≤ f → (∀ c ∈ R, offOk c.2 = true ∧ 0 ≤ c.1 ∧ c.1 < 13569465600) → goR f (R.flatMap fun c => 32 :: partZ c) L = (true, L ++ R)
  | [], f, L, _, _ => by cases f <;> simp [goR]
  | c :: R, 0, L, hf, _ => by simp at hf
  | c :: R, f + 1, L, hf, h => by
    obtain ⟨h1, h2, h3⟩ := h c (by simp)
    rw [List.flatMap_cons, List.cons_append, goR, digR_part h2 h3]
    simp only
    rw [offR_wr h1, if_pos rfl]
    have : (wrZ c.2 ++ R.flatMap fun c => 32 :: partZ c).drop 5 = R.flatMap fun c => 32 :: partZ c := List.drop_left' (wrZ_len _)
    rw [this, goR_words R f _ (by simpa using hf) fun d hd => h d (by simp [hd])]
    simp only [Int.toNat_of_nonneg h2, List.append_assoc, List.singleton_append]
theorem join_flat (x : List UInt8) : ∀ (R : List (List UInt8)), Lib.join (x :: R) [32] = x ++ R.flatMap fun y => 32 :: y
  | [] => by simp [Lib.join]
  | y :: R => by rw [join_cons2, join_flat y R, List.flatMap_cons]; simp
theorem refZ_text {z : Zn} (h : mayZ z = true) : refZ (textZ z) = some z := by
  obtain ⟨h1, h2, h3⟩ := may_parts h
  have hl := text_len z
  have ht : textZ z = wrZ z.first ++ z.l.flatMap fun c => 32 :: partZ c := by
    unfold textZ wordsZ
    rw [if_pos h, join_flat, List.flatMap_map]
  have hd : (textZ z).drop 5 = z.l.flatMap fun c => 32 :: partZ c := by rw [ht]; exact List.drop_left' (wrZ_len _)
  have ho : offR (textZ z) = (z.first, true) := by rw [ht]; exact offR_wr h1 _
  have hlen : z.l.length ≤ (textZ z).length := by
    rw [ht, List.length_append]
    have : ∀ R : List (Int × Int), R.length ≤ (R.flatMap fun c => 32 :: partZ c).length := by
      intro R
      induction R with
      | nil => simp
      | cons c R ih => rw [List.flatMap_cons, List.length_append]; simp only [List.length_cons]; omega
    have := this z.l
    omega
  unfold refZ
  rw [ho, hd, goR_words _ _ _ hlen (mayL_in h3), List.nil_append]
  simp only [true_and]
  rw [if_pos ⟨by omega, h, trivial⟩]
theorem ref_parse (s : List UInt8) : refZ s = parseZ s := by
  cases h : refZ s with
  | some z =>
    obtain ⟨h1, h2⟩ := refZ_sound h
    rw [← h1, parseZ_text h2]
  | none =>
    cases h' : parseZ s with
    | none => rfl
    | some z =>
      obtain ⟨h1, h2⟩ := parseZ_sound h'
      rw [← h1, refZ_text h2] at h
      cases h
end Go.Proofs.YtmoncokklkiikaaGreatDoor
