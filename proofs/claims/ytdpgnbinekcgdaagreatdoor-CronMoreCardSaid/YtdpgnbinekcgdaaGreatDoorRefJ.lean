/- The document's moments of clocks; which clocks fit; texts of expressions. -/
import Derived.Test.YtdpgnbinekcgdaaGreatDoorRefZ
namespace Go.Proofs.YtdpgnbinekcgdaaGreatDoor
open Rg Go

variable {H : Heap}

theorem c_join_bad {c : Clk} (h : mayC c = false) : AOk Tryz.prog 60 [cAV c] H (.tup [.sc (.int .i64 0), .sc (.int .i64 2)]) H := by
  obtain ⟨y, m, d, h', mi, s, w⟩ := c
  refine ACalls.into Tryz.func60 rfl Tryz.ntmps60 Tryz.results60 (by simp) ?_
  simp -implicitDefEqProofs
  refine AAlloc.intro fun b hb => ?_
  have hW : ∀ o, HWk H (H.set b o) := fun o => HWk.new hb (HWk.refl _)
  simp -implicitDefEqProofs
  cases hd : mayD y m d with
  | false =>
    refine ACall.eq (c_ref4Days_bad hd) ?_
    simp -implicitDefEqProofs
    refine go_draw 39 f_mixed (by decide +kernel) ?_
    simp -implicitDefEqProofs
    exact hW _
  | true =>
    obtain ⟨i, dd, hi, hdd, e1, e2, e3⟩ := mayD_in hd
    generalize 1970 + i / 12 = Y at e1
    generalize i % 12 + 1 = M at e2
    generalize dd + 1 = D at e3
    subst e1 e2 e3
    refine ACall.eq (c_ref4Days hd) ?_
    simp -implicitDefEqProofs
    refine go_draw 39 f_mixed (by decide +kernel) ?_
    by_cases h1 : h' < 0
    · simp -implicitDefEqProofs [h1]
      exact hW _
    · by_cases h2 : 24 ≤ h'
      · simp -implicitDefEqProofs [h1, h2]
        exact hW _
      · by_cases m1 : mi < 0
        · simp -implicitDefEqProofs [h1, h2, m1]
          exact hW _
        · by_cases m2 : 60 ≤ mi
          · simp -implicitDefEqProofs [h1, h2, m1, m2]
            exact hW _
          · by_cases s1 : s < 0
            · simp -implicitDefEqProofs [h1, h2, m1, m2, s1]
              exact hW _
            · by_cases s2 : 60 ≤ s
              · simp -implicitDefEqProofs [h1, h2, m1, m2, s1, s2]
                exact hW _
              · simp -implicitDefEqProofs [h1, h2, m1, m2, s1, s2]
                have hlt := (clk_mom (h := 0) (mi := 0) (s := 0) hd (by omega) (by omega) (by omega)).1
                unfold momC at hlt
                refine AQS.eq (c_ref4Weekday (daysN Y M D) (by omega)) ?_
                have hw : ¬ w = (((daysN Y M D + 4) % 7 : Nat) : Int) := fun e => by
                  have e2 : w = wdayC ⟨Y, M, D, h', mi, s, w⟩ := e
                  have : mayC ⟨Y, M, D, h', mi, s, w⟩ = true := by
                    simp only [mayC, Bool.and_eq_true, decide_eq_true_eq]
                    exact ⟨⟨⟨⟨⟨⟨⟨by omega, by omega⟩, by omega⟩, by omega⟩, by omega⟩, by omega⟩, hd⟩, e2⟩
                  rw [this] at h; cases h
                generalize (((daysN Y M D + 4) % 7 : Nat) : Int) = wd at hw ⊢
                simp -implicitDefEqProofs [hw]
                exact hW _
theorem c_join_ok {y m d h mi s : Nat} (hd : mayD (y : Int) (m : Int) (d : Int) = true) (hh : h ≤ 23) (hm : mi ≤ 59) (hs : s ≤ 59) :
    AOk Tryz.prog 60 [cAV ⟨y, m, d, h, mi, s, (((daysN y m d + 4) % 7 : Nat) : Int)⟩] H (.tup [.sc (.int .i64 (momC y m d h mi s)), .sc (.int .i64 0)]) H := by
  have hlt := (clk_mom (h := 0) (mi := 0) (s := 0) hd (by omega) (by omega) (by omega)).1
  unfold momC at *
  have hdays := c_ref4Days (H := H) hd
  obtain ⟨n, hn⟩ : ∃ x, daysN y m d = x := ⟨_, rfl⟩
  rw [hn] at hlt ⊢
  obtain ⟨wd, hwd⟩ : ∃ x, (n + 4) % 7 = x := ⟨_, rfl⟩
  rw [hwd]
  obtain ⟨a1, ha1⟩ : ∃ x, n * 24 = x := ⟨_, rfl⟩
  obtain ⟨a2, ha2⟩ : ∃ x, a1 + h = x := ⟨_, rfl⟩
  obtain ⟨a3, ha3⟩ : ∃ x, a2 * 60 = x := ⟨_, rfl⟩
  obtain ⟨a4, ha4⟩ : ∃ x, a3 + mi = x := ⟨_, rfl⟩
  obtain ⟨a5, ha5⟩ : ∃ x, a4 * 60 = x := ⟨_, rfl⟩
  obtain ⟨a6, ha6⟩ : ∃ x, a5 + s = x := ⟨_, rfl⟩
  have w1 : IntKind.i64.wrap ((n : Int) * 24) = (a1 : Int) := wmul (b := 24) ha1 (by omega)
  have w2 : IntKind.i64.wrap ((a1 : Int) + (h : Int)) = (a2 : Int) := wadd ha2 (by omega)
  have w3 : IntKind.i64.wrap ((a2 : Int) * 60) = (a3 : Int) := wmul (b := 60) ha3 (by omega)
  have w4 : IntKind.i64.wrap ((a3 : Int) + (mi : Int)) = (a4 : Int) := wadd ha4 (by omega)
  have w5 : IntKind.i64.wrap ((a4 : Int) * 60) = (a5 : Int) := wmul (b := 60) ha5 (by omega)
  have w6 : IntKind.i64.wrap ((a5 : Int) + (s : Int)) = (a6 : Int) := wadd ha6 (by omega)
  have wn : IntKind.i64.wrap (n : Int) = (n : Int) := wrap_i64 (by omega) (by omega)
  have wh : IntKind.i64.wrap (h : Int) = (h : Int) := wrap_i64 (by omega) (by omega)
  have wm : IntKind.i64.wrap (mi : Int) = (mi : Int) := wrap_i64 (by omega) (by omega)
  have ws : IntKind.i64.wrap (s : Int) = (s : Int) := wrap_i64 (by omega) (by omega)
  have eq : n * 86400 + h * 3600 + mi * 60 + s = a6 := by omega
  rw [eq]
  have h2 : ¬ (24 : Int) ≤ (h : Int) := by omega
  have h2' : ¬ 24 ≤ h := by omega
  have m2 : ¬ (60 : Int) ≤ (mi : Int) := by omega
  have m2' : ¬ 60 ≤ mi := by omega
  have s2 : ¬ (60 : Int) ≤ (s : Int) := by omega
  have s2' : ¬ 60 ≤ s := by omega
  refine ACalls.into Tryz.func60 rfl Tryz.ntmps60 Tryz.results60 (by simp) ?_
  simp -implicitDefEqProofs
  refine AAlloc.intro fun b hb => ?_
  simp -implicitDefEqProofs
  refine ACall.eq (v := .tup [.sc (.int .i64 n), .sc (.int .i64 0)]) (by rw [← hn]; exact c_ref4Days hd) ?_
  simp -implicitDefEqProofs
  refine go_draw 39 f_mixed (by decide +kernel) ?_
  simp -implicitDefEqProofs [h2, h2', m2, m2', s2, s2']
  refine AQS.eq (v := .sc (.int .i64 wd)) (by rw [← hwd]; exact c_ref4Weekday n (by omega)) ?_
  simp -implicitDefEqProofs [w1, w2, w3, w4, w5, w6, wn, wh, wm, ws]
  exact HWk.new hb (HWk.refl _)
theorem c_join_any (c : Clk) : ∃ v : Int, AOk Tryz.prog 60 [cAV c] H (.tup [.sc (.int .i64 v), .sc (.int .i64 (if mayC c = true then 0 else 2))]) H := by
  cases h : mayC c with
  | false => exact ⟨0, c_join_bad h⟩
  | true =>
    obtain ⟨y, m, d, h', mi, s, w⟩ := c
    simp only [mayC, Bool.and_eq_true, decide_eq_true_eq] at h
    obtain ⟨⟨⟨⟨⟨⟨⟨h1, h2⟩, h3⟩, h4⟩, h5⟩, h6⟩, hd⟩, hw⟩ := h
    obtain ⟨i, dd, hi, hdd, e1, e2, e3⟩ := mayD_in hd
    generalize 1970 + i / 12 = Y at e1
    generalize i % 12 + 1 = M at e2
    generalize dd + 1 = D at e3
    subst e1 e2 e3
    obtain ⟨h', rfl⟩ := Int.eq_ofNat_of_zero_le h1
    obtain ⟨mi, rfl⟩ := Int.eq_ofNat_of_zero_le h3
    obtain ⟨s, rfl⟩ := Int.eq_ofNat_of_zero_le h5
    have ew : w = (((daysN Y M D + 4) % 7 : Nat) : Int) := hw
    subst ew
    exact ⟨_, c_join_ok hd (by omega) (by omega) (by omega)⟩

theorem c_ref7DayFits (x : Ex) (hx : x.ok) (c : Clk) : AOk Tryz.prog 31 [exAV x, cAV c] H (.sc (.bool (dayFitsX x c))) H := by
  refine ACalls.into Tryz.func31 rfl Tryz.ntmps31 Tryz.results31 (by simp) ?_
  simp -implicitDefEqProofs
  refine AAlloc.intro fun b2 h2 => ?_
  simp -implicitDefEqProofs
  refine AAlloc.intro fun b3 h3 => ?_
  have n32 : b3 ≠ b2 := by intro e; subst e; simp [Heap.set] at h3
  have n23 := n32.symm
  have e3 : H b3 = none := (HLe.set_fresh h2).none h3
  simp -implicitDefEqProofs [n32, n23]
  generalize hK : Heap.set _ b3 _ = K
  have k2 : K b2 = some (.cells (exC x) 37) := by rw [← hK]; simp [Heap.set, n23]
  have k3 : K b3 = some (.cells [.sc (.int .i64 c.y), .sc (.int .i64 c.m), .sc (.int .i64 c.d), .sc (.int .i64 c.h), .sc (.int .i64 c.mi), .sc (.int .i64 c.s), .sc (.int .i64 c.w)] 44) := by rw [← hK]; simp [Heap.set]
  have kW : HWk H K := by rw [← hK]; exact HWk.new e3 (HWk.new h2 (HWk.refl _))
  clear hK
  obtain ⟨v, hj⟩ := c_join_any (H := K) c
  unfold dayFitsX
  cases hc : mayC c with
  | false =>
    rw [hc] at hj
    refine ACall.eq hj ?_
    simp -implicitDefEqProofs
    exact kW
  | true =>
    rw [hc] at hj
    refine ACall.eq hj ?_
    simp -implicitDefEqProofs [k2]
    refine ACall.eq (c_ref7May x hx) ?_
    cases hm : mayX x with
    | false => simp -implicitDefEqProofs; exact kW
    | true =>
      obtain ⟨day, hday⟩ : ∃ z, hasB x.c.bits c.d = z := ⟨_, rfl⟩
      obtain ⟨week, hweek⟩ : ∃ z, hasB x.e.bits c.w = z := ⟨_, rfl⟩
      obtain ⟨mon, hmon⟩ : ∃ z, hasB x.d.bits c.m = z := ⟨_, rfl⟩
      have p1 := c_refHas (H := K) x.d c.m hx.d
      have p2 := c_refHas (H := K) x.c c.d hx.c
      have p3 := c_refHas (H := K) x.e c.w hx.e
      rw [hmon] at p1
      rw [hday] at p2
      rw [hweek] at p3
      rw [hday, hweek, hmon]
      simp -implicitDefEqProofs [k2, k3]
      refine ACall.eq p1 ?_
      cases mon with
      | false => simp -implicitDefEqProofs; exact kW
      | true =>
        simp -implicitDefEqProofs [k2, k3]
        refine ACall.eq p2 ?_
        simp -implicitDefEqProofs [k2, k3]
        refine ACall.eq p3 ?_
        cases hsc : x.c.star with
        | true =>
          simp -implicitDefEqProofs [k2, hsc]
          cases day <;> cases week <;> simp -implicitDefEqProofs <;> exact kW
        | false =>
          cases hse : x.e.star with
          | true =>
            simp -implicitDefEqProofs [k2, hsc, hse]
            cases day <;> cases week <;> simp -implicitDefEqProofs <;> exact kW
          | false =>
            simp -implicitDefEqProofs [k2, hsc, hse]
            cases day <;> cases week <;> simp -implicitDefEqProofs <;> exact kW
theorem c_ref7Fits (x : Ex) (hx : x.ok) (c : Clk) : AOk Tryz.prog 29 [exAV x, cAV c] H (.sc (.bool (fitsX x c))) H := by
  refine ACalls.into Tryz.func29 rfl Tryz.ntmps29 Tryz.results29 (by simp) ?_
  simp -implicitDefEqProofs
  refine AAlloc.intro fun b2 h2 => ?_
  simp -implicitDefEqProofs
  refine AAlloc.intro fun b3 h3 => ?_
  have n32 : b3 ≠ b2 := by intro e; subst e; simp [Heap.set] at h3
  have n23 := n32.symm
  have e3 : H b3 = none := (HLe.set_fresh h2).none h3
  simp -implicitDefEqProofs [n32, n23]
  generalize hK : Heap.set _ b3 _ = K
  have k2 : K b2 = some (.cells (exC x) 37) := by rw [← hK]; simp [Heap.set, n23]
  have k3 : K b3 = some (.cells [.sc (.int .i64 c.y), .sc (.int .i64 c.m), .sc (.int .i64 c.d), .sc (.int .i64 c.h), .sc (.int .i64 c.mi), .sc (.int .i64 c.s), .sc (.int .i64 c.w)] 44) := by rw [← hK]; simp [Heap.set]
  have kW : HWk H K := by rw [← hK]; exact HWk.new e3 (HWk.new h2 (HWk.refl _))
  clear hK
  refine ACall.eq (c_ref7DayFits x hx c) ?_
  unfold fitsX
  cases hd : dayFitsX x c with
  | false => simp -implicitDefEqProofs; exact kW
  | true =>
    simp -implicitDefEqProofs [k2, k3]
    refine ACall.eq (c_refHas x.a c.mi hx.a) ?_
    cases hm : hasB x.a.bits c.mi with
    | false => simp -implicitDefEqProofs; exact kW
    | true =>
      simp -implicitDefEqProofs [k2, k3]
      refine ACall.eq (c_refHas x.b c.h hx.b) ?_
      simp -implicitDefEqProofs
      exact kW
end Go.Proofs.YtdpgnbinekcgdaaGreatDoor
