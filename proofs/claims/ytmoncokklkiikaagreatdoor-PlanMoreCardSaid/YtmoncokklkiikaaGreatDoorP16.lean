/- Expressions: which may be, which clocks fit. Firings, in plain words: the last one up to a moment, the next one behind it, all of a time; a day's date from its neighbour's. Plans, plainly: rows' firings in one order. A row is a place in a list; its firings rise. What a law's row lists of package variables, as the start heap of its run; a world that meets it. Numbers and texts as bytes: what the program's package pack computes. Numbers and texts as bytes: pack.Take. Plans' peaks and gaps, as the document has them. Looking for firings, in plain words: what is known on the way, down (Last) and up (After), by hours and minutes, or minute by minute. The last firing up to a moment, as the program looks for it. -/
import Derived.Test.YtmoncokklkiikaaGreatDoorP15
import Derived.Test.YtmoncokklkiikaaGreatDoorP14
import Derived.Test.YtmoncokklkiikaaGreatDoorP08
import Derived.Lib.LaidU8
import Derived.Test.YtmoncokklkiikaaGreatDoorP09
import Derived.Laws.BitsAllLaws
set_option linter.unusedSimpArgs false
set_option linter.unusedVariables false
set_option linter.unnecessarySimpa false
namespace Go.Proofs.YtmoncokklkiikaaGreatDoor
open Rg Go
variable {H : Heap}
structure Ex where
  a : Fld
  b : Fld
  c : Fld
  d : Fld
  e : Fld
deriving DecidableEq
abbrev exC (x : Ex) : List AV := [.sc (.int .u64 x.a.bits), .sc (.bool x.a.star), .sc (.int .u64 x.b.bits), .sc (.bool x.b.star), .sc (.int .u64 x.c.bits), .sc (.bool x.c.star), .sc (.int .u64 x.d.bits), .sc (.bool x.d.star), .sc (.int .u64 x.e.bits), .sc (.bool x.e.star)]
abbrev exAV (x : Ex) : AV := .agg (exC x)
def Ex.get (x : Ex) : Nat → Fld
  | 0 => x.a
  | 1 => x.b
  | 2 => x.c
  | 3 => x.d
  | _ => x.e
structure Ex.ok (x : Ex) : Prop where
  a : x.a.bits < 18446744073709551616
  b : x.b.bits < 18446744073709551616
  c : x.c.bits < 18446744073709551616
  d : x.d.bits < 18446744073709551616
  e : x.e.bits < 18446744073709551616
def f0 : Fld := ⟨0, false⟩
def ex0 : Ex := ⟨f0, f0, f0, f0, f0⟩
def mayX (x : Ex) : Bool := mayB 0 x.a.bits && mayB 1 x.b.bits && mayB 2 x.c.bits && mayB 3 x.d.bits && mayB 4 x.e.bits
def dayFitsX (x : Ex) (c : Clk) : Bool :=
  mayX x && mayC c && hasB x.d.bits c.m && (if x.c.star = true ∨ x.e.star = true then hasB x.c.bits c.d && hasB x.e.bits c.w else hasB x.c.bits c.d || hasB x.e.bits c.w)
def fitsX (x : Ex) (c : Clk) : Bool := dayFitsX x c && hasB x.a.bits c.mi && hasB x.b.bits c.h
theorem lt_succ_all {P : Nat → Prop} {k : Nat} (h : ∀ i, i < k → P i) (hk : P k) : ∀ i, i < k + 1 → P i := fun i hi => by
  by_cases e : i = k
  · subst e; exact hk
  · exact h i (by omega)
theorem c_cronMay (x : Ex) (hx : x.ok) : AOk Tryz.prog 97 [exAV x] H (.sc (.bool (mayX x))) H := by
  refine ACalls.into Tryz.func97 rfl Tryz.ntmps97 Tryz.results97 (by simp) ?_
  simp -implicitDefEqProofs
  refine AAlloc.intro fun b1 h1 => ?_
  simp -implicitDefEqProofs
  refine AGo.rounds (fun m ρ K => ∃ j : Nat, j ≤ 5 ∧ m = 5 - j ∧ ρ 5 = exAV x ∧ ρ 6 = .sc (.int .i64 j) ∧ (∀ i, i < j → mayB (i : Int) (x.get i).bits = true) ∧ HWk H K) ?_ (m := 5) (HLe.refl _)
    ⟨0, by omega, rfl, by simp, by simp, fun i hi => by omega, HWk.new h1 (HWk.refl _)⟩
  rintro m ρ K ih ⟨j, hj, rfl, r5, r6, hm, hW⟩
  have hc : j = 0 ∨ j = 1 ∨ j = 2 ∨ j = 3 ∨ j = 4 ∨ j = 5 := by omega
  rcases hc with rfl | rfl | rfl | rfl | rfl | rfl
  · simp -implicitDefEqProofs [r5, r6]
    refine AAlloc.intro fun b hb => ?_
    have hW' : ∀ o, HWk H (K.set b o) := fun o => HWk.new (hW.none hb) hW
    simp -implicitDefEqProofs
    refine ACall.eq (c_may 0 x.a hx.a) ?_
    cases he : mayB 0 x.a.bits with
    | false => simp -implicitDefEqProofs [mayX, he]; exact hW' _
    | true =>
      simp -implicitDefEqProofs [r6, wrap_i64]
      exact AGo.again ih (m' := 4) (by omega) (HLe.refl _) ⟨1, by omega, rfl, by simp [r5], by simp, lt_succ_all (P := fun i : Nat => mayB (i : Int) (x.get i).bits = true) hm he, hW' _⟩
  · simp -implicitDefEqProofs [r5, r6]
    refine AAlloc.intro fun b hb => ?_
    have hW' : ∀ o, HWk H (K.set b o) := fun o => HWk.new (hW.none hb) hW
    simp -implicitDefEqProofs
    refine ACall.eq (c_may 1 x.b hx.b) ?_
    cases he : mayB 1 x.b.bits with
    | false => simp -implicitDefEqProofs [mayX, he]; exact hW' _
    | true =>
      simp -implicitDefEqProofs [r6, wrap_i64]
      exact AGo.again ih (m' := 3) (by omega) (HLe.refl _) ⟨2, by omega, rfl, by simp [r5], by simp, lt_succ_all (P := fun i : Nat => mayB (i : Int) (x.get i).bits = true) hm he, hW' _⟩
  · simp -implicitDefEqProofs [r5, r6]
    refine AAlloc.intro fun b hb => ?_
    have hW' : ∀ o, HWk H (K.set b o) := fun o => HWk.new (hW.none hb) hW
    simp -implicitDefEqProofs
    refine ACall.eq (c_may 2 x.c hx.c) ?_
    cases he : mayB 2 x.c.bits with
    | false => simp -implicitDefEqProofs [mayX, he]; exact hW' _
    | true =>
      simp -implicitDefEqProofs [r6, wrap_i64]
      exact AGo.again ih (m' := 2) (by omega) (HLe.refl _) ⟨3, by omega, rfl, by simp [r5], by simp, lt_succ_all (P := fun i : Nat => mayB (i : Int) (x.get i).bits = true) hm he, hW' _⟩
  · simp -implicitDefEqProofs [r5, r6]
    refine AAlloc.intro fun b hb => ?_
    have hW' : ∀ o, HWk H (K.set b o) := fun o => HWk.new (hW.none hb) hW
    simp -implicitDefEqProofs
    refine ACall.eq (c_may 3 x.d hx.d) ?_
    cases he : mayB 3 x.d.bits with
    | false => simp -implicitDefEqProofs [mayX, he]; exact hW' _
    | true =>
      simp -implicitDefEqProofs [r6, wrap_i64]
      exact AGo.again ih (m' := 1) (by omega) (HLe.refl _) ⟨4, by omega, rfl, by simp [r5], by simp, lt_succ_all (P := fun i : Nat => mayB (i : Int) (x.get i).bits = true) hm he, hW' _⟩
  · simp -implicitDefEqProofs [r5, r6]
    refine AAlloc.intro fun b hb => ?_
    have hW' : ∀ o, HWk H (K.set b o) := fun o => HWk.new (hW.none hb) hW
    simp -implicitDefEqProofs
    refine ACall.eq (c_may 4 x.e hx.e) ?_
    cases he : mayB 4 x.e.bits with
    | false => simp -implicitDefEqProofs [mayX, he]; exact hW' _
    | true =>
      simp -implicitDefEqProofs [r6, wrap_i64]
      exact AGo.again ih (m' := 0) (by omega) (HLe.refl _) ⟨5, by omega, rfl, by simp [r5], by simp, lt_succ_all (P := fun i : Nat => mayB (i : Int) (x.get i).bits = true) hm he, hW' _⟩
  · have g0 : mayB 0 x.a.bits = true := hm 0 (by omega)
    have g1 : mayB 1 x.b.bits = true := hm 1 (by omega)
    have g2 : mayB 2 x.c.bits = true := hm 2 (by omega)
    have g3 : mayB 3 x.d.bits = true := hm 3 (by omega)
    have g4 : mayB 4 x.e.bits = true := hm 4 (by omega)
    simp -implicitDefEqProofs [r5, r6, mayX, g0, g1, g2, g3, g4]
    exact hW
theorem c_allows {b : Nat} {x : Ex} (hb : H b = some (.cells (exC x) 42)) (hx : x.ok) (n : Int) :
    AOk Tryz.prog 145 [.sc (.int .i64 2), .sc (.int .i64 n), .sc (.pointer (some ⟨b, 0, none⟩))] H (.sc (.bool (hasB x.c.bits n))) H ∧
    AOk Tryz.prog 145 [.sc (.int .i64 3), .sc (.int .i64 n), .sc (.pointer (some ⟨b, 0, none⟩))] H (.sc (.bool (hasB x.d.bits n))) H ∧
    AOk Tryz.prog 145 [.sc (.int .i64 4), .sc (.int .i64 n), .sc (.pointer (some ⟨b, 0, none⟩))] H (.sc (.bool (hasB x.e.bits n))) H := by
  refine ⟨?_, ?_, ?_⟩
  · refine ACalls.into Tryz.func145 rfl Tryz.ntmps145 Tryz.results145 (by simp) ?_
    simp -implicitDefEqProofs [hb]
    refine ACall.eq (c_has x.c n hx.c) ?_
    simp -implicitDefEqProofs
  · refine ACalls.into Tryz.func145 rfl Tryz.ntmps145 Tryz.results145 (by simp) ?_
    simp -implicitDefEqProofs [hb]
    refine ACall.eq (c_has x.d n hx.d) ?_
    simp -implicitDefEqProofs
  · refine ACalls.into Tryz.func145 rfl Tryz.ntmps145 Tryz.results145 (by simp) ?_
    simp -implicitDefEqProofs [hb]
    refine ACall.eq (c_has x.e n hx.e) ?_
    simp -implicitDefEqProofs
theorem c_dayFits (x : Ex) (hx : x.ok) (c : Clk) : AOk Tryz.prog 93 [exAV x, cAV c] H (.sc (.bool (dayFitsX x c))) H := by
  refine ACalls.into Tryz.func93 rfl Tryz.ntmps93 Tryz.results93 (by simp) ?_
  simp -implicitDefEqProofs
  refine AAlloc.intro fun b2 h2 => ?_
  simp -implicitDefEqProofs
  refine AAlloc.intro fun b3 h3 => ?_
  have n32 : b3 ≠ b2 := by intro e; subst e; simp [Heap.set] at h3
  have n23 := n32.symm
  have e3 : H b3 = none := (HLe.set_fresh h2).none h3
  simp -implicitDefEqProofs [n32, n23]
  generalize hK : Heap.set _ b3 _ = K
  have k2 : K b2 = some (.cells (exC x) 42) := by rw [← hK]; simp [Heap.set, n23]
  have k3 : K b3 = some (.cells [.sc (.int .i64 c.y), .sc (.int .i64 c.m), .sc (.int .i64 c.d), .sc (.int .i64 c.h), .sc (.int .i64 c.mi), .sc (.int .i64 c.s), .sc (.int .i64 c.w)] 48) := by rw [← hK]; simp [Heap.set]
  have kW : HWk H K := by rw [← hK]; exact HWk.new e3 (HWk.new h2 (HWk.refl _))
  clear hK
  refine ACall.eq (c_cronMay x hx) ?_
  unfold dayFitsX
  cases hm : mayX x with
  | false => simp -implicitDefEqProofs; exact kW
  | true =>
    simp -implicitDefEqProofs [k3]
    refine ACall.eq (c_smay c) ?_
    cases hc : mayC c with
    | false => simp -implicitDefEqProofs; exact kW
    | true =>
      simp -implicitDefEqProofs
      refine go_draw 11 f_mixed (by decide +kernel) ?_
      simp -implicitDefEqProofs [k3]
      refine AQS.eq (c_allows k2 hx c.d).1 ?_
      simp -implicitDefEqProofs [k3]
      refine AQS.eq (c_allows k2 hx c.w).2.2 ?_
      obtain ⟨day, hday⟩ : ∃ z, hasB x.c.bits c.d = z := ⟨_, rfl⟩
      obtain ⟨week, hweek⟩ : ∃ z, hasB x.e.bits c.w = z := ⟨_, rfl⟩
      obtain ⟨mon, hmon⟩ : ∃ z, hasB x.d.bits c.m = z := ⟨_, rfl⟩
      have h3 := (c_allows (n := c.m) k2 hx).2.1
      rw [hmon] at h3
      rw [hday, hweek, hmon]
      cases hsc : x.c.star with
      | true =>
        simp -implicitDefEqProofs [k2, k3, hsc]
        refine ACall.eq h3 ?_
        cases mon <;> cases day <;> cases week <;> simp -implicitDefEqProofs <;> exact kW
      | false =>
        cases hse : x.e.star with
        | true =>
          simp -implicitDefEqProofs [k2, k3, hsc, hse]
          refine ACall.eq h3 ?_
          cases mon <;> cases day <;> cases week <;> simp -implicitDefEqProofs <;> exact kW
        | false =>
          simp -implicitDefEqProofs [k2, k3, hsc, hse]
          refine ACall.eq h3 ?_
          cases mon <;> cases day <;> cases week <;> simp -implicitDefEqProofs <;> exact kW
end Go.Proofs.YtmoncokklkiikaaGreatDoor
namespace Go.Proofs.YtmoncokklkiikaaGreatDoor
open Rg Go
theorem mayC_clk {t : Nat} (h : t < 13569465600) : mayC (clk t) = true := by
  obtain ⟨i, d, hi, hd, hn⟩ := day_of (n := t / 86400) (by omega)
  have hc := civ_at hi hd
  rw [← hn] at hc
  unfold mayC wdayC clk
  rw [hc]
  simp only [Int.toNat_natCast, days_of, ← hn, mayD_of hi hd, Bool.and_eq_true, decide_eq_true_eq, and_true]
  omega
def dayB (x : Ex) (n : Nat) : Bool :=
  hasB x.d.bits (civ n).2.1 && (if x.c.star = true ∨ x.e.star = true then hasB x.c.bits (civ n).2.2 && hasB x.e.bits ((n + 4) % 7 : Nat) else hasB x.c.bits (civ n).2.2 || hasB x.e.bits ((n + 4) % 7 : Nat))
theorem day_clk (x : Ex) {t : Nat} (h : t < 13569465600) : dayFitsX x (clk t) = (mayX x && dayB x (t / 86400)) := by
  unfold dayFitsX dayB
  rw [mayC_clk h, Bool.and_true, Bool.and_assoc]
  rfl
theorem day_n (x : Ex) {n : Nat} (h : n < 157054) : dayFitsX x (clk (n * 86400)) = (mayX x && dayB x n) := by
  rw [day_clk x (by omega)]
  congr 2
  omega
def fireB (x : Ex) (t : Nat) : Bool := decide (t % 60 = 0) && fitsX x (clk t)
theorem fire_eq (x : Ex) {t : Nat} (h : t < 13569465600) : fireB x t = true ↔ t % 60 = 0 ∧ mayX x = true ∧ dayB x (t / 86400) = true ∧ hasB x.a.bits (t % 3600 / 60 : Nat) = true ∧ hasB x.b.bits (t % 86400 / 3600 : Nat) = true := by
  unfold fireB fitsX
  rw [day_clk x h]
  simp only [Bool.and_eq_true, decide_eq_true_eq, and_assoc]
  rfl
theorem fire_mk {x : Ex} {n h m : Nat} (hn : n < 157054) (hh : h < 24) (hm : m < 60) (hx : mayX x = true) (hd : dayB x n = true) (ha : hasB x.a.bits (m : Int) = true) (hb : hasB x.b.bits (h : Int) = true) : fireB x (n * 86400 + h * 3600 + m * 60) = true := by
  rw [fire_eq x (by omega)]
  rw [show (n * 86400 + h * 3600 + m * 60) / 86400 = n by omega, show (n * 86400 + h * 3600 + m * 60) % 3600 / 60 = m by omega, show (n * 86400 + h * 3600 + m * 60) % 86400 / 3600 = h by omega]
  exact ⟨by omega, hx, hd, ha, hb⟩
theorem fire_inv {x : Ex} {t : Nat} (h : t < 13569465600) (hf : fireB x t = true) : ∃ n h m : Nat, n < 157054 ∧ h < 24 ∧ m < 60 ∧ t = n * 86400 + h * 3600 + m * 60 ∧ mayX x = true ∧ dayB x n = true ∧ hasB x.a.bits (m : Int) = true ∧ hasB x.b.bits (h : Int) = true := by
  obtain ⟨h0, h1, h2, h3, h4⟩ := (fire_eq x h).1 hf
  exact ⟨t / 86400, t % 86400 / 3600, t % 3600 / 60, by omega, by omega, by omega, by omega, h1, h2, h3, h4⟩
def IsNext (x : Ex) (t : Nat) : Option Nat → Prop
  | some n => t < n ∧ n < 13569465600 ∧ fireB x n = true ∧ ∀ k, t < k → k < n → fireB x k = false
  | none => ∀ k, t < k → k < 13569465600 → fireB x k = false
theorem next_one {x : Ex} {t : Nat} : ∀ {r s : Option Nat}, IsNext x t r → IsNext x t s → r = s
  | none, none, _, _ => rfl
  | none, some m, hr, ⟨h1, h0, h2, _⟩ => by have := hr m h1 h0; rw [h2] at this; cases this
  | some m, none, ⟨h1, h0, h2, _⟩, hs => by have := hs m h1 h0; rw [h2] at this; cases this
  | some m, some n, ⟨h1, h0, h2, h3⟩, ⟨g1, g0, g2, g3⟩ => by
    rcases Nat.lt_trichotomy m n with h | h | h
    · have := g3 m h1 h; rw [h2] at this; cases this
    · rw [h]
    · have := h3 n g1 h; rw [g2] at this; cases this
theorem first_ex (P : Nat → Bool) (t : Nat) : ∀ m : Nat, (∃ n, t < n ∧ n < m ∧ P n = true ∧ ∀ k, t < k → k < n → P k = false) ∨ ∀ k, t < k → k < m → P k = false
  | 0 => .inr fun k _ h => by omega
  | m + 1 => by
    rcases first_ex P t m with ⟨n, h1, h2, h3, h4⟩ | h
    · exact .inl ⟨n, h1, by omega, h3, h4⟩
    · by_cases hm : t < m ∧ P m = true
      · exact .inl ⟨m, hm.1, by omega, hm.2, fun k g1 g2 => h k g1 g2⟩
      · refine .inr fun k g1 g2 => ?_
        by_cases e : k = m
        · subst e
          cases hp : P k with
          | false => rfl
          | true => exact absurd ⟨g1, hp⟩ hm
        · exact h k g1 (by omega)
theorem next_ex (x : Ex) (t : Nat) : ∃ r, IsNext x t r := by
  rcases first_ex (fireB x) t 13569465600 with ⟨n, h1, h2, h3, h4⟩ | h
  · exact ⟨some n, h1, h2, h3, h4⟩
  · exact ⟨none, h⟩
def optN : Option Nat → Nat
  | some n => n
  | none => 0
def errN : Option Nat → Nat
  | some _ => 0
  | none => 5
theorem day_at {n : Nat} (h : n < 157054) : ∃ i d, i < 5160 ∧ d < mLen i ∧ n = mFirst i + d ∧ (civ n).1 = 1970 + i / 12 ∧ (civ n).2.1 = i % 12 + 1 ∧ (civ n).2.2 = d + 1 := by
  obtain ⟨i, d, hi, hd, rfl⟩ := day_of h
  refine ⟨i, d, hi, hd, rfl, ?_⟩
  rw [civ_at hi hd]
  exact ⟨rfl, rfl, rfl⟩
theorem civ_month {n : Nat} (h : n < 157054) : 1 ≤ (civ n).2.1 ∧ (civ n).2.1 ≤ 12 ∧ 1 ≤ (civ n).2.2 ∧ (civ n).2.2 ≤ mLong (civ n).1 (civ n).2.1 ∧ mLong (civ n).1 (civ n).2.1 ≤ 31 ∧ 1970 ≤ (civ n).1 ∧ (civ n).1 ≤ 2399 ∧ (civ n).2.2 ≤ n + 1 := by
  obtain ⟨i, d, hi, hd, hn, e1, e2, e3⟩ := day_at h
  have := mLen_le i
  rw [e1, e2, e3]
  unfold mLen at *
  omega
theorem civ_same {n k : Nat} (hn : n < 157054) (h1 : n ≤ k + ((civ n).2.2 - 1)) (h2 : k + (civ n).2.2 ≤ n + mLong (civ n).1 (civ n).2.1) : k < 157054 ∧ (civ k).2.1 = (civ n).2.1 := by
  obtain ⟨i, d, hi, hd, hn, e1, e2, e3⟩ := day_at hn
  rw [e1, e2, e3] at h2
  rw [e3] at h1
  have e : k = mFirst i + (k - mFirst i) := by omega
  have hk : k - mFirst i < mLen i := by unfold mLen; omega
  have h4 := mFirst_mono (i := i + 1) (j := 5160) (by omega) (Nat.le_refl _)
  rw [mFirst_succ hi, mFirst_end] at h4
  refine ⟨by omega, ?_⟩
  rw [e2, e, civ_at hi hk]
def firesL (x : Ex) (a b : Int) : List Nat := (List.range (b + 1).toNat).filter fun k => decide (a < (k : Int)) && fireB x k
theorem fires_mem {x : Ex} {a b : Int} {n : Nat} : n ∈ firesL x a b ↔ (n : Int) ≤ b ∧ a < (n : Int) ∧ fireB x n = true := by
  unfold firesL
  rw [List.mem_filter, List.mem_range]
  simp only [Bool.and_eq_true, decide_eq_true_eq]
  exact ⟨fun h => ⟨by omega, h.2.1, h.2.2⟩, fun h => ⟨by omega, h.2.1, h.2.2⟩⟩
theorem fires_none {x : Ex} {a b : Int} (h : ∀ k : Nat, a < (k : Int) → (k : Int) ≤ b → fireB x k = false) : firesL x a b = [] := by
  rw [List.eq_nil_iff_forall_not_mem]
  intro n hn
  obtain ⟨h1, h2, h3⟩ := fires_mem.1 hn
  rw [h n h2 h1] at h3
  cases h3
theorem fires_sorted (x : Ex) (a b : Int) : (firesL x a b).Pairwise (· < ·) := List.Pairwise.filter _ List.pairwise_lt_range
end Go.Proofs.YtmoncokklkiikaaGreatDoor
namespace Go.Proofs.YtmoncokklkiikaaGreatDoor
abbrev PIt := Nat × Nat
def pLt (a b : PIt) : Prop := a.1 < b.1 ∨ a.1 = b.1 ∧ a.2 < b.2
theorem pLt_irrefl (a : PIt) : ¬ pLt a a := by unfold pLt; omega
theorem pLt_trans {a b c : PIt} (h1 : pLt a b) (h2 : pLt b c) : pLt a c := by unfold pLt at *; omega
theorem pLt_tri (a b : PIt) : pLt a b ∨ a = b ∨ pLt b a := by
  obtain ⟨a1, a2⟩ := a
  obtain ⟨b1, b2⟩ := b
  unfold pLt
  simp only [Prod.mk.injEq]
  omega
theorem pLt_asymm {a b : PIt} (h : pLt a b) : ¬ pLt b a := fun h2 => pLt_irrefl _ (pLt_trans h h2)
theorem pSorted_eq : ∀ {M N : List PIt}, M.Pairwise pLt → N.Pairwise pLt → (∀ y, y ∈ M ↔ y ∈ N) → M = N
  | [], [], _, _, _ => rfl
  | [], n :: N, _, _, h => by have := (h n).2 (by simp); cases this
  | m :: M, [], _, _, h => by have := (h m).1 (by simp); cases this
  | m :: M, n :: N, hM, hN, h => by
    rw [List.pairwise_cons] at hM hN
    have e : m = n := by
      rcases pLt_tri m n with h1 | h1 | h1
      · have := (h m).1 (by simp)
        rcases List.mem_cons.1 this with h2 | h2
        · exact h2
        · exact absurd h1 (pLt_asymm (hN.1 m h2))
      · exact h1
      · have := (h n).2 (by simp)
        rcases List.mem_cons.1 this with h2 | h2
        · exact h2.symm
        · exact absurd h1 (pLt_asymm (hM.1 n h2))
    subst e
    congr 1
    refine pSorted_eq hM.2 hN.2 fun y => ⟨fun hy => ?_, fun hy => ?_⟩
    · rcases List.mem_cons.1 ((h y).1 (by simp [hy])) with h2 | h2
      · subst h2; exact absurd (hM.1 y hy) (pLt_irrefl y)
      · exact h2
    · rcases List.mem_cons.1 ((h y).2 (by simp [hy])) with h2 | h2
      · subst h2; exact absurd (hN.1 y hy) (pLt_irrefl y)
      · exact h2
structure Merged (Rs : List (List Nat)) (M : List PIt) : Prop where
  srt : M.Pairwise pLt
  mem : ∀ t i, (t, i) ∈ M ↔ ∃ R, Rs[i]? = some R ∧ t ∈ R
theorem Merged.one {Rs : List (List Nat)} {M N : List PIt} (h1 : Merged Rs M) (h2 : Merged Rs N) : M = N :=
  pSorted_eq h1.srt h2.srt fun ⟨t, i⟩ => (h1.mem t i).trans (h2.mem t i).symm
theorem Merged.nil {Rs : List (List Nat)} (h : ∀ R ∈ Rs, R = []) : Merged Rs [] := by
  refine ⟨List.Pairwise.nil, fun t i => ⟨fun h => by simp at h, ?_⟩⟩
  rintro ⟨R, h1, h2⟩
  rw [h R (List.mem_of_getElem? h1)] at h2
  cases h2
structure IsPick (Rs : List (List Nat)) (i t : Nat) (R : List Nat) : Prop where
  at_ : Rs[i]? = some (t :: R)
  le : ∀ (k u : Nat) (Q : List Nat), Rs[k]? = some (u :: Q) → t ≤ u ∧ (k < i → t < u)
theorem Merged.pick {Rs : List (List Nat)} {M : List PIt} {i t : Nat} {R : List Nat} (hs : ∀ Q ∈ Rs, Q.Pairwise (· < ·)) (h : Merged Rs M) (hp : IsPick Rs i t R) : ∃ M', M = (t, i) :: M' ∧ Merged (Rs.set i R) M' := by
  have hil : i < Rs.length := by
    have := hp.at_
    exact (List.getElem?_eq_some_iff.1 this).1
  have hm : (t, i) ∈ M := (h.mem t i).2 ⟨_, hp.at_, by simp⟩
  have hRs := hs _ (List.mem_of_getElem? hp.at_)
  rw [List.pairwise_cons] at hRs
  match M, h, hm with
  | (t', i') :: M', h, hm =>
    have hsr := List.pairwise_cons.1 h.srt
    obtain ⟨Q, hQ, hQt⟩ := (h.mem t' i').1 (by simp)
    have e : (t', i') = (t, i) := by
      match Q, hQ, hQt with
      | u :: Q, hQ, hQt =>
        have hQs := hs _ (List.mem_of_getElem? hQ)
        rw [List.pairwise_cons] at hQs
        have hut : u ≤ t' := by
          rcases List.mem_cons.1 hQt with h1 | h1
          · omega
          · have := hQs.1 t' h1; omega
        obtain ⟨p1, p2⟩ := hp.le i' u Q hQ
        rcases List.mem_cons.1 hm with h1 | h1
        · exact h1.symm
        · have h2 := hsr.1 _ h1
          unfold pLt at h2
          simp only at h2
          exfalso
          rcases Nat.lt_trichotomy i' i with h3 | h3 | h3
          · have := p2 h3; omega
          · omega
          · omega
    cases e
    refine ⟨M', rfl, hsr.2, fun s k => ?_⟩
    constructor
    · intro hk
      have hlt := hsr.1 _ hk
      obtain ⟨Q2, hQ2, hs'⟩ := (h.mem s k).1 (by simp [hk])
      by_cases hki : k = i
      · subst hki
        rw [hp.at_] at hQ2
        obtain rfl : t :: R = Q2 := Option.some.inj hQ2
        refine ⟨R, by simp [hil], ?_⟩
        rcases List.mem_cons.1 hs' with h1 | h1
        · subst h1; exact absurd hlt (pLt_irrefl _)
        · exact h1
      · exact ⟨Q2, by rw [List.getElem?_set_ne (Ne.symm hki)]; exact hQ2, hs'⟩
    · rintro ⟨Q2, hQ2, hs'⟩
      by_cases hki : k = i
      · subst hki
        rw [List.getElem?_set_self hil] at hQ2
        obtain rfl : R = Q2 := Option.some.inj hQ2
        have := (h.mem s k).2 ⟨_, hp.at_, by simp [hs']⟩
        rcases List.mem_cons.1 this with h1 | h1
        · cases h1
          have := hRs.1 _ hs'
          omega
        · exact h1
      · rw [List.getElem?_set_ne (Ne.symm hki)] at hQ2
        have := (h.mem s k).2 ⟨Q2, hQ2, hs'⟩
        rcases List.mem_cons.1 this with h1 | h1
        · cases h1; exact absurd rfl hki
        · exact h1
theorem Merged.done {Rs : List (List Nat)} {M : List PIt} (h : Merged Rs M) (he : ∀ R ∈ Rs, R = []) : M = [] := h.one (Merged.nil he)
def insP (M : List PIt) (y : PIt) : List PIt := M.filter (fun z => decide (z.1 ≤ y.1)) ++ y :: M.filter fun z => decide (y.1 < z.1)
theorem insP_sorted {M : List PIt} {y : PIt} (h : M.Pairwise pLt) (hb : ∀ z ∈ M, z.1 = y.1 → z.2 < y.2) : (insP M y).Pairwise pLt := by
  unfold insP
  rw [List.pairwise_append, List.pairwise_cons]
  refine ⟨h.filter _, ⟨fun z hz => ?_, h.filter _⟩, fun a ha b hb' => ?_⟩
  · simp only [List.mem_filter, decide_eq_true_eq] at hz
    exact .inl hz.2
  · simp only [List.mem_filter, decide_eq_true_eq] at ha
    rcases List.mem_cons.1 hb' with e | hb'
    · subst e
      rcases Nat.lt_or_ge a.1 b.1 with h1 | h1
      · exact .inl h1
      · exact .inr ⟨by omega, hb a ha.1 (by omega)⟩
    · simp only [List.mem_filter, decide_eq_true_eq] at hb'
      exact .inl (by omega)
theorem insP_mem {M : List PIt} {y z : PIt} : z ∈ insP M y ↔ z ∈ M ∨ z = y := by
  unfold insP
  simp only [List.mem_append, List.mem_cons, List.mem_filter, decide_eq_true_eq]
  constructor
  · rintro (h | h | h)
    · exact .inl h.1
    · exact .inr h
    · exact .inl h.1
  · rintro (h | h)
    · rcases Nat.lt_or_ge y.1 z.1 with h1 | h1
      · exact .inr (.inr ⟨h, h1⟩)
      · exact .inl ⟨h, h1⟩
    · exact .inr (.inl h)
def putRow (M : List PIt) (k : Nat) (R : List Nat) : List PIt := R.foldl (fun o t => insP o (t, k)) M
theorem putRow_mem (k : Nat) : ∀ (R : List Nat) (M : List PIt) (z : PIt), z ∈ putRow M k R ↔ z ∈ M ∨ (z.1 ∈ R ∧ z.2 = k)
  | [], M, z => by simp [putRow]
  | t :: R, M, z => by
    have := putRow_mem k R (insP M (t, k)) z
    unfold putRow at this ⊢
    rw [List.foldl_cons, this, insP_mem]
    obtain ⟨a, b⟩ := z
    simp only [Prod.mk.injEq, List.mem_cons]
    constructor
    · rintro ((h | h) | h)
      · exact .inl h
      · exact .inr ⟨.inl h.1, h.2⟩
      · exact .inr ⟨.inr h.1, h.2⟩
    · rintro (h | ⟨h1 | h1, h2⟩)
      · exact .inl (.inl h)
      · exact .inl (.inr ⟨h1, h2⟩)
      · exact .inr ⟨h1, h2⟩
theorem putRow_sorted (k : Nat) : ∀ (R : List Nat) (M : List PIt), M.Pairwise pLt → R.Pairwise (· < ·) → (∀ z ∈ M, z.2 < k ∨ (z.2 = k ∧ ∀ t ∈ R, z.1 < t)) → (putRow M k R).Pairwise pLt
  | [], M, h, _, _ => h
  | t :: R, M, h, hR, hb => by
    rw [List.pairwise_cons] at hR
    refine putRow_sorted k R (insP M (t, k)) (insP_sorted h fun z hz e => ?_) hR.2 fun z hz => ?_
    · rcases hb z hz with h1 | ⟨_, h1⟩
      · exact h1
      · have := h1 t (by simp); simp only at e; omega
    · rcases insP_mem.1 hz with h1 | h1
      · exact (hb z h1).imp id fun ⟨e, h2⟩ => ⟨e, fun u hu => h2 u (by simp [hu])⟩
      · subst h1; exact .inr ⟨rfl, hR.1⟩
def putAll : Nat → List PIt → List (List Nat) → List PIt
  | _, M, [] => M
  | k, M, R :: Rs => putAll (k + 1) (putRow M k R) Rs
theorem putAll_merged : ∀ (Rs : List (List Nat)) (k : Nat) (M : List PIt), M.Pairwise pLt → (∀ z ∈ M, z.2 < k) → (∀ R ∈ Rs, R.Pairwise (· < ·)) →
    (putAll k M Rs).Pairwise pLt ∧ ∀ z, z ∈ putAll k M Rs ↔ z ∈ M ∨ ∃ i R, Rs[i]? = some R ∧ z.1 ∈ R ∧ z.2 = k + i
  | [], k, M, h, _, _ => ⟨h, fun z => by simp [putAll]⟩
  | R :: Rs, k, M, h, hb, hs => by
    obtain ⟨h1, h2⟩ := putAll_merged Rs (k + 1) (putRow M k R) (putRow_sorted k R M h (hs R (by simp)) fun z hz => .inl (hb z hz)) (fun z hz => by
      rcases (putRow_mem k R M z).1 hz with h1 | h1
      · have := hb z h1; omega
      · omega) fun Q hQ => hs Q (by simp [hQ])
    refine ⟨h1, fun z => ?_⟩
    rw [putAll, h2, putRow_mem]
    constructor
    · rintro ((h | h) | ⟨i, Q, h3, h4, h5⟩)
      · exact .inl h
      · exact .inr ⟨0, R, rfl, h.1, by omega⟩
      · exact .inr ⟨i + 1, Q, by simpa using h3, h4, by omega⟩
    · rintro (h | ⟨i, Q, h3, h4, h5⟩)
      · exact .inl (.inl h)
      · cases i with
        | zero => simp at h3; subst h3; exact .inl (.inr ⟨h4, by omega⟩)
        | succ i => exact .inr ⟨i, Q, by simpa using h3, h4, by omega⟩
theorem merged_put {Rs : List (List Nat)} (hs : ∀ R ∈ Rs, R.Pairwise (· < ·)) : Merged Rs (putAll 0 [] Rs) := by
  obtain ⟨h1, h2⟩ := putAll_merged Rs 0 [] List.Pairwise.nil (by simp) hs
  refine ⟨h1, fun t i => ?_⟩
  rw [h2]
  constructor
  · rintro (h | ⟨k, R, h3, h4, h5⟩)
    · cases h
    · exact ⟨R, by rw [show i = k by simpa using h5]; exact h3, h4⟩
  · rintro ⟨R, h3, h4⟩
    exact .inr ⟨i, R, h3, h4, by simp⟩
theorem pNat_eq {A B : List Nat} (hA : A.Pairwise (· < ·)) (hB : B.Pairwise (· < ·)) (h : ∀ y, y ∈ A ↔ y ∈ B) : A = B := by
  have key : ∀ {L : List Nat}, L.Pairwise (· < ·) → (L.map fun t => ((t, 0) : PIt)).Pairwise pLt := fun hL => by
    rw [List.pairwise_map]
    exact hL.imp fun h => .inl h
  have := pSorted_eq (key hA) (key hB) fun y => by
    simp only [List.mem_map]
    exact ⟨fun ⟨t, h1, h2⟩ => ⟨t, (h t).1 h1, h2⟩, fun ⟨t, h1, h2⟩ => ⟨t, (h t).2 h1, h2⟩⟩
  have h2 := congrArg (List.map Prod.fst) this
  simpa [List.map_map, Function.comp_def] using h2
theorem fires_next {x : Ex} {a t : Nat} {b : Int} (h : IsNext x a (some t)) (hb : (t : Int) ≤ b) : firesL x a b = t :: firesL x t b := by
  obtain ⟨h1, h2, h3, h4⟩ := h
  refine pNat_eq (fires_sorted x a b) (List.pairwise_cons.2 ⟨fun u hu => ?_, fires_sorted x t b⟩) fun u => ?_
  · have := (fires_mem.1 hu).2.1
    omega
  · rw [List.mem_cons, fires_mem, fires_mem]
    constructor
    · rintro ⟨g1, g2, g3⟩
      rcases Nat.lt_trichotomy u t with h5 | h5 | h5
      · rw [h4 u (by omega) h5] at g3; cases g3
      · exact .inl h5
      · exact .inr ⟨g1, by omega, g3⟩
    · rintro (rfl | ⟨g1, g2, g3⟩)
      · exact ⟨hb, by omega, h3⟩
      · exact ⟨g1, by omega, g3⟩
theorem fires_over {x : Ex} {a : Nat} {b : Int} {r : Option Nat} (hbm : b < 13569465600) (h : IsNext x a r) (hb : ∀ t, r = some t → b < (t : Int)) : firesL x a b = [] := by
  refine fires_none fun k g1 g2 => ?_
  cases r with
  | none => exact h k (by omega) (by omega)
  | some t => exact h.2.2.2 k (by omega) (by have := hb t rfl; omega)
end Go.Proofs.YtmoncokklkiikaaGreatDoor
namespace Go.Proofs.YtmoncokklkiikaaGreatDoor
open Rg Go Go.RowKit
theorem eq_ctz : (Rows.laid_math_bits_deBruijn64tab : DataW Unit) = Lib.tabData .u8 (Lib.deBruijn64tab.map fun n : Nat => (n : Int)) := by kernel_rfl
theorem eq_first : Rows.laid_unicode_utf8_first = Lib.firstData := by kernel_rfl
theorem eq_accept : (Rows.laid_unicode_utf8_acceptRanges : DataW Unit) = Lib.acceptData := by kernel_rfl
theorem u8extra : U8Extra Tryz.prog Tryz.lays260_ren := ⟨by kernel_rfl, by kernel_rfl, by kernel_rfl, by kernel_rfl, by kernel_rfl, by kernel_rfl, by kernel_rfl⟩
def ctzUs : List Value := Lib.deBruijn64tab.map fun n : Nat => .int .u8 n
def firstUs : List Value := (List.range 256).map fun c => .int .u8 (Lib.firstT c)
def acceptUs : List Value := (List.range 16).flatMap fun i => [.int .u8 (Lib.accLo i), .int .u8 (Lib.accHi i)]
def gro (m : Int) : Heap := fun b =>
  if b = 0 then some (.ro ctzUs) else if b = 4 then some (.ro [.int .i64 m]) else
  if b = 5 then some (.ro firstUs) else if b = 6 then some (.ro acceptUs) else none
theorem acceptUs_at : ∀ i, i < 16 → acceptUs[2 * i]? = some (.int .u8 (Lib.accLo i)) ∧ acceptUs[2 * i + 1]? = some (.int .u8 (Lib.accHi i)) := fun i hi => by
  have h : i = 0 ∨ i = 1 ∨ i = 2 ∨ i = 3 ∨ i = 4 ∨ i = 5 ∨ i = 6 ∨ i = 7 ∨ i = 8 ∨ i = 9 ∨ i = 10 ∨ i = 11 ∨ i = 12 ∨ i = 13 ∨ i = 14 ∨ i = 15 := by omega
  rcases h with rfl | rfl | rfl | rfl | rfl | rfl | rfl | rfl | rfl | rfl | rfl | rfl | rfl | rfl | rfl | rfl <;> exact ⟨by kernel_rfl, by kernel_rfl⟩
theorem glob_gro (m : Int) : Glob (gro m) := by
  refine ⟨⟨m, rfl⟩, ⟨ctzUs, rfl, fun j hj => ?_⟩, ⟨firstUs, rfl, fun c hc => ?_⟩, ⟨acceptUs, rfl, acceptUs_at⟩⟩
  · simp only [ctzUs, List.getElem?_map, List.getD_eq_getElem?_getD, List.getElem?_eq_getElem hj]
    rfl
  · simp only [firstUs, List.getElem?_map, List.getElem?_range hc]
    rfl
theorem ctz_reads {W : World} {l : List (String × DataW Unit)} (hL : laidMet Tryz.prog l W) (h1 : ("math/bits.deBruijn64tab", Rows.laid_math_bits_deBruijn64tab) ∈ l) (j : Nat) (u : Value) (hu : ctzUs[j]? = some u) : W.cell? ⟨0, j, none⟩ = some u := by
  obtain ⟨g, t, cs, fuel, p, hg, hty, hvar, hd⟩ := Lib.laidMet.reads hL h1
  obtain rfl : 0 = g := Option.some.inj ((show Tryz.prog.globalNamed "math/bits.deBruijn64tab" = some 0 by kernel_rfl).symm.trans hg)
  obtain rfl : 275 = t := Option.some.inj ((show (Tryz.prog.globals[0]?).map (·.type) = some 275 by kernel_rfl).symm.trans hty)
  rw [eq_ctz] at hd
  have hcs := Lib.cells_of_tab (e := 5) (n := 64) (by kernel_rfl) (by kernel_rfl) (by kernel_rfl) (by kernel_rfl) hd
  rw [World.var?_cell hg hvar j, ← Array.getElem?_toList, hcs, ← hu]
  unfold ctzUs
  simp [Function.comp_def]
theorem gro_reads {W : World} {l : List (String × DataW Unit)} (hL : laidMet Tryz.prog l W) (hsh : W.ShapedOpen Tryz.prog) (h1 : ("math/bits.deBruijn64tab", Rows.laid_math_bits_deBruijn64tab) ∈ l)
    (h3 : ("unicode/utf8.first", Rows.laid_unicode_utf8_first) ∈ l) (h4 : ("unicode/utf8.acceptRanges", Rows.laid_unicode_utf8_acceptRanges) ∈ l) : ∃ m, Reads W (gro m) := by
  obtain ⟨m, hm⟩ : ∃ m, W.cell? ⟨4, 0, none⟩ = some (.int .i64 m) := Tryz.laysM145.s1_3 W hsh
  obtain ⟨t3, t4⟩ : Lib.Utf8Tabs 5 6 W := utf8Tabs_of_reads Tryz.lays260 u8extra (eq_first ▸ Lib.laidMet.reads hL h3) (eq_accept ▸ Lib.laidMet.reads hL h4)
  refine ⟨m, fun b ob e => ?_⟩
  unfold gro at e
  split at e
  · rename_i hb
    subst hb; cases e
    exact ⟨ctzUs, rfl, by decide +kernel, by decide +kernel, ctz_reads hL h1, fun h => absurd h (by decide +kernel)⟩
  · split at e
    · rename_i hb
      subst hb; cases e
      refine ⟨_, rfl, by simp, by simp [Value.oneCell'], fun j u hu => ?_, fun h => by simp at h⟩
      cases j with
      | zero => simp at hu; subst hu; exact hm
      | succ j => simp at hu
    · split at e
      · rename_i hb
        subst hb; cases e
        refine ⟨firstUs, rfl, by decide +kernel, by decide +kernel, fun j u hu => ?_, fun h => absurd h (by decide +kernel)⟩
        have hj : j < 256 := by have := (List.getElem?_eq_some_iff.1 hu).1; simpa [firstUs] using this
        rw [t3 j hj, ← hu]
        simp only [firstUs, List.getElem?_map, List.getElem?_range hj]
        rfl
      · split at e
        · rename_i hb
          subst hb; cases e
          refine ⟨acceptUs, rfl, by decide +kernel, by decide +kernel, fun j u hu => ?_, fun h => absurd h (by decide +kernel)⟩
          have hj : j < 32 := by have := (List.getElem?_eq_some_iff.1 hu).1; rwa [show acceptUs.length = 32 by kernel_rfl] at this
          rcases Nat.mod_two_eq_zero_or_one j with h | h
          · obtain ⟨i, rfl⟩ : ∃ i, j = 2 * i := ⟨j / 2, by omega⟩
            rw [(t4 i (by omega)).1, ← hu, (acceptUs_at i (by omega)).1]
          · obtain ⟨i, rfl⟩ : ∃ i, j = 2 * i + 1 := ⟨j / 2, by omega⟩
            rw [(t4 i (by omega)).2, ← hu, (acceptUs_at i (by omega)).2]
        · cases e
def setCells (cs : Array Value) : Obj → Obj
  | .cells _ t fr => .cells cs t fr
  | o => o
noncomputable def low : Nat := (World.holding Tryz.prog default ⟨#[], #[], []⟩).heap.size
noncomputable def laidWorld (os : Os) : World :=
  let w0 := World.holding Tryz.prog os ⟨#[.cells #[.string ⟨#[105, 110, 118, 97, 108, 105, 100, 32, 115, 121, 110, 116, 97, 120]⟩] 318, .cells #[.string ⟨#[118, 97, 108, 117, 101, 32, 111, 117, 116, 32, 111, 102, 32, 114, 97, 110, 103, 101]⟩] 318], #[], []⟩
  { w0 with heap := ((((((w0.heap.modify 0 (setCells ctzUs.toArray)).modify 7 (setCells (Lib.deBruijn32tab.map fun n : Nat => Value.int .u8 n).toArray)).modify 5 (setCells firstUs.toArray)).modify 6 (setCells acceptUs.toArray)).modify 1
    (setCells ((List.range 20).map fun n => Value.int .u64 (10 ^ n)).toArray)).modify 2 (setCells #[.iface 316 (.pointer (some ⟨low, 0, none⟩))])).modify 3 (setCells #[.iface 316 (.pointer (some ⟨low + 1, 0, none⟩))]) }
theorem own : ownKnob Tryz.prog.godebug = none := by kernel_rfl
end Go.Proofs.YtmoncokklkiikaaGreatDoor
namespace Go.Proofs.YtmoncokklkiikaaGreatDoor
open Rg Go
variable {H : Heap}
end Go.Proofs.YtmoncokklkiikaaGreatDoor
namespace Go.Proofs.YtmoncokklkiikaaGreatDoor
open Rg Go
variable {H : Heap}
theorem getAt {α : Type} {L : List α} {i : Nat} (h : i < L.length) : ∃ e, L[i] = e ∧ L[i]? = some e := ⟨_, rfl, List.getElem?_eq_getElem h⟩
end Go.Proofs.YtmoncokklkiikaaGreatDoor
namespace Go.Proofs.YtmoncokklkiikaaGreatDoor
open Rg Go
variable {H : Heap}
structure PI where
  at_ : Nat
  job : Nat
  place : Nat
  tmo : Nat
  lim : Int
def PI.ok (y : PI) : Prop := y.at_ < 13569465600 ∧ y.tmo ≤ 1000000000
def runsAt (t : Nat) (y : PI) : Bool := decide (y.at_ ≤ t) && decide (t < y.at_ + y.tmo)
def cntP (L : List PI) (t : Nat) : Nat := (L.filter (runsAt t)).length
def peakGo (L : List PI) : List PI → Nat × Nat → Nat × Nat
  | [], s => s
  | x :: r, s => peakGo L r (if s.1 < cntP L x.at_ then (cntP L x.at_, x.at_) else s)
def peakP (L : List PI) : Nat × Nat := peakGo L L (0, 0)
theorem cntP_le (L : List PI) (t : Nat) : cntP L t ≤ L.length := List.length_filter_le _ _
theorem cntP_take {L : List PI} {k : Nat} (hk : k < L.length) (t : Nat) : cntP (L.take (k + 1)) t = cntP (L.take k) t + if runsAt t L[k] = true then 1 else 0 := by
  unfold cntP
  rw [List.take_succ_eq_append_getElem hk, List.filter_append, List.length_append]
  congr 1
  cases h : runsAt t L[k] <;> simp [h]
def momP (t : Int) : Bool := decide (0 ≤ t) && decide (t < 13569465600)
theorem momP_iff {t : Int} : momP t = true ↔ 0 ≤ t ∧ t < 13569465600 := by simp [momP]
def gapGo : List Nat → Nat × Nat × Nat → Nat × Nat × Nat
  | [], s => s
  | now :: r, (b, e, last) => gapGo r (if (e : Int) - b < (now : Int) - last then (last, now, now) else (b, e, now))
def gapP (L : List PI) (fr tt : Int) : Nat × Nat :=
  if momP fr = true ∧ momP tt = true ∧ fr < tt then ((gapGo (L.map PI.at_ ++ [tt.toNat]) (fr.toNat, fr.toNat, fr.toNat)).1, (gapGo (L.map PI.at_ ++ [tt.toNat]) (fr.toNat, fr.toNat, fr.toNat)).2.1) else (0, 0)
end Go.Proofs.YtmoncokklkiikaaGreatDoor
namespace Go.Proofs.YtmoncokklkiikaaGreatDoor
open Rg Go
theorem byc {p : Prop} [Decidable p] (h : ¬p → False) : p := Decidable.byContradiction h
theorem false_of {x : Ex} {k : Nat} (h : fireB x k = true → False) : fireB x k = false := by
  cases e : fireB x k with
  | false => rfl
  | true => exact absurd (h e) id
theorem bits_ok {x : Ex} (hx : x.ok) (hm : mayX x = true) : (∀ j, x.a.bits.testBit j = true → j ≤ 59) ∧ (∀ j, x.b.bits.testBit j = true → j ≤ 23) := by
  simp only [mayX, Bool.and_eq_true] at hm
  obtain ⟨⟨⟨⟨h0, h1⟩, h2⟩, h3⟩, h4⟩ := hm
  refine ⟨fun j hj => ?_, fun j hj => ?_⟩
  · have := (may_bits hx.a h0).2.2 j hj; simp [mostK] at this; omega
  · have := (may_bits hx.b h1).2.2 j hj; simp [mostK] at this; omega
theorem has_bit {b : Nat} {n : Nat} (h : n ≤ 63) : hasB b (n : Int) = b.testBit n := hasB_nat2 b n h
section
variable {x : Ex} {t n mm h m D : Nat}
end
def OutN (x : Ex) (t n mm : Nat) : Prop := mm ≤ 1439 ∧ n ≤ 157054 ∧ t < n * 86400 + mm * 60 ∧ ∀ k, t < k → k < n * 86400 + mm * 60 → fireB x k = false
def InN (x : Ex) (t n h mm : Nat) : Prop := mm ≤ 59 ∧ h ≤ 24 ∧ n < 157054 ∧ dayB x n = true ∧ t < n * 86400 + min (h * 3600 + mm * 60) 86400 ∧ ∀ k, t < k → k < n * 86400 + h * 3600 + mm * 60 → fireB x k = false
section
variable {x : Ex} {t n mm h m D : Nat}
theorem outN_init (ht : t < 13569465600) : OutN x t ((t / 60 * 60 + 60) / 86400) ((t / 60 * 60 + 60) % 86400 / 60) :=
  ⟨byc fun _ => by omega, byc fun _ => by omega, byc fun _ => by omega, fun k h1 h2 => false_of fun hf => by
    obtain ⟨n, h, m, g1, g2, g3, rfl, _⟩ := fire_inv (byc fun _ => by omega) hf
    omega⟩
theorem outN_end (hO : OutN x t 157054 mm) : IsNext x t none := fun k h1 h2 => hO.2.2.2 k h1 (byc fun _ => by omega)
theorem outN_month (hO : OutN x t n mm) (hn : n < 157054) (hb : hasB x.d.bits ((civ n).2.1 : Int) = false) : OutN x t (n + (mLong (civ n).1 (civ n).2.1 - (civ n).2.2) + 1) 0 := by
  obtain ⟨h1, h2, h3, h4⟩ := hO
  obtain ⟨c1, c2, c3, c4, c5, c6, c7, c8⟩ := civ_month (n := n) (byc fun _ => by omega)
  have c9 := (civ_same (n := n) (k := n + (mLong (civ n).1 (civ n).2.1 - (civ n).2.2)) (byc fun _ => by omega) (byc fun _ => by omega) (byc fun _ => by omega)).1
  refine ⟨byc fun _ => by omega, byc fun _ => by omega, byc fun _ => by omega, fun k g1 g2 => ?_⟩
  by_cases hk : k < n * 86400 + mm * 60
  · exact h4 k g1 hk
  · refine false_of fun hf => ?_
    obtain ⟨q, h, m, q1, q2, q3, rfl, q4, q5, _⟩ := fire_inv (byc fun _ => by omega) hf
    have := civ_same (n := n) (k := q) (byc fun _ => by omega) (byc fun _ => by omega) (byc fun _ => by omega)
    unfold dayB at q5
    rw [this.2, hb] at q5
    simp at q5
theorem outN_day (hO : OutN x t n mm) (hn : n < 157054) (hb : dayB x n = false) : OutN x t (n + 1) 0 := by
  obtain ⟨h1, h2, h3, h4⟩ := hO
  refine ⟨byc fun _ => by omega, byc fun _ => by omega, byc fun _ => by omega, fun k g1 g2 => ?_⟩
  by_cases hk : k < n * 86400 + mm * 60
  · exact h4 k g1 hk
  · refine false_of fun hf => ?_
    obtain ⟨q, h, m, q1, q2, q3, rfl, q4, q5, _⟩ := fire_inv (byc fun _ => by omega) hf
    obtain rfl : q = n := byc fun _ => by omega
    rw [hb] at q5; cases q5
theorem inN_init (hO : OutN x t n mm) (hn : n < 157054) (hb : dayB x n = true) : InN x t n (mm / 60) (mm % 60) := by
  obtain ⟨h1, h2, h3, h4⟩ := hO
  exact ⟨byc fun _ => by omega, byc fun _ => by omega, hn, hb, byc fun _ => by omega, fun k g1 g2 => h4 k g1 (byc fun _ => by omega)⟩
theorem inN_none (hI : InN x t n h mm) (hb : ∀ j : Nat, h ≤ j → hasB x.b.bits (j : Int) = false) : OutN x t (n + 1) 0 := by
  obtain ⟨h1, h2, h3, h4, h5, h6⟩ := hI
  refine ⟨byc fun _ => by omega, byc fun _ => by omega, byc fun _ => by omega, fun k g1 g2 => ?_⟩
  by_cases hk : k < n * 86400 + h * 3600 + mm * 60
  · exact h6 k g1 hk
  · refine false_of fun hf => ?_
    obtain ⟨q, h', m, q1, q2, q3, rfl, q4, q5, q6, q7⟩ := fire_inv (byc fun _ => by omega) hf
    rw [hb h' (byc fun _ => by omega)] at q7; cases q7
theorem inN_up {h' : Nat} (hI : InN x t n h mm) (hh : h < h') (hh' : h' ≤ 24) (hb : ∀ j : Nat, h ≤ j → j < h' → hasB x.b.bits (j : Int) = false) : InN x t n h' 0 := by
  obtain ⟨h1, h2, h3, h4, h5, h6⟩ := hI
  refine ⟨byc fun _ => by omega, byc fun _ => by omega, byc fun _ => by omega, h4, byc fun _ => by omega, fun k g1 g2 => ?_⟩
  by_cases hk : k < n * 86400 + h * 3600 + mm * 60
  · exact h6 k g1 hk
  · refine false_of fun hf => ?_
    obtain ⟨q, h'', m, q1, q2, q3, rfl, q4, q5, q6, q7⟩ := fire_inv (byc fun _ => by omega) hf
    rw [hb h'' (byc fun _ => by omega) (byc fun _ => by omega)] at q7; cases q7
theorem inN_found (hx : mayX x = true) (hI : InN x t n h mm) (hh : h < 24) (hb : hasB x.b.bits (h : Int) = true) (ha : hasB x.a.bits (m : Int) = true) (hm : mm ≤ m) (hm2 : m < 60) (hn : ∀ j : Nat, mm ≤ j → j < m → hasB x.a.bits (j : Int) = false) :
    IsNext x t (some (n * 86400 + h * 3600 + m * 60)) := by
  obtain ⟨h1, h2, h3, h4, h5, h6⟩ := hI
  refine ⟨byc fun _ => by omega, byc fun _ => by omega, fire_mk h3 (byc fun _ => by omega) (byc fun _ => by omega) hx h4 ha hb, fun k g1 g2 => ?_⟩
  by_cases hk : k < n * 86400 + h * 3600 + mm * 60
  · exact h6 k g1 hk
  · refine false_of fun hf => ?_
    obtain ⟨q, h'', m', q1, q2, q3, rfl, q4, q5, q6, q7⟩ := fire_inv (byc fun _ => by omega) hf
    rw [hn m' (byc fun _ => by omega) (byc fun _ => by omega)] at q6; cases q6
theorem inN_min (hI : InN x t n h mm) (hh : h < 24) (hn : ∀ j : Nat, mm ≤ j → hasB x.a.bits (j : Int) = false) : InN x t n (h + 1) 0 := by
  obtain ⟨h1, h2, h3, h4, h5, h6⟩ := hI
  refine ⟨byc fun _ => by omega, byc fun _ => by omega, byc fun _ => by omega, h4, byc fun _ => by omega, fun k g1 g2 => ?_⟩
  by_cases hk : k < n * 86400 + h * 3600 + mm * 60
  · exact h6 k g1 hk
  · refine false_of fun hf => ?_
    obtain ⟨q, h'', m', q1, q2, q3, rfl, q4, q5, q6, q7⟩ := fire_inv (byc fun _ => by omega) hf
    rw [hn m' (byc fun _ => by omega)] at q6; cases q6
end
end Go.Proofs.YtmoncokklkiikaaGreatDoor
namespace Go.Proofs.YtmoncokklkiikaaGreatDoor
open Rg Go
variable {H : Heap}
def badE (x : Ex) (t : Int) : Int := if mayX x = false then 2 else if t < 0 ∨ 13569465600 ≤ t then 50 else 0
theorem c_floor_bad {t : Int} (h : t < 0 ∨ 13569465600 ≤ t) : AOk Tryz.prog 84 [.sc (.int .i64 t)] H (.tup [.sc (.int .i64 0), .sc (.int .i64 50)]) H := by
  refine ACalls.into Tryz.func84 rfl Tryz.ntmps84 Tryz.results84 (by simp) ?_
  simp -implicitDefEqProofs
  refine ACall.eq (c_is_s t) ?_
  have e : (decide (0 ≤ t) && decide (t < 13569465600)) = false := by simp; omega
  simp -implicitDefEqProofs [e]
theorem c_floor {t : Nat} (h : t < 13569465600) : AOk Tryz.prog 84 [.sc (.int .i64 t)] H (.tup [.sc (.int .i64 ((t / 60 * 60 : Nat) : Int)), .sc (.int .i64 0)]) H := by
  obtain ⟨q, hq⟩ : ∃ q, t % 60 = q := ⟨_, rfl⟩
  obtain ⟨z, hz⟩ : ∃ z, t / 60 * 60 = z := ⟨_, rfl⟩
  rw [hz]
  refine ACalls.into Tryz.func84 rfl Tryz.ntmps84 Tryz.results84 (by simp) ?_
  simp -implicitDefEqProofs
  refine ACall.eq (c_is_s t) ?_
  have e : (t : Int) < 13569465600 := by omega
  have w1 : (t : Int).tmod 60 = (q : Int) := wmod (b := 60) hq
  have w2 : IntKind.i64.wrap ((t : Int) - (q : Int)) = (z : Int) := wsub (by omega) (by omega) (by omega)
  simp -implicitDefEqProofs [e, w1, w2]
theorem c_nmay (x : Ex) (hx : x.ok) (t : Int) : AOk Tryz.prog 103 [exAV x, .sc (.int .i64 t)] H (.sc (.int .i64 (badE x t))) H := by
  refine ACalls.into Tryz.func103 rfl Tryz.ntmps103 Tryz.results103 (by simp) ?_
  simp -implicitDefEqProofs
  refine AAlloc.intro fun b2 h2 => ?_
  have hW : ∀ o, HWk H (H.set b2 o) := fun o => HWk.new h2 (HWk.refl _)
  simp -implicitDefEqProofs
  refine ACall.eq (c_cronMay x hx) ?_
  unfold badE
  cases hm : mayX x with
  | false =>
    simp -implicitDefEqProofs
    exact hW _
  | true =>
    simp -implicitDefEqProofs
    by_cases h : t < 0 ∨ 13569465600 ≤ t
    · rw [if_pos h]
      refine ACall.eq (c_floor_bad h) ?_
      simp -implicitDefEqProofs
      exact hW _
    · rw [if_neg h]
      obtain ⟨u, rfl⟩ := Int.eq_ofNat_of_zero_le (a := t) (by omega)
      refine ACall.eq (c_floor (t := u) (by omega)) ?_
      simp -implicitDefEqProofs
      exact hW _
theorem c_nfits (x : Ex) (hx : x.ok) {n : Nat} (hn : n < 157054) : AOk Tryz.prog 136 [exAV x, .sc (.int .i64 n)] H (.sc (.bool (mayX x && dayB x n))) H := by
  refine ACalls.into Tryz.func136 rfl Tryz.ntmps136 Tryz.results136 (by simp) ?_
  simp -implicitDefEqProofs
  refine AAlloc.intro fun b2 h2 => ?_
  obtain ⟨t, ht⟩ : ∃ t, n * 86400 = t := ⟨_, rfl⟩
  have w1 : IntKind.i64.wrap ((n : Int) * 86400) = (t : Int) := wmul (b := 86400) ht (by omega)
  have hdn := day_n x hn
  rw [ht] at hdn
  simp -implicitDefEqProofs [w1]
  refine ACall.eq (c_split_s (t := t) (by omega)) ?_
  simp -implicitDefEqProofs
  refine AAlloc.intro fun b5 h5 => ?_
  have n52 : b5 ≠ b2 := by intro e; subst e; simp [Heap.set] at h5
  have n25 := n52.symm
  have e5 : H b5 = none := (HLe.set_fresh h2).none h5
  simp -implicitDefEqProofs [n25]
  refine ACall.eq (c_dayFits x hx (clk t)) ?_
  rw [hdn]
  simp -implicitDefEqProofs
  exact HWk.new e5 (HWk.new h2 (HWk.refl _))
def outAV (r : Option Nat) : AV := .tup [.sc (.int .i64 (optN r : Int)), .sc (.int .i64 (errN r : Int))]
end Go.Proofs.YtmoncokklkiikaaGreatDoor
