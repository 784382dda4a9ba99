/- Zones, plainly: offsets, moments of a clock, when a clock begins. Expressions: which may be, which clocks fit. Firings, in plain words: the last one up to a moment, the next one behind it, all of a time; a day's date from its neighbour's. Zones, plainly: the firings of a zone, one behind the other. -/
import Derived.Test.YtmoncokklkiikaaGreatDoorP14
set_option linter.unusedSimpArgs false
set_option linter.unusedVariables false
set_option linter.unnecessarySimpa false
namespace Go.Proofs.YtmoncokklkiikaaGreatDoor
open Rg Go
structure Zn where
  first : Int
  l : List (Int × Int)
def offOk (n : Int) : Bool := decide (n % 60 = 0) && decide (-50400 ≤ n) && decide (n ≤ 50400)
def mayL : Option Int → List (Int × Int) → Bool
  | _, [] => true
  | p, (a, o) :: r => offOk o && decide (0 ≤ a) && decide (a < 13569465600) && decide (a % 60 = 0) && (match p with | none => true | some q => decide (q + 172800 ≤ a)) && mayL (some a) r
def mayZ (z : Zn) : Bool := offOk z.first && decide (z.l.length ≤ 64) && mayL none z.l
def atL : Int → List (Int × Int) → Int → Int
  | f, [], _ => f
  | f, (a, o) :: r, t => if t < a then f else atL o r t
def atZ (z : Zn) (t : Int) : Int := atL z.first z.l t
theorem offOk_iff {n : Int} : offOk n = true ↔ n % 60 = 0 ∧ -50400 ≤ n ∧ n ≤ 50400 := by simp [offOk, and_assoc]
theorem mayL_cons {p : Option Int} {a o : Int} {r : List (Int × Int)} : mayL p ((a, o) :: r) = true ↔ offOk o = true ∧ 0 ≤ a ∧ a < 13569465600 ∧ a % 60 = 0 ∧ (∀ q, p = some q → q + 172800 ≤ a) ∧ mayL (some a) r = true := by
  cases p <;> simp [mayL, and_assoc]
theorem mayL_ge {p : Int} : ∀ {l : List (Int × Int)} {q : Int}, mayL (some q) l = true → p ≤ q → ∀ a o, (a, o) ∈ l → p + 172800 ≤ a
  | [], _, _, _, a, o, h => by cases h
  | (a', o') :: r, q, h, hp, a, o, hm => by
    rw [mayL_cons] at h
    have := h.2.2.2.2.1 q rfl
    rcases List.mem_cons.1 hm with e | hm
    · cases e; omega
    · exact mayL_ge h.2.2.2.2.2 (by omega) a o hm
theorem atL_ok : ∀ {l : List (Int × Int)} {p : Option Int} {f : Int}, mayL p l = true → offOk f = true → ∀ t, offOk (atL f l t) = true
  | [], p, f, _, hf, t => by simpa [atL] using hf
  | (a, o) :: r, p, f, h, hf, t => by
    rw [mayL_cons] at h
    unfold atL
    split
    · exact hf
    · exact atL_ok h.2.2.2.2.2 h.1 t
theorem atL_change : ∀ {l : List (Int × Int)} {p : Option Int} {f s t : Int}, mayL p l = true → s ≤ t → atL f l s ≠ atL f l t → ∃ a o, (a, o) ∈ l ∧ s < a ∧ a ≤ t
  | [], p, f, s, t, _, _, h => by simp [atL] at h
  | (a, o) :: r, p, f, s, t, hm, hst, h => by
    rw [mayL_cons] at hm
    simp only [atL] at h
    by_cases h1 : s < a
    · by_cases h2 : t < a
      · rw [if_pos h1, if_pos h2] at h; exact absurd rfl h
      · exact ⟨a, o, by simp, h1, by omega⟩
    · rw [if_neg h1, if_neg (by omega)] at h
      obtain ⟨b, q, h3, h4⟩ := atL_change hm.2.2.2.2.2 hst h
      exact ⟨b, q, by simp [h3], h4⟩
theorem mayL_apart : ∀ {l : List (Int × Int)} {p : Option Int}, mayL p l = true → ∀ a o b q, (a, o) ∈ l → (b, q) ∈ l → a < b → a + 172800 ≤ b
  | [], _, _, a, o, b, q, h, _, _ => by cases h
  | (a', o') :: r, p, hm, a, o, b, q, h1, h2, h => by
    rw [mayL_cons] at hm
    rcases List.mem_cons.1 h1 with e | h1
    · cases e
      rcases List.mem_cons.1 h2 with e | h2
      · cases e; omega
      · exact mayL_ge hm.2.2.2.2.2 (by omega) b q h2
    · rcases List.mem_cons.1 h2 with e | h2
      · cases e
        have := mayL_ge hm.2.2.2.2.2 (Int.le_refl _) a o h1
        omega
      · exact mayL_apart hm.2.2.2.2.2 a o b q h1 h2 h
def IsMom (z : Zn) (l t : Int) : Prop := 0 ≤ t ∧ t < 13569465600 ∧ t + atZ z t = l
def momB (z : Zn) (l t : Int) : Bool := decide (0 ≤ t) && decide (t < 13569465600) && decide (t + atZ z t = l)
theorem momB_iff {z : Zn} {l t : Int} : momB z l t = true ↔ IsMom z l t := by simp [momB, IsMom, and_assoc]
def momZ (z : Zn) (l : Int) : List Int := ((List.range 1681).map fun k : Nat => l - 50400 + 60 * (k : Int)).filter (momB z l)
theorem at_ok {z : Zn} (hz : mayZ z = true) (t : Int) : offOk (atZ z t) = true := by
  simp only [mayZ, Bool.and_eq_true] at hz
  exact atL_ok hz.2 hz.1.1 t
theorem mom_mem {z : Zn} (hz : mayZ z = true) {l t : Int} : t ∈ momZ z l ↔ IsMom z l t := by
  unfold momZ
  rw [List.mem_filter, momB_iff, List.mem_map]
  constructor
  · exact fun h => h.2
  · intro h
    refine ⟨?_, h⟩
    have := offOk_iff.1 (at_ok hz t)
    have h3 := h.2.2
    exact ⟨((t - (l - 50400)) / 60).toNat, by rw [List.mem_range]; omega, by omega⟩
theorem mom_sorted (z : Zn) (l : Int) : (momZ z l).Pairwise (· < ·) := by
  refine List.Pairwise.filter _ ?_
  rw [List.pairwise_map]
  exact List.Pairwise.imp (fun h => by omega) List.pairwise_lt_range
theorem sorted_eq : ∀ {a b : List Int}, a.Pairwise (· < ·) → b.Pairwise (· < ·) → (∀ t, t ∈ a ↔ t ∈ b) → a = b
  | [], [], _, _, _ => rfl
  | [], y :: b, _, _, h => by have := (h y).2 (by simp); cases this
  | x :: a, [], _, _, h => by have := (h x).1 (by simp); cases this
  | x :: a, y :: b, ha, hb, h => by
    rw [List.pairwise_cons] at ha hb
    have hxy : x = y := by
      have h1 := (h x).1 (by simp)
      have h2 := (h y).2 (by simp)
      rcases List.mem_cons.1 h1 with e | h1
      · exact e
      · rcases List.mem_cons.1 h2 with e | h2
        · exact e.symm
        · have := hb.1 x h1; have := ha.1 y h2; omega
    subst hxy
    congr 1
    refine sorted_eq ha.2 hb.2 fun t => ⟨fun ht => ?_, fun ht => ?_⟩
    · have := (h t).1 (by simp [ht])
      rcases List.mem_cons.1 this with e | h3
      · subst e; have := ha.1 t ht; omega
      · exact h3
    · have := (h t).2 (by simp [ht])
      rcases List.mem_cons.1 this with e | h3
      · subst e; have := hb.1 t ht; omega
      · exact h3
theorem mom_three {z : Zn} (hz : mayZ z = true) {l r s t : Int} (hr : IsMom z l r) (hs : IsMom z l s) (ht : IsMom z l t) (h1 : r < s) (h2 : s < t) : False := by
  have o1 := offOk_iff.1 (at_ok hz r)
  have o2 := offOk_iff.1 (at_ok hz t)
  have e1 := hr.2.2
  have e2 := hs.2.2
  have e3 := ht.2.2
  simp only [mayZ, Bool.and_eq_true] at hz
  obtain ⟨a, o, ha, ha1, ha2⟩ := atL_change (f := z.first) (s := r) (t := s) hz.2 (by omega) (by show atZ z r ≠ atZ z s; omega)
  obtain ⟨b, q, hb, hb1, hb2⟩ := atL_change (f := z.first) (s := s) (t := t) hz.2 (by omega) (by show atZ z s ≠ atZ z t; omega)
  have := mayL_apart hz.2 a o b q ha hb (by omega)
  omega
theorem mom_len {z : Zn} (hz : mayZ z = true) {l : Int} {L : List Int} (hn : L.Nodup) (hm : ∀ t ∈ L, IsMom z l t) : L.length ≤ 2 := by
  match L, hn, hm with
  | [], _, _ => simp
  | [_], _, _ => simp
  | [_, _], _, _ => simp
  | x :: y :: w :: L, hn, hm =>
    exfalso
    simp only [List.nodup_cons, List.mem_cons, not_or] at hn
    have hx := hm x (by simp)
    have hy := hm y (by simp)
    have hw := hm w (by simp)
    have n1 : x ≠ y := hn.1.1
    have n2 : x ≠ w := hn.1.2.1
    have n3 : y ≠ w := hn.2.1.1
    rcases Int.lt_or_gt_of_ne n1 with a | a <;> rcases Int.lt_or_gt_of_ne n2 with b | b <;> rcases Int.lt_or_gt_of_ne n3 with c | c
    · exact mom_three hz hx hy hw a c
    · exact mom_three hz hx hw hy b c
    · omega
    · exact mom_three hz hw hx hy b a
    · exact mom_three hz hy hx hw a b
    · omega
    · exact mom_three hz hy hw hx c b
    · exact mom_three hz hw hy hx c a
def gapL : Int → List (Int × Int) → Int → Option Int
  | _, [], _ => none
  | f, (a, o) :: r, l => if a + f ≤ l ∧ l < a + o then some a else gapL o r l
def beginZ (z : Zn) (l : Int) : Option Int :=
  match momZ z l with
  | t :: _ => some t
  | [] => gapL z.first z.l l
def gZ (z : Zn) (t : Int) : Int := t + atZ z t
theorem gap_inv : ∀ {r : List (Int × Int)} {p : Option Int} {f l b : Int}, mayL p r = true → gapL f r l = some b → 0 ≤ b ∧ b < 13569465600 ∧ (∃ o, (b, o) ∈ r) ∧ b + atL f r (b - 1) ≤ l ∧ l < b + atL f r b
  | [], p, f, l, b, _, h => by simp [gapL] at h
  | (a, o) :: r, p, f, l, b, hm, h => by
    rw [mayL_cons] at hm
    simp only [gapL] at h
    split at h
    · rename_i hc
      cases h
      refine ⟨hm.2.1, hm.2.2.1, ⟨o, by simp⟩, ?_, ?_⟩
      · simp only [atL]; rw [if_pos (by omega)]; exact hc.1
      · simp only [atL]; rw [if_neg (by omega)]
        cases r with
        | nil => exact hc.2
        | cons y r =>
          obtain ⟨a', o'⟩ := y
          have := (mayL_cons.1 hm.2.2.2.2.2).2.2.2.2.1 a rfl
          simp only [atL]; rw [if_pos (by omega)]; exact hc.2
    · obtain ⟨h1, h2, ⟨q, h3⟩, h4, h5⟩ := gap_inv hm.2.2.2.2.2 h
      have := mayL_ge hm.2.2.2.2.2 (Int.le_refl a) b q h3
      refine ⟨h1, h2, ⟨q, by simp [h3]⟩, ?_, ?_⟩
      · simp only [atL]; rw [if_neg (by omega)]; exact h4
      · simp only [atL]; rw [if_neg (by omega)]; exact h5
theorem may_l {z : Zn} (hz : mayZ z = true) : mayL none z.l = true := by
  simp only [mayZ, Bool.and_eq_true] at hz
  exact hz.2
theorem begin_some {z : Zn} (hz : mayZ z = true) {l b : Int} (h : beginZ z l = some b) : 0 ≤ b ∧ b < 13569465600 ∧ l ≤ gZ z b ∧ (gZ z b = l ∨ (∃ o, (b, o) ∈ z.l) ∧ gZ z (b - 1) < l) := by
  unfold beginZ at h
  split at h
  · rename_i t r e
    obtain rfl : t = b := Option.some.inj h
    have h1 := (mom_mem hz (l := l) (t := t)).1 (by rw [e]; simp)
    exact ⟨h1.1, h1.2.1, by have := h1.2.2; unfold gZ; omega, .inl h1.2.2⟩
  · obtain ⟨h1, h2, h3, h4, h5⟩ := gap_inv (may_l hz) h
    refine ⟨h1, h2, ?_, .inr ⟨h3, ?_⟩⟩
    · unfold gZ atZ; omega
    · unfold gZ atZ; omega
end Go.Proofs.YtmoncokklkiikaaGreatDoor
namespace Go.Proofs.YtmoncokklkiikaaGreatDoor
open Rg Go
variable {H : Heap}
structure Ex where
  a : Fld
  b : Fld
  c : Fld
  d : Fld
  e : Fld
deriving DecidableEq
abbrev exC (x : Ex) : List AV := [.sc (.int .u64 x.a.bits), .sc (.bool x.a.star), .sc (.int .u64 x.b.bits), .sc (.bool x.b.star), .sc (.int .u64 x.c.bits), .sc (.bool x.c.star), .sc (.int .u64 x.d.bits), .sc (.bool x.d.star), .sc (.int .u64 x.e.bits), .sc (.bool x.e.star)]
abbrev exAV (x : Ex) : AV := .agg (exC x)
def Ex.get (x : Ex) : Nat → Fld
  | 0 => x.a
  | 1 => x.b
  | 2 => x.c
  | 3 => x.d
  | _ => x.e
structure Ex.ok (x : Ex) : Prop where
  a : x.a.bits < 18446744073709551616
  b : x.b.bits < 18446744073709551616
  c : x.c.bits < 18446744073709551616
  d : x.d.bits < 18446744073709551616
  e : x.e.bits < 18446744073709551616
def f0 : Fld := ⟨0, false⟩
def ex0 : Ex := ⟨f0, f0, f0, f0, f0⟩
def mayX (x : Ex) : Bool := mayB 0 x.a.bits && mayB 1 x.b.bits && mayB 2 x.c.bits && mayB 3 x.d.bits && mayB 4 x.e.bits
def dayFitsX (x : Ex) (c : Clk) : Bool :=
  mayX x && mayC c && hasB x.d.bits c.m && (if x.c.star = true ∨ x.e.star = true then hasB x.c.bits c.d && hasB x.e.bits c.w else hasB x.c.bits c.d || hasB x.e.bits c.w)
def fitsX (x : Ex) (c : Clk) : Bool := dayFitsX x c && hasB x.a.bits c.mi && hasB x.b.bits c.h
theorem lt_succ_all {P : Nat → Prop} {k : Nat} (h : ∀ i, i < k → P i) (hk : P k) : ∀ i, i < k + 1 → P i := fun i hi => by
  by_cases e : i = k
  · subst e; exact hk
  · exact h i (by omega)
theorem c_cronMay (x : Ex) (hx : x.ok) : AOk Tryz.prog 97 [exAV x] H (.sc (.bool (mayX x))) H := by
  refine ACalls.into Tryz.func97 rfl Tryz.ntmps97 Tryz.results97 (by simp) ?_
  simp -implicitDefEqProofs
  refine AAlloc.intro fun b1 h1 => ?_
  simp -implicitDefEqProofs
  refine AGo.rounds (fun m ρ K => ∃ j : Nat, j ≤ 5 ∧ m = 5 - j ∧ ρ 5 = exAV x ∧ ρ 6 = .sc (.int .i64 j) ∧ (∀ i, i < j → mayB (i : Int) (x.get i).bits = true) ∧ HWk H K) ?_ (m := 5) (HLe.refl _)
    ⟨0, by omega, rfl, by simp, by simp, fun i hi => by omega, HWk.new h1 (HWk.refl _)⟩
  rintro m ρ K ih ⟨j, hj, rfl, r5, r6, hm, hW⟩
  have hc : j = 0 ∨ j = 1 ∨ j = 2 ∨ j = 3 ∨ j = 4 ∨ j = 5 := by omega
  rcases hc with rfl | rfl | rfl | rfl | rfl | rfl
  · simp -implicitDefEqProofs [r5, r6]
    refine AAlloc.intro fun b hb => ?_
    have hW' : ∀ o, HWk H (K.set b o) := fun o => HWk.new (hW.none hb) hW
    simp -implicitDefEqProofs
    refine ACall.eq (c_may 0 x.a hx.a) ?_
    cases he : mayB 0 x.a.bits with
    | false => simp -implicitDefEqProofs [mayX, he]; exact hW' _
    | true =>
      simp -implicitDefEqProofs [r6, wrap_i64]
      exact AGo.again ih (m' := 4) (by omega) (HLe.refl _) ⟨1, by omega, rfl, by simp [r5], by simp, lt_succ_all (P := fun i : Nat => mayB (i : Int) (x.get i).bits = true) hm he, hW' _⟩
  · simp -implicitDefEqProofs [r5, r6]
    refine AAlloc.intro fun b hb => ?_
    have hW' : ∀ o, HWk H (K.set b o) := fun o => HWk.new (hW.none hb) hW
    simp -implicitDefEqProofs
    refine ACall.eq (c_may 1 x.b hx.b) ?_
    cases he : mayB 1 x.b.bits with
    | false => simp -implicitDefEqProofs [mayX, he]; exact hW' _
    | true =>
      simp -implicitDefEqProofs [r6, wrap_i64]
      exact AGo.again ih (m' := 3) (by omega) (HLe.refl _) ⟨2, by omega, rfl, by simp [r5], by simp, lt_succ_all (P := fun i : Nat => mayB (i : Int) (x.get i).bits = true) hm he, hW' _⟩
  · simp -implicitDefEqProofs [r5, r6]
    refine AAlloc.intro fun b hb => ?_
    have hW' : ∀ o, HWk H (K.set b o) := fun o => HWk.new (hW.none hb) hW
    simp -implicitDefEqProofs
    refine ACall.eq (c_may 2 x.c hx.c) ?_
    cases he : mayB 2 x.c.bits with
    | false => simp -implicitDefEqProofs [mayX, he]; exact hW' _
    | true =>
      simp -implicitDefEqProofs [r6, wrap_i64]
      exact AGo.again ih (m' := 2) (by omega) (HLe.refl _) ⟨3, by omega, rfl, by simp [r5], by simp, lt_succ_all (P := fun i : Nat => mayB (i : Int) (x.get i).bits = true) hm he, hW' _⟩
  · simp -implicitDefEqProofs [r5, r6]
    refine AAlloc.intro fun b hb => ?_
    have hW' : ∀ o, HWk H (K.set b o) := fun o => HWk.new (hW.none hb) hW
    simp -implicitDefEqProofs
    refine ACall.eq (c_may 3 x.d hx.d) ?_
    cases he : mayB 3 x.d.bits with
    | false => simp -implicitDefEqProofs [mayX, he]; exact hW' _
    | true =>
      simp -implicitDefEqProofs [r6, wrap_i64]
      exact AGo.again ih (m' := 1) (by omega) (HLe.refl _) ⟨4, by omega, rfl, by simp [r5], by simp, lt_succ_all (P := fun i : Nat => mayB (i : Int) (x.get i).bits = true) hm he, hW' _⟩
  · simp -implicitDefEqProofs [r5, r6]
    refine AAlloc.intro fun b hb => ?_
    have hW' : ∀ o, HWk H (K.set b o) := fun o => HWk.new (hW.none hb) hW
    simp -implicitDefEqProofs
    refine ACall.eq (c_may 4 x.e hx.e) ?_
    cases he : mayB 4 x.e.bits with
    | false => simp -implicitDefEqProofs [mayX, he]; exact hW' _
    | true =>
      simp -implicitDefEqProofs [r6, wrap_i64]
      exact AGo.again ih (m' := 0) (by omega) (HLe.refl _) ⟨5, by omega, rfl, by simp [r5], by simp, lt_succ_all (P := fun i : Nat => mayB (i : Int) (x.get i).bits = true) hm he, hW' _⟩
  · have g0 : mayB 0 x.a.bits = true := hm 0 (by omega)
    have g1 : mayB 1 x.b.bits = true := hm 1 (by omega)
    have g2 : mayB 2 x.c.bits = true := hm 2 (by omega)
    have g3 : mayB 3 x.d.bits = true := hm 3 (by omega)
    have g4 : mayB 4 x.e.bits = true := hm 4 (by omega)
    simp -implicitDefEqProofs [r5, r6, mayX, g0, g1, g2, g3, g4]
    exact hW
theorem c_allows {b : Nat} {x : Ex} (hb : H b = some (.cells (exC x) 42)) (hx : x.ok) (n : Int) :
    AOk Tryz.prog 145 [.sc (.int .i64 2), .sc (.int .i64 n), .sc (.pointer (some ⟨b, 0, none⟩))] H (.sc (.bool (hasB x.c.bits n))) H ∧
    AOk Tryz.prog 145 [.sc (.int .i64 3), .sc (.int .i64 n), .sc (.pointer (some ⟨b, 0, none⟩))] H (.sc (.bool (hasB x.d.bits n))) H ∧
    AOk Tryz.prog 145 [.sc (.int .i64 4), .sc (.int .i64 n), .sc (.pointer (some ⟨b, 0, none⟩))] H (.sc (.bool (hasB x.e.bits n))) H := by
  refine ⟨?_, ?_, ?_⟩
  · refine ACalls.into Tryz.func145 rfl Tryz.ntmps145 Tryz.results145 (by simp) ?_
    simp -implicitDefEqProofs [hb]
    refine ACall.eq (c_has x.c n hx.c) ?_
    simp -implicitDefEqProofs
  · refine ACalls.into Tryz.func145 rfl Tryz.ntmps145 Tryz.results145 (by simp) ?_
    simp -implicitDefEqProofs [hb]
    refine ACall.eq (c_has x.d n hx.d) ?_
    simp -implicitDefEqProofs
  · refine ACalls.into Tryz.func145 rfl Tryz.ntmps145 Tryz.results145 (by simp) ?_
    simp -implicitDefEqProofs [hb]
    refine ACall.eq (c_has x.e n hx.e) ?_
    simp -implicitDefEqProofs
theorem c_dayFits (x : Ex) (hx : x.ok) (c : Clk) : AOk Tryz.prog 93 [exAV x, cAV c] H (.sc (.bool (dayFitsX x c))) H := by
  refine ACalls.into Tryz.func93 rfl Tryz.ntmps93 Tryz.results93 (by simp) ?_
  simp -implicitDefEqProofs
  refine AAlloc.intro fun b2 h2 => ?_
  simp -implicitDefEqProofs
  refine AAlloc.intro fun b3 h3 => ?_
  have n32 : b3 ≠ b2 := by intro e; subst e; simp [Heap.set] at h3
  have n23 := n32.symm
  have e3 : H b3 = none := (HLe.set_fresh h2).none h3
  simp -implicitDefEqProofs [n32, n23]
  generalize hK : Heap.set _ b3 _ = K
  have k2 : K b2 = some (.cells (exC x) 42) := by rw [← hK]; simp [Heap.set, n23]
  have k3 : K b3 = some (.cells [.sc (.int .i64 c.y), .sc (.int .i64 c.m), .sc (.int .i64 c.d), .sc (.int .i64 c.h), .sc (.int .i64 c.mi), .sc (.int .i64 c.s), .sc (.int .i64 c.w)] 48) := by rw [← hK]; simp [Heap.set]
  have kW : HWk H K := by rw [← hK]; exact HWk.new e3 (HWk.new h2 (HWk.refl _))
  clear hK
  refine ACall.eq (c_cronMay x hx) ?_
  unfold dayFitsX
  cases hm : mayX x with
  | false => simp -implicitDefEqProofs; exact kW
  | true =>
    simp -implicitDefEqProofs [k3]
    refine ACall.eq (c_smay c) ?_
    cases hc : mayC c with
    | false => simp -implicitDefEqProofs; exact kW
    | true =>
      simp -implicitDefEqProofs
      refine go_draw 11 f_mixed (by decide +kernel) ?_
      simp -implicitDefEqProofs [k3]
      refine AQS.eq (c_allows k2 hx c.d).1 ?_
      simp -implicitDefEqProofs [k3]
      refine AQS.eq (c_allows k2 hx c.w).2.2 ?_
      obtain ⟨day, hday⟩ : ∃ z, hasB x.c.bits c.d = z := ⟨_, rfl⟩
      obtain ⟨week, hweek⟩ : ∃ z, hasB x.e.bits c.w = z := ⟨_, rfl⟩
      obtain ⟨mon, hmon⟩ : ∃ z, hasB x.d.bits c.m = z := ⟨_, rfl⟩
      have h3 := (c_allows (n := c.m) k2 hx).2.1
      rw [hmon] at h3
      rw [hday, hweek, hmon]
      cases hsc : x.c.star with
      | true =>
        simp -implicitDefEqProofs [k2, k3, hsc]
        refine ACall.eq h3 ?_
        cases mon <;> cases day <;> cases week <;> simp -implicitDefEqProofs <;> exact kW
      | false =>
        cases hse : x.e.star with
        | true =>
          simp -implicitDefEqProofs [k2, k3, hsc, hse]
          refine ACall.eq h3 ?_
          cases mon <;> cases day <;> cases week <;> simp -implicitDefEqProofs <;> exact kW
        | false =>
          simp -implicitDefEqProofs [k2, k3, hsc, hse]
          refine ACall.eq h3 ?_
          cases mon <;> cases day <;> cases week <;> simp -implicitDefEqProofs <;> exact kW
theorem c_fits (x : Ex) (hx : x.ok) (c : Clk) : AOk Tryz.prog 24 [exAV x, cAV c] H (.sc (.bool (fitsX x c))) H := by
  refine ACalls.into Tryz.func24 rfl Tryz.ntmps24 Tryz.results24 (by simp) ?_
  simp -implicitDefEqProofs
  refine AAlloc.intro fun b2 h2 => ?_
  simp -implicitDefEqProofs
  refine AAlloc.intro fun b3 h3 => ?_
  have n32 : b3 ≠ b2 := by intro e; subst e; simp [Heap.set] at h3
  have n23 := n32.symm
  have e3 : H b3 = none := (HLe.set_fresh h2).none h3
  simp -implicitDefEqProofs [n32, n23]
  generalize hK : Heap.set _ b3 _ = K
  have k2 : K b2 = some (.cells (exC x) 42) := by rw [← hK]; simp [Heap.set, n23]
  have k3 : K b3 = some (.cells [.sc (.int .i64 c.y), .sc (.int .i64 c.m), .sc (.int .i64 c.d), .sc (.int .i64 c.h), .sc (.int .i64 c.mi), .sc (.int .i64 c.s), .sc (.int .i64 c.w)] 48) := by rw [← hK]; simp [Heap.set]
  have kW : HWk H K := by rw [← hK]; exact HWk.new e3 (HWk.new h2 (HWk.refl _))
  clear hK
  refine ACall.eq (c_dayFits x hx c) ?_
  unfold fitsX
  cases hd : dayFitsX x c with
  | false => simp -implicitDefEqProofs; exact kW
  | true =>
    simp -implicitDefEqProofs [k2, k3]
    refine ACall.eq (c_has x.a c.mi hx.a) ?_
    cases hm : hasB x.a.bits c.mi with
    | false => simp -implicitDefEqProofs; exact kW
    | true =>
      simp -implicitDefEqProofs [k2, k3]
      refine ACall.eq (c_has x.b c.h hx.b) ?_
      simp -implicitDefEqProofs
      exact kW
end Go.Proofs.YtmoncokklkiikaaGreatDoor
namespace Go.Proofs.YtmoncokklkiikaaGreatDoor
open Rg Go
theorem mayC_clk {t : Nat} (h : t < 13569465600) : mayC (clk t) = true := by
  obtain ⟨i, d, hi, hd, hn⟩ := day_of (n := t / 86400) (by omega)
  have hc := civ_at hi hd
  rw [← hn] at hc
  unfold mayC wdayC clk
  rw [hc]
  simp only [Int.toNat_natCast, days_of, ← hn, mayD_of hi hd, Bool.and_eq_true, decide_eq_true_eq, and_true]
  omega
def dayB (x : Ex) (n : Nat) : Bool :=
  hasB x.d.bits (civ n).2.1 && (if x.c.star = true ∨ x.e.star = true then hasB x.c.bits (civ n).2.2 && hasB x.e.bits ((n + 4) % 7 : Nat) else hasB x.c.bits (civ n).2.2 || hasB x.e.bits ((n + 4) % 7 : Nat))
theorem day_clk (x : Ex) {t : Nat} (h : t < 13569465600) : dayFitsX x (clk t) = (mayX x && dayB x (t / 86400)) := by
  unfold dayFitsX dayB
  rw [mayC_clk h, Bool.and_true, Bool.and_assoc]
  rfl
theorem day_n (x : Ex) {n : Nat} (h : n < 157054) : dayFitsX x (clk (n * 86400)) = (mayX x && dayB x n) := by
  rw [day_clk x (by omega)]
  congr 2
  omega
def fireB (x : Ex) (t : Nat) : Bool := decide (t % 60 = 0) && fitsX x (clk t)
theorem fire_eq (x : Ex) {t : Nat} (h : t < 13569465600) : fireB x t = true ↔ t % 60 = 0 ∧ mayX x = true ∧ dayB x (t / 86400) = true ∧ hasB x.a.bits (t % 3600 / 60 : Nat) = true ∧ hasB x.b.bits (t % 86400 / 3600 : Nat) = true := by
  unfold fireB fitsX
  rw [day_clk x h]
  simp only [Bool.and_eq_true, decide_eq_true_eq, and_assoc]
  rfl
theorem fire_mk {x : Ex} {n h m : Nat} (hn : n < 157054) (hh : h < 24) (hm : m < 60) (hx : mayX x = true) (hd : dayB x n = true) (ha : hasB x.a.bits (m : Int) = true) (hb : hasB x.b.bits (h : Int) = true) : fireB x (n * 86400 + h * 3600 + m * 60) = true := by
  rw [fire_eq x (by omega)]
  rw [show (n * 86400 + h * 3600 + m * 60) / 86400 = n by omega, show (n * 86400 + h * 3600 + m * 60) % 3600 / 60 = m by omega, show (n * 86400 + h * 3600 + m * 60) % 86400 / 3600 = h by omega]
  exact ⟨by omega, hx, hd, ha, hb⟩
theorem fire_inv {x : Ex} {t : Nat} (h : t < 13569465600) (hf : fireB x t = true) : ∃ n h m : Nat, n < 157054 ∧ h < 24 ∧ m < 60 ∧ t = n * 86400 + h * 3600 + m * 60 ∧ mayX x = true ∧ dayB x n = true ∧ hasB x.a.bits (m : Int) = true ∧ hasB x.b.bits (h : Int) = true := by
  obtain ⟨h0, h1, h2, h3, h4⟩ := (fire_eq x h).1 hf
  exact ⟨t / 86400, t % 86400 / 3600, t % 3600 / 60, by omega, by omega, by omega, by omega, h1, h2, h3, h4⟩
def IsNext (x : Ex) (t : Nat) : Option Nat → Prop
  | some n => t < n ∧ n < 13569465600 ∧ fireB x n = true ∧ ∀ k, t < k → k < n → fireB x k = false
  | none => ∀ k, t < k → k < 13569465600 → fireB x k = false
theorem next_one {x : Ex} {t : Nat} : ∀ {r s : Option Nat}, IsNext x t r → IsNext x t s → r = s
  | none, none, _, _ => rfl
  | none, some m, hr, ⟨h1, h0, h2, _⟩ => by have := hr m h1 h0; rw [h2] at this; cases this
  | some m, none, ⟨h1, h0, h2, _⟩, hs => by have := hs m h1 h0; rw [h2] at this; cases this
  | some m, some n, ⟨h1, h0, h2, h3⟩, ⟨g1, g0, g2, g3⟩ => by
    rcases Nat.lt_trichotomy m n with h | h | h
    · have := g3 m h1 h; rw [h2] at this; cases this
    · rw [h]
    · have := h3 n g1 h; rw [g2] at this; cases this
theorem first_ex (P : Nat → Bool) (t : Nat) : ∀ m : Nat, (∃ n, t < n ∧ n < m ∧ P n = true ∧ ∀ k, t < k → k < n → P k = false) ∨ ∀ k, t < k → k < m → P k = false
  | 0 => .inr fun k _ h => by omega
  | m + 1 => by
    rcases first_ex P t m with ⟨n, h1, h2, h3, h4⟩ | h
    · exact .inl ⟨n, h1, by omega, h3, h4⟩
    · by_cases hm : t < m ∧ P m = true
      · exact .inl ⟨m, hm.1, by omega, hm.2, fun k g1 g2 => h k g1 g2⟩
      · refine .inr fun k g1 g2 => ?_
        by_cases e : k = m
        · subst e
          cases hp : P k with
          | false => rfl
          | true => exact absurd ⟨g1, hp⟩ hm
        · exact h k g1 (by omega)
theorem next_ex (x : Ex) (t : Nat) : ∃ r, IsNext x t r := by
  rcases first_ex (fireB x) t 13569465600 with ⟨n, h1, h2, h3, h4⟩ | h
  · exact ⟨some n, h1, h2, h3, h4⟩
  · exact ⟨none, h⟩
def optN : Option Nat → Nat
  | some n => n
  | none => 0
def errN : Option Nat → Nat
  | some _ => 0
  | none => 5
theorem day_at {n : Nat} (h : n < 157054) : ∃ i d, i < 5160 ∧ d < mLen i ∧ n = mFirst i + d ∧ (civ n).1 = 1970 + i / 12 ∧ (civ n).2.1 = i % 12 + 1 ∧ (civ n).2.2 = d + 1 := by
  obtain ⟨i, d, hi, hd, rfl⟩ := day_of h
  refine ⟨i, d, hi, hd, rfl, ?_⟩
  rw [civ_at hi hd]
  exact ⟨rfl, rfl, rfl⟩
theorem civ_month {n : Nat} (h : n < 157054) : 1 ≤ (civ n).2.1 ∧ (civ n).2.1 ≤ 12 ∧ 1 ≤ (civ n).2.2 ∧ (civ n).2.2 ≤ mLong (civ n).1 (civ n).2.1 ∧ mLong (civ n).1 (civ n).2.1 ≤ 31 ∧ 1970 ≤ (civ n).1 ∧ (civ n).1 ≤ 2399 ∧ (civ n).2.2 ≤ n + 1 := by
  obtain ⟨i, d, hi, hd, hn, e1, e2, e3⟩ := day_at h
  have := mLen_le i
  rw [e1, e2, e3]
  unfold mLen at *
  omega
theorem civ_same {n k : Nat} (hn : n < 157054) (h1 : n ≤ k + ((civ n).2.2 - 1)) (h2 : k + (civ n).2.2 ≤ n + mLong (civ n).1 (civ n).2.1) : k < 157054 ∧ (civ k).2.1 = (civ n).2.1 := by
  obtain ⟨i, d, hi, hd, hn, e1, e2, e3⟩ := day_at hn
  rw [e1, e2, e3] at h2
  rw [e3] at h1
  have e : k = mFirst i + (k - mFirst i) := by omega
  have hk : k - mFirst i < mLen i := by unfold mLen; omega
  have h4 := mFirst_mono (i := i + 1) (j := 5160) (by omega) (Nat.le_refl _)
  rw [mFirst_succ hi, mFirst_end] at h4
  refine ⟨by omega, ?_⟩
  rw [e2, e, civ_at hi hk]
end Go.Proofs.YtmoncokklkiikaaGreatDoor
namespace Go.Proofs.YtmoncokklkiikaaGreatDoor
open Rg Go
def IsAft (z : Zn) (x : Ex) (f : Nat) (t : Int) : Option Int → Prop
  | some a => ∃ l : Nat, f ≤ l ∧ l < 13569465600 ∧ fireB x l = true ∧ beginZ z (l : Int) = some a ∧ t < a ∧ ∀ k : Nat, f ≤ k → k < l → fireB x k = true → ∀ b, beginZ z (k : Int) = some b → b ≤ t
  | none => ∀ k : Nat, f ≤ k → k < 13569465600 → fireB x k = true → ∀ b, beginZ z (k : Int) = some b → b ≤ t
theorem aft_one {z : Zn} {x : Ex} {f : Nat} {t : Int} : ∀ {r s : Option Int}, IsAft z x f t r → IsAft z x f t s → r = s
  | none, none, _, _ => rfl
  | none, some a, hr, ⟨l, h1, h2, h3, h4, h5, _⟩ => by have := hr l h1 h2 h3 a h4; omega
  | some a, none, ⟨l, h1, h2, h3, h4, h5, _⟩, hs => by have := hs l h1 h2 h3 a h4; omega
  | some a, some b, ⟨l, h1, h2, h3, h4, h5, h6⟩, ⟨k, g1, g2, g3, g4, g5, g6⟩ => by
    rcases Nat.lt_trichotomy l k with h | h | h
    · have := g6 l h1 h h3 a h4; omega
    · subst h; rw [h4] at g4; exact g4
    · have := h6 k g1 h g3 b g4; omega
theorem aft_step {z : Zn} {x : Ex} {l : Nat} {t : Int} {r : Option Int} (h : ∀ b, beginZ z (l : Int) = some b → b ≤ t) : IsAft z x l t r → ∀ {q : Option Nat}, IsNext x l q → (∀ n, q = some n → IsAft z x n t r) ∧ (q = none → r = none) := by
  intro hr q hq
  match q, hq with
  | none, hq =>
    refine ⟨fun _ e => (by cases e), fun _ => ?_⟩
    match r, hr with
    | none, _ => rfl
    | some a, ⟨k, h1, h2, h3, h4, h5, _⟩ =>
      exfalso
      by_cases e : k = l
      · subst e; have := h a h4; omega
      · have := hq k (by omega) h2; rw [h3] at this; cases this
  | some n, ⟨g1, g2, g3, g4⟩ =>
    refine ⟨fun n' e => ?_, fun e => by cases e⟩
    cases e
    match r, hr with
    | none, hr => exact fun k h1 h2 h3 => hr k (by omega) h2 h3
    | some a, ⟨k, h1, h2, h3, h4, h5, h6⟩ =>
      refine ⟨k, ?_, h2, h3, h4, h5, fun i i1 i2 i3 => h6 i (by omega) i2 i3⟩
      by_cases e : k = l
      · subst e; have := h a h4; omega
      · refine Nat.not_lt.1 fun hk => ?_
        have := g4 k (by omega) hk; rw [h3] at this; cases this
theorem aft_from {z : Zn} {x : Ex} {f : Nat} {t : Int} {r : Option Int} (hf : fireB x f = false) : IsAft z x f t r → ∀ {q : Option Nat}, IsNext x f q → (∀ n, q = some n → IsAft z x n t r) ∧ (q = none → r = none) := by
  intro hr q hq
  match q, hq with
  | none, hq =>
    refine ⟨fun _ e => (by cases e), fun _ => ?_⟩
    match r, hr with
    | none, _ => rfl
    | some a, ⟨k, h1, h2, h3, h4, h5, _⟩ =>
      exfalso
      by_cases e : k = f
      · subst e; rw [h3] at hf; cases hf
      · have := hq k (by omega) h2; rw [h3] at this; cases this
  | some n, ⟨g1, g2, g3, g4⟩ =>
    refine ⟨fun n' e => ?_, fun e => by cases e⟩
    cases e
    match r, hr with
    | none, hr => exact fun k h1 h2 h3 => hr k (by omega) h2 h3
    | some a, ⟨k, h1, h2, h3, h4, h5, h6⟩ =>
      refine ⟨k, ?_, h2, h3, h4, h5, fun i i1 i2 i3 => h6 i (by omega) i2 i3⟩
      by_cases e : k = f
      · subst e; rw [h3] at hf; cases hf
      · refine Nat.not_lt.1 fun hk => ?_
        have := g4 k (by omega) hk; rw [h3] at this; cases this
def optI : Option Int → Int
  | some a => a
  | none => 0
def errI : Option Int → Int
  | some _ => 0
  | none => 5
theorem atL_same {o : Int} : ∀ {L : List (Int × Int)}, (∀ c ∈ L, c.2 = o) → ∀ t, atL o L t = o
  | [], _, t => rfl
  | (a, q) :: L, h, t => by
    have hq : q = o := h (a, q) (by simp)
    subst hq
    simp only [atL]
    split
    · rfl
    · exact atL_same (fun c hc => h c (by simp [hc])) t
theorem gapL_same {o l : Int} : ∀ {L : List (Int × Int)}, (∀ c ∈ L, c.2 = o) → gapL o L l = none
  | [], _ => rfl
  | (a, q) :: L, h => by
    have hq : q = o := h (a, q) (by simp)
    subst hq
    simp only [gapL]
    rw [if_neg (by omega)]
    exact gapL_same fun c hc => h c (by simp [hc])
theorem begin_same {o l : Int} {L : List (Int × Int)} (h : ∀ c ∈ L, c.2 = o) (ho : offOk o = true) : beginZ ⟨o, L⟩ l = if 0 ≤ l - o ∧ l - o < 13569465600 then some (l - o) else none := by
  have hat : ∀ t, atZ ⟨o, L⟩ t = o := fun t => atL_same h t
  have hz : ∀ t, momB ⟨o, L⟩ l t = (decide (0 ≤ t) && decide (t < 13569465600) && decide (t + o = l)) := fun t => by unfold momB; rw [hat]
  have hm : ∀ t, t ∈ momZ ⟨o, L⟩ l ↔ 0 ≤ t ∧ t < 13569465600 ∧ t = l - o := by
    intro t
    have ho' := offOk_iff.1 ho
    unfold momZ
    rw [List.mem_filter, hz, List.mem_map]
    simp only [Bool.and_eq_true, decide_eq_true_eq]
    constructor
    · rintro ⟨_, h1⟩; omega
    · intro h1
      refine ⟨⟨((t - (l - 50400)) / 60).toNat, by rw [List.mem_range]; omega, by omega⟩, by omega⟩
  unfold beginZ
  cases hc : momZ ⟨o, L⟩ l with
  | nil =>
    simp only
    rw [gapL_same h, if_neg]
    intro h1
    have := (hm (l - o)).2 ⟨h1.1, h1.2, rfl⟩
    rw [hc] at this
    cases this
  | cons t r =>
    have := (hm t).1 (by rw [hc]; simp)
    simp only
    rw [if_pos (by omega), this.2.2]
def plainN (o : Int) : Option Nat → Option Int
  | some b => if (b : Int) - o < 13569465600 then some ((b : Int) - o) else none
  | none => none
theorem plain_aft {o : Int} {L : List (Int × Int)} {x : Ex} {t : Nat} {u : Nat} (h : ∀ c ∈ L, c.2 = o) (ho : offOk o = true) (ht : 86400 ≤ t) (hu : (u : Int) = t + o) {q : Option Nat} (hq : IsNext x u q) : IsAft ⟨o, L⟩ x (t - 50400) t (plainN o q) := by
  have hb := fun l => begin_same (l := l) h ho
  have ho' := offOk_iff.1 ho
  match q, hq with
  | none, hq =>
    intro k h1 h2 h3 b h4
    rw [hb] at h4
    split at h4
    · cases h4
      refine Int.not_lt.1 fun hlt => ?_
      have := hq k (by omega) h2
      rw [h3] at this; cases this
    · cases h4
  | some n, ⟨g1, g2, g3, g4⟩ =>
    have hbefore : ∀ k : Nat, k < n → fireB x k = true → ∀ b, beginZ ⟨o, L⟩ (k : Int) = some b → b ≤ t := by
      intro k h1 h3 b h4
      rw [hb] at h4
      split at h4
      · cases h4
        refine Int.not_lt.1 fun hlt => ?_
        have := g4 k (by omega) h1
        rw [h3] at this; cases this
      · cases h4
    unfold plainN
    simp only
    split
    · rename_i hlt
      refine ⟨n, by omega, g2, g3, by rw [hb, if_pos (by omega)], by omega, fun k _ h2 h3 => hbefore k h2 h3⟩
    · rename_i hge
      intro k h1 h2 h3 b h4
      by_cases hk : k < n
      · exact hbefore k hk h3 b h4
      · rw [hb] at h4
        rw [if_neg (by omega)] at h4
        cases h4
end Go.Proofs.YtmoncokklkiikaaGreatDoor
