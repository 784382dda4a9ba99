/- Zones, plainly: offsets, moments of a clock, when a clock begins. Expressions: which may be, which clocks fit. Firings, in plain words: the last one up to a moment, the next one behind it, all of a time; a day's date from its neighbour's. Zones, plainly: the firings of a zone, one behind the other. The document's fields: what is allowed. The document's fields: a text at each of a byte. The document's fields: kinds, which may be. The document's text of a field is the program's: in plain words. The document's numbers of words are the program's: in plain words. The document's items are the program's: in plain words. -/
import Derived.Test.YtmoncokklkiikaaGreatDoorP14
import Derived.Test.YtmoncokklkiikaaGreatDoorP13
import Derived.Lib.MapLaws
import Derived.Lib.TrimAscii
import Derived.Lib.TrimU
set_option linter.unusedSimpArgs false
set_option linter.unusedVariables false
set_option linter.unnecessarySimpa false
namespace Go.Proofs.YtmoncokklkiikaaGreatDoor
open Rg Go
structure Zn where
  first : Int
  l : List (Int × Int)
def offOk (n : Int) : Bool := decide (n % 60 = 0) && decide (-50400 ≤ n) && decide (n ≤ 50400)
def mayL : Option Int → List (Int × Int) → Bool
  | _, [] => true
  | p, (a, o) :: r => offOk o && decide (0 ≤ a) && decide (a < 13569465600) && decide (a % 60 = 0) && (match p with | none => true | some q => decide (q + 172800 ≤ a)) && mayL (some a) r
def mayZ (z : Zn) : Bool := offOk z.first && decide (z.l.length ≤ 64) && mayL none z.l
def atL : Int → List (Int × Int) → Int → Int
  | f, [], _ => f
  | f, (a, o) :: r, t => if t < a then f else atL o r t
def atZ (z : Zn) (t : Int) : Int := atL z.first z.l t
theorem offOk_iff {n : Int} : offOk n = true ↔ n % 60 = 0 ∧ -50400 ≤ n ∧ n ≤ 50400 := by simp [offOk, and_assoc]
theorem mayL_cons {p : Option Int} {a o : Int} {r : List (Int × Int)} : mayL p ((a, o) :: r) = true ↔ offOk o = true ∧ 0 ≤ a ∧ a < 13569465600 ∧ a % 60 = 0 ∧ (∀ q, p = some q → q + 172800 ≤ a) ∧ mayL (some a) r = true := by
  cases p <;> simp [mayL, and_assoc]
theorem mayL_ge {p : Int} : ∀ {l : List (Int × Int)} {q : Int}, mayL (some q) l = true → p ≤ q → ∀ a o, (a, o) ∈ l → p + 172800 ≤ a
  | [], _, _, _, a, o, h => by cases h
  | (a', o') :: r, q, h, hp, a, o, hm => by
    rw [mayL_cons] at h
    have := h.2.2.2.2.1 q rfl
    rcases List.mem_cons.1 hm with e | hm
    · cases e; omega
    · exact mayL_ge h.2.2.2.2.2 (by omega) a o hm
theorem atL_ok : ∀ {l : List (Int × Int)} {p : Option Int} {f : Int}, mayL p l = true → offOk f = true → ∀ t, offOk (atL f l t) = true
  | [], p, f, _, hf, t => by simpa [atL] using hf
  | (a, o) :: r, p, f, h, hf, t => by
    rw [mayL_cons] at h
    unfold atL
    split
    · exact hf
    · exact atL_ok h.2.2.2.2.2 h.1 t
theorem atL_change : ∀ {l : List (Int × Int)} {p : Option Int} {f s t : Int}, mayL p l = true → s ≤ t → atL f l s ≠ atL f l t → ∃ a o, (a, o) ∈ l ∧ s < a ∧ a ≤ t
  | [], p, f, s, t, _, _, h => by simp [atL] at h
  | (a, o) :: r, p, f, s, t, hm, hst, h => by
    rw [mayL_cons] at hm
    simp only [atL] at h
    by_cases h1 : s < a
    · by_cases h2 : t < a
      · rw [if_pos h1, if_pos h2] at h; exact absurd rfl h
      · exact ⟨a, o, by simp, h1, by omega⟩
    · rw [if_neg h1, if_neg (by omega)] at h
      obtain ⟨b, q, h3, h4⟩ := atL_change hm.2.2.2.2.2 hst h
      exact ⟨b, q, by simp [h3], h4⟩
theorem mayL_apart : ∀ {l : List (Int × Int)} {p : Option Int}, mayL p l = true → ∀ a o b q, (a, o) ∈ l → (b, q) ∈ l → a < b → a + 172800 ≤ b
  | [], _, _, a, o, b, q, h, _, _ => by cases h
  | (a', o') :: r, p, hm, a, o, b, q, h1, h2, h => by
    rw [mayL_cons] at hm
    rcases List.mem_cons.1 h1 with e | h1
    · cases e
      rcases List.mem_cons.1 h2 with e | h2
      · cases e; omega
      · exact mayL_ge hm.2.2.2.2.2 (by omega) b q h2
    · rcases List.mem_cons.1 h2 with e | h2
      · cases e
        have := mayL_ge hm.2.2.2.2.2 (Int.le_refl _) a o h1
        omega
      · exact mayL_apart hm.2.2.2.2.2 a o b q h1 h2 h
def IsMom (z : Zn) (l t : Int) : Prop := 0 ≤ t ∧ t < 13569465600 ∧ t + atZ z t = l
def momB (z : Zn) (l t : Int) : Bool := decide (0 ≤ t) && decide (t < 13569465600) && decide (t + atZ z t = l)
theorem momB_iff {z : Zn} {l t : Int} : momB z l t = true ↔ IsMom z l t := by simp [momB, IsMom, and_assoc]
def momZ (z : Zn) (l : Int) : List Int := ((List.range 1681).map fun k : Nat => l - 50400 + 60 * (k : Int)).filter (momB z l)
theorem at_ok {z : Zn} (hz : mayZ z = true) (t : Int) : offOk (atZ z t) = true := by
  simp only [mayZ, Bool.and_eq_true] at hz
  exact atL_ok hz.2 hz.1.1 t
theorem mom_mem {z : Zn} (hz : mayZ z = true) {l t : Int} : t ∈ momZ z l ↔ IsMom z l t := by
  unfold momZ
  rw [List.mem_filter, momB_iff, List.mem_map]
  constructor
  · exact fun h => h.2
  · intro h
    refine ⟨?_, h⟩
    have := offOk_iff.1 (at_ok hz t)
    have h3 := h.2.2
    exact ⟨((t - (l - 50400)) / 60).toNat, by rw [List.mem_range]; omega, by omega⟩
theorem mom_sorted (z : Zn) (l : Int) : (momZ z l).Pairwise (· < ·) := by
  refine List.Pairwise.filter _ ?_
  rw [List.pairwise_map]
  exact List.Pairwise.imp (fun h => by omega) List.pairwise_lt_range
theorem sorted_eq : ∀ {a b : List Int}, a.Pairwise (· < ·) → b.Pairwise (· < ·) → (∀ t, t ∈ a ↔ t ∈ b) → a = b
  | [], [], _, _, _ => rfl
  | [], y :: b, _, _, h => by have := (h y).2 (by simp); cases this
  | x :: a, [], _, _, h => by have := (h x).1 (by simp); cases this
  | x :: a, y :: b, ha, hb, h => by
    rw [List.pairwise_cons] at ha hb
    have hxy : x = y := by
      have h1 := (h x).1 (by simp)
      have h2 := (h y).2 (by simp)
      rcases List.mem_cons.1 h1 with e | h1
      · exact e
      · rcases List.mem_cons.1 h2 with e | h2
        · exact e.symm
        · have := hb.1 x h1; have := ha.1 y h2; omega
    subst hxy
    congr 1
    refine sorted_eq ha.2 hb.2 fun t => ⟨fun ht => ?_, fun ht => ?_⟩
    · have := (h t).1 (by simp [ht])
      rcases List.mem_cons.1 this with e | h3
      · subst e; have := ha.1 t ht; omega
      · exact h3
    · have := (h t).2 (by simp [ht])
      rcases List.mem_cons.1 this with e | h3
      · subst e; have := hb.1 t ht; omega
      · exact h3
theorem mom_three {z : Zn} (hz : mayZ z = true) {l r s t : Int} (hr : IsMom z l r) (hs : IsMom z l s) (ht : IsMom z l t) (h1 : r < s) (h2 : s < t) : False := by
  have o1 := offOk_iff.1 (at_ok hz r)
  have o2 := offOk_iff.1 (at_ok hz t)
  have e1 := hr.2.2
  have e2 := hs.2.2
  have e3 := ht.2.2
  simp only [mayZ, Bool.and_eq_true] at hz
  obtain ⟨a, o, ha, ha1, ha2⟩ := atL_change (f := z.first) (s := r) (t := s) hz.2 (by omega) (by show atZ z r ≠ atZ z s; omega)
  obtain ⟨b, q, hb, hb1, hb2⟩ := atL_change (f := z.first) (s := s) (t := t) hz.2 (by omega) (by show atZ z s ≠ atZ z t; omega)
  have := mayL_apart hz.2 a o b q ha hb (by omega)
  omega
theorem mom_len {z : Zn} (hz : mayZ z = true) {l : Int} {L : List Int} (hn : L.Nodup) (hm : ∀ t ∈ L, IsMom z l t) : L.length ≤ 2 := by
  match L, hn, hm with
  | [], _, _ => simp
  | [_], _, _ => simp
  | [_, _], _, _ => simp
  | x :: y :: w :: L, hn, hm =>
    exfalso
    simp only [List.nodup_cons, List.mem_cons, not_or] at hn
    have hx := hm x (by simp)
    have hy := hm y (by simp)
    have hw := hm w (by simp)
    have n1 : x ≠ y := hn.1.1
    have n2 : x ≠ w := hn.1.2.1
    have n3 : y ≠ w := hn.2.1.1
    rcases Int.lt_or_gt_of_ne n1 with a | a <;> rcases Int.lt_or_gt_of_ne n2 with b | b <;> rcases Int.lt_or_gt_of_ne n3 with c | c
    · exact mom_three hz hx hy hw a c
    · exact mom_three hz hx hw hy b c
    · omega
    · exact mom_three hz hw hx hy b a
    · exact mom_three hz hy hx hw a b
    · omega
    · exact mom_three hz hy hw hx c b
    · exact mom_three hz hw hy hx c a
def gapL : Int → List (Int × Int) → Int → Option Int
  | _, [], _ => none
  | f, (a, o) :: r, l => if a + f ≤ l ∧ l < a + o then some a else gapL o r l
def beginZ (z : Zn) (l : Int) : Option Int :=
  match momZ z l with
  | t :: _ => some t
  | [] => gapL z.first z.l l
def gZ (z : Zn) (t : Int) : Int := t + atZ z t
theorem gap_inv : ∀ {r : List (Int × Int)} {p : Option Int} {f l b : Int}, mayL p r = true → gapL f r l = some b → 0 ≤ b ∧ b < 13569465600 ∧ (∃ o, (b, o) ∈ r) ∧ b + atL f r (b - 1) ≤ l ∧ l < b + atL f r b
  | [], p, f, l, b, _, h => by simp [gapL] at h
  | (a, o) :: r, p, f, l, b, hm, h => by
    rw [mayL_cons] at hm
    simp only [gapL] at h
    split at h
    · rename_i hc
      cases h
      refine ⟨hm.2.1, hm.2.2.1, ⟨o, by simp⟩, ?_, ?_⟩
      · simp only [atL]; rw [if_pos (by omega)]; exact hc.1
      · simp only [atL]; rw [if_neg (by omega)]
        cases r with
        | nil => exact hc.2
        | cons y r =>
          obtain ⟨a', o'⟩ := y
          have := (mayL_cons.1 hm.2.2.2.2.2).2.2.2.2.1 a rfl
          simp only [atL]; rw [if_pos (by omega)]; exact hc.2
    · obtain ⟨h1, h2, ⟨q, h3⟩, h4, h5⟩ := gap_inv hm.2.2.2.2.2 h
      have := mayL_ge hm.2.2.2.2.2 (Int.le_refl a) b q h3
      refine ⟨h1, h2, ⟨q, by simp [h3]⟩, ?_, ?_⟩
      · simp only [atL]; rw [if_neg (by omega)]; exact h4
      · simp only [atL]; rw [if_neg (by omega)]; exact h5
theorem may_l {z : Zn} (hz : mayZ z = true) : mayL none z.l = true := by
  simp only [mayZ, Bool.and_eq_true] at hz
  exact hz.2
theorem begin_some {z : Zn} (hz : mayZ z = true) {l b : Int} (h : beginZ z l = some b) : 0 ≤ b ∧ b < 13569465600 ∧ l ≤ gZ z b ∧ (gZ z b = l ∨ (∃ o, (b, o) ∈ z.l) ∧ gZ z (b - 1) < l) := by
  unfold beginZ at h
  split at h
  · rename_i t r e
    obtain rfl : t = b := Option.some.inj h
    have h1 := (mom_mem hz (l := l) (t := t)).1 (by rw [e]; simp)
    exact ⟨h1.1, h1.2.1, by have := h1.2.2; unfold gZ; omega, .inl h1.2.2⟩
  · obtain ⟨h1, h2, h3, h4, h5⟩ := gap_inv (may_l hz) h
    refine ⟨h1, h2, ?_, .inr ⟨h3, ?_⟩⟩
    · unfold gZ atZ; omega
    · unfold gZ atZ; omega
end Go.Proofs.YtmoncokklkiikaaGreatDoor
namespace Go.Proofs.YtmoncokklkiikaaGreatDoor
open Rg Go
variable {H : Heap}
structure Ex where
  a : Fld
  b : Fld
  c : Fld
  d : Fld
  e : Fld
deriving DecidableEq
abbrev exC (x : Ex) : List AV := [.sc (.int .u64 x.a.bits), .sc (.bool x.a.star), .sc (.int .u64 x.b.bits), .sc (.bool x.b.star), .sc (.int .u64 x.c.bits), .sc (.bool x.c.star), .sc (.int .u64 x.d.bits), .sc (.bool x.d.star), .sc (.int .u64 x.e.bits), .sc (.bool x.e.star)]
abbrev exAV (x : Ex) : AV := .agg (exC x)
def Ex.get (x : Ex) : Nat → Fld
  | 0 => x.a
  | 1 => x.b
  | 2 => x.c
  | 3 => x.d
  | _ => x.e
structure Ex.ok (x : Ex) : Prop where
  a : x.a.bits < 18446744073709551616
  b : x.b.bits < 18446744073709551616
  c : x.c.bits < 18446744073709551616
  d : x.d.bits < 18446744073709551616
  e : x.e.bits < 18446744073709551616
def f0 : Fld := ⟨0, false⟩
def ex0 : Ex := ⟨f0, f0, f0, f0, f0⟩
def mayX (x : Ex) : Bool := mayB 0 x.a.bits && mayB 1 x.b.bits && mayB 2 x.c.bits && mayB 3 x.d.bits && mayB 4 x.e.bits
def dayFitsX (x : Ex) (c : Clk) : Bool :=
  mayX x && mayC c && hasB x.d.bits c.m && (if x.c.star = true ∨ x.e.star = true then hasB x.c.bits c.d && hasB x.e.bits c.w else hasB x.c.bits c.d || hasB x.e.bits c.w)
def fitsX (x : Ex) (c : Clk) : Bool := dayFitsX x c && hasB x.a.bits c.mi && hasB x.b.bits c.h
theorem lt_succ_all {P : Nat → Prop} {k : Nat} (h : ∀ i, i < k → P i) (hk : P k) : ∀ i, i < k + 1 → P i := fun i hi => by
  by_cases e : i = k
  · subst e; exact hk
  · exact h i (by omega)
theorem c_cronMay (x : Ex) (hx : x.ok) : AOk Tryz.prog 97 [exAV x] H (.sc (.bool (mayX x))) H := by
  refine ACalls.into Tryz.func97 rfl Tryz.ntmps97 Tryz.results97 (by simp) ?_
  simp -implicitDefEqProofs
  refine AAlloc.intro fun b1 h1 => ?_
  simp -implicitDefEqProofs
  refine AGo.rounds (fun m ρ K => ∃ j : Nat, j ≤ 5 ∧ m = 5 - j ∧ ρ 5 = exAV x ∧ ρ 6 = .sc (.int .i64 j) ∧ (∀ i, i < j → mayB (i : Int) (x.get i).bits = true) ∧ HWk H K) ?_ (m := 5) (HLe.refl _)
    ⟨0, by omega, rfl, by simp, by simp, fun i hi => by omega, HWk.new h1 (HWk.refl _)⟩
  rintro m ρ K ih ⟨j, hj, rfl, r5, r6, hm, hW⟩
  have hc : j = 0 ∨ j = 1 ∨ j = 2 ∨ j = 3 ∨ j = 4 ∨ j = 5 := by omega
  rcases hc with rfl | rfl | rfl | rfl | rfl | rfl
  · simp -implicitDefEqProofs [r5, r6]
    refine AAlloc.intro fun b hb => ?_
    have hW' : ∀ o, HWk H (K.set b o) := fun o => HWk.new (hW.none hb) hW
    simp -implicitDefEqProofs
    refine ACall.eq (c_may 0 x.a hx.a) ?_
    cases he : mayB 0 x.a.bits with
    | false => simp -implicitDefEqProofs [mayX, he]; exact hW' _
    | true =>
      simp -implicitDefEqProofs [r6, wrap_i64]
      exact AGo.again ih (m' := 4) (by omega) (HLe.refl _) ⟨1, by omega, rfl, by simp [r5], by simp, lt_succ_all (P := fun i : Nat => mayB (i : Int) (x.get i).bits = true) hm he, hW' _⟩
  · simp -implicitDefEqProofs [r5, r6]
    refine AAlloc.intro fun b hb => ?_
    have hW' : ∀ o, HWk H (K.set b o) := fun o => HWk.new (hW.none hb) hW
    simp -implicitDefEqProofs
    refine ACall.eq (c_may 1 x.b hx.b) ?_
    cases he : mayB 1 x.b.bits with
    | false => simp -implicitDefEqProofs [mayX, he]; exact hW' _
    | true =>
      simp -implicitDefEqProofs [r6, wrap_i64]
      exact AGo.again ih (m' := 3) (by omega) (HLe.refl _) ⟨2, by omega, rfl, by simp [r5], by simp, lt_succ_all (P := fun i : Nat => mayB (i : Int) (x.get i).bits = true) hm he, hW' _⟩
  · simp -implicitDefEqProofs [r5, r6]
    refine AAlloc.intro fun b hb => ?_
    have hW' : ∀ o, HWk H (K.set b o) := fun o => HWk.new (hW.none hb) hW
    simp -implicitDefEqProofs
    refine ACall.eq (c_may 2 x.c hx.c) ?_
    cases he : mayB 2 x.c.bits with
    | false => simp -implicitDefEqProofs [mayX, he]; exact hW' _
    | true =>
      simp -implicitDefEqProofs [r6, wrap_i64]
      exact AGo.again ih (m' := 2) (by omega) (HLe.refl _) ⟨3, by omega, rfl, by simp [r5], by simp, lt_succ_all (P := fun i : Nat => mayB (i : Int) (x.get i).bits = true) hm he, hW' _⟩
  · simp -implicitDefEqProofs [r5, r6]
    refine AAlloc.intro fun b hb => ?_
    have hW' : ∀ o, HWk H (K.set b o) := fun o => HWk.new (hW.none hb) hW
    simp -implicitDefEqProofs
    refine ACall.eq (c_may 3 x.d hx.d) ?_
    cases he : mayB 3 x.d.bits with
    | false => simp -implicitDefEqProofs [mayX, he]; exact hW' _
    | true =>
      simp -implicitDefEqProofs [r6, wrap_i64]
      exact AGo.again ih (m' := 1) (by omega) (HLe.refl _) ⟨4, by omega, rfl, by simp [r5], by simp, lt_succ_all (P := fun i : Nat => mayB (i : Int) (x.get i).bits = true) hm he, hW' _⟩
  · simp -implicitDefEqProofs [r5, r6]
    refine AAlloc.intro fun b hb => ?_
    have hW' : ∀ o, HWk H (K.set b o) := fun o => HWk.new (hW.none hb) hW
    simp -implicitDefEqProofs
    refine ACall.eq (c_may 4 x.e hx.e) ?_
    cases he : mayB 4 x.e.bits with
    | false => simp -implicitDefEqProofs [mayX, he]; exact hW' _
    | true =>
      simp -implicitDefEqProofs [r6, wrap_i64]
      exact AGo.again ih (m' := 0) (by omega) (HLe.refl _) ⟨5, by omega, rfl, by simp [r5], by simp, lt_succ_all (P := fun i : Nat => mayB (i : Int) (x.get i).bits = true) hm he, hW' _⟩
  · have g0 : mayB 0 x.a.bits = true := hm 0 (by omega)
    have g1 : mayB 1 x.b.bits = true := hm 1 (by omega)
    have g2 : mayB 2 x.c.bits = true := hm 2 (by omega)
    have g3 : mayB 3 x.d.bits = true := hm 3 (by omega)
    have g4 : mayB 4 x.e.bits = true := hm 4 (by omega)
    simp -implicitDefEqProofs [r5, r6, mayX, g0, g1, g2, g3, g4]
    exact hW
theorem c_allows {b : Nat} {x : Ex} (hb : H b = some (.cells (exC x) 42)) (hx : x.ok) (n : Int) :
    AOk Tryz.prog 145 [.sc (.int .i64 2), .sc (.int .i64 n), .sc (.pointer (some ⟨b, 0, none⟩))] H (.sc (.bool (hasB x.c.bits n))) H ∧
    AOk Tryz.prog 145 [.sc (.int .i64 3), .sc (.int .i64 n), .sc (.pointer (some ⟨b, 0, none⟩))] H (.sc (.bool (hasB x.d.bits n))) H ∧
    AOk Tryz.prog 145 [.sc (.int .i64 4), .sc (.int .i64 n), .sc (.pointer (some ⟨b, 0, none⟩))] H (.sc (.bool (hasB x.e.bits n))) H := by
  refine ⟨?_, ?_, ?_⟩
  · refine ACalls.into Tryz.func145 rfl Tryz.ntmps145 Tryz.results145 (by simp) ?_
    simp -implicitDefEqProofs [hb]
    refine ACall.eq (c_has x.c n hx.c) ?_
    simp -implicitDefEqProofs
  · refine ACalls.into Tryz.func145 rfl Tryz.ntmps145 Tryz.results145 (by simp) ?_
    simp -implicitDefEqProofs [hb]
    refine ACall.eq (c_has x.d n hx.d) ?_
    simp -implicitDefEqProofs
  · refine ACalls.into Tryz.func145 rfl Tryz.ntmps145 Tryz.results145 (by simp) ?_
    simp -implicitDefEqProofs [hb]
    refine ACall.eq (c_has x.e n hx.e) ?_
    simp -implicitDefEqProofs
theorem c_dayFits (x : Ex) (hx : x.ok) (c : Clk) : AOk Tryz.prog 93 [exAV x, cAV c] H (.sc (.bool (dayFitsX x c))) H := by
  refine ACalls.into Tryz.func93 rfl Tryz.ntmps93 Tryz.results93 (by simp) ?_
  simp -implicitDefEqProofs
  refine AAlloc.intro fun b2 h2 => ?_
  simp -implicitDefEqProofs
  refine AAlloc.intro fun b3 h3 => ?_
  have n32 : b3 ≠ b2 := by intro e; subst e; simp [Heap.set] at h3
  have n23 := n32.symm
  have e3 : H b3 = none := (HLe.set_fresh h2).none h3
  simp -implicitDefEqProofs [n32, n23]
  generalize hK : Heap.set _ b3 _ = K
  have k2 : K b2 = some (.cells (exC x) 42) := by rw [← hK]; simp [Heap.set, n23]
  have k3 : K b3 = some (.cells [.sc (.int .i64 c.y), .sc (.int .i64 c.m), .sc (.int .i64 c.d), .sc (.int .i64 c.h), .sc (.int .i64 c.mi), .sc (.int .i64 c.s), .sc (.int .i64 c.w)] 48) := by rw [← hK]; simp [Heap.set]
  have kW : HWk H K := by rw [← hK]; exact HWk.new e3 (HWk.new h2 (HWk.refl _))
  clear hK
  refine ACall.eq (c_cronMay x hx) ?_
  unfold dayFitsX
  cases hm : mayX x with
  | false => simp -implicitDefEqProofs; exact kW
  | true =>
    simp -implicitDefEqProofs [k3]
    refine ACall.eq (c_smay c) ?_
    cases hc : mayC c with
    | false => simp -implicitDefEqProofs; exact kW
    | true =>
      simp -implicitDefEqProofs
      refine go_draw 11 f_mixed (by decide +kernel) ?_
      simp -implicitDefEqProofs [k3]
      refine AQS.eq (c_allows k2 hx c.d).1 ?_
      simp -implicitDefEqProofs [k3]
      refine AQS.eq (c_allows k2 hx c.w).2.2 ?_
      obtain ⟨day, hday⟩ : ∃ z, hasB x.c.bits c.d = z := ⟨_, rfl⟩
      obtain ⟨week, hweek⟩ : ∃ z, hasB x.e.bits c.w = z := ⟨_, rfl⟩
      obtain ⟨mon, hmon⟩ : ∃ z, hasB x.d.bits c.m = z := ⟨_, rfl⟩
      have h3 := (c_allows (n := c.m) k2 hx).2.1
      rw [hmon] at h3
      rw [hday, hweek, hmon]
      cases hsc : x.c.star with
      | true =>
        simp -implicitDefEqProofs [k2, k3, hsc]
        refine ACall.eq h3 ?_
        cases mon <;> cases day <;> cases week <;> simp -implicitDefEqProofs <;> exact kW
      | false =>
        cases hse : x.e.star with
        | true =>
          simp -implicitDefEqProofs [k2, k3, hsc, hse]
          refine ACall.eq h3 ?_
          cases mon <;> cases day <;> cases week <;> simp -implicitDefEqProofs <;> exact kW
        | false =>
          simp -implicitDefEqProofs [k2, k3, hsc, hse]
          refine ACall.eq h3 ?_
          cases mon <;> cases day <;> cases week <;> simp -implicitDefEqProofs <;> exact kW
theorem c_fits (x : Ex) (hx : x.ok) (c : Clk) : AOk Tryz.prog 24 [exAV x, cAV c] H (.sc (.bool (fitsX x c))) H := by
  refine ACalls.into Tryz.func24 rfl Tryz.ntmps24 Tryz.results24 (by simp) ?_
  simp -implicitDefEqProofs
  refine AAlloc.intro fun b2 h2 => ?_
  simp -implicitDefEqProofs
  refine AAlloc.intro fun b3 h3 => ?_
  have n32 : b3 ≠ b2 := by intro e; subst e; simp [Heap.set] at h3
  have n23 := n32.symm
  have e3 : H b3 = none := (HLe.set_fresh h2).none h3
  simp -implicitDefEqProofs [n32, n23]
  generalize hK : Heap.set _ b3 _ = K
  have k2 : K b2 = some (.cells (exC x) 42) := by rw [← hK]; simp [Heap.set, n23]
  have k3 : K b3 = some (.cells [.sc (.int .i64 c.y), .sc (.int .i64 c.m), .sc (.int .i64 c.d), .sc (.int .i64 c.h), .sc (.int .i64 c.mi), .sc (.int .i64 c.s), .sc (.int .i64 c.w)] 48) := by rw [← hK]; simp [Heap.set]
  have kW : HWk H K := by rw [← hK]; exact HWk.new e3 (HWk.new h2 (HWk.refl _))
  clear hK
  refine ACall.eq (c_dayFits x hx c) ?_
  unfold fitsX
  cases hd : dayFitsX x c with
  | false => simp -implicitDefEqProofs; exact kW
  | true =>
    simp -implicitDefEqProofs [k2, k3]
    refine ACall.eq (c_has x.a c.mi hx.a) ?_
    cases hm : hasB x.a.bits c.mi with
    | false => simp -implicitDefEqProofs; exact kW
    | true =>
      simp -implicitDefEqProofs [k2, k3]
      refine ACall.eq (c_has x.b c.h hx.b) ?_
      simp -implicitDefEqProofs
      exact kW
end Go.Proofs.YtmoncokklkiikaaGreatDoor
namespace Go.Proofs.YtmoncokklkiikaaGreatDoor
open Rg Go
theorem mayC_clk {t : Nat} (h : t < 13569465600) : mayC (clk t) = true := by
  obtain ⟨i, d, hi, hd, hn⟩ := day_of (n := t / 86400) (by omega)
  have hc := civ_at hi hd
  rw [← hn] at hc
  unfold mayC wdayC clk
  rw [hc]
  simp only [Int.toNat_natCast, days_of, ← hn, mayD_of hi hd, Bool.and_eq_true, decide_eq_true_eq, and_true]
  omega
def dayB (x : Ex) (n : Nat) : Bool :=
  hasB x.d.bits (civ n).2.1 && (if x.c.star = true ∨ x.e.star = true then hasB x.c.bits (civ n).2.2 && hasB x.e.bits ((n + 4) % 7 : Nat) else hasB x.c.bits (civ n).2.2 || hasB x.e.bits ((n + 4) % 7 : Nat))
theorem day_clk (x : Ex) {t : Nat} (h : t < 13569465600) : dayFitsX x (clk t) = (mayX x && dayB x (t / 86400)) := by
  unfold dayFitsX dayB
  rw [mayC_clk h, Bool.and_true, Bool.and_assoc]
  rfl
theorem day_n (x : Ex) {n : Nat} (h : n < 157054) : dayFitsX x (clk (n * 86400)) = (mayX x && dayB x n) := by
  rw [day_clk x (by omega)]
  congr 2
  omega
def fireB (x : Ex) (t : Nat) : Bool := decide (t % 60 = 0) && fitsX x (clk t)
theorem fire_eq (x : Ex) {t : Nat} (h : t < 13569465600) : fireB x t = true ↔ t % 60 = 0 ∧ mayX x = true ∧ dayB x (t / 86400) = true ∧ hasB x.a.bits (t % 3600 / 60 : Nat) = true ∧ hasB x.b.bits (t % 86400 / 3600 : Nat) = true := by
  unfold fireB fitsX
  rw [day_clk x h]
  simp only [Bool.and_eq_true, decide_eq_true_eq, and_assoc]
  rfl
theorem fire_mk {x : Ex} {n h m : Nat} (hn : n < 157054) (hh : h < 24) (hm : m < 60) (hx : mayX x = true) (hd : dayB x n = true) (ha : hasB x.a.bits (m : Int) = true) (hb : hasB x.b.bits (h : Int) = true) : fireB x (n * 86400 + h * 3600 + m * 60) = true := by
  rw [fire_eq x (by omega)]
  rw [show (n * 86400 + h * 3600 + m * 60) / 86400 = n by omega, show (n * 86400 + h * 3600 + m * 60) % 3600 / 60 = m by omega, show (n * 86400 + h * 3600 + m * 60) % 86400 / 3600 = h by omega]
  exact ⟨by omega, hx, hd, ha, hb⟩
theorem fire_inv {x : Ex} {t : Nat} (h : t < 13569465600) (hf : fireB x t = true) : ∃ n h m : Nat, n < 157054 ∧ h < 24 ∧ m < 60 ∧ t = n * 86400 + h * 3600 + m * 60 ∧ mayX x = true ∧ dayB x n = true ∧ hasB x.a.bits (m : Int) = true ∧ hasB x.b.bits (h : Int) = true := by
  obtain ⟨h0, h1, h2, h3, h4⟩ := (fire_eq x h).1 hf
  exact ⟨t / 86400, t % 86400 / 3600, t % 3600 / 60, by omega, by omega, by omega, by omega, h1, h2, h3, h4⟩
def IsNext (x : Ex) (t : Nat) : Option Nat → Prop
  | some n => t < n ∧ n < 13569465600 ∧ fireB x n = true ∧ ∀ k, t < k → k < n → fireB x k = false
  | none => ∀ k, t < k → k < 13569465600 → fireB x k = false
theorem next_one {x : Ex} {t : Nat} : ∀ {r s : Option Nat}, IsNext x t r → IsNext x t s → r = s
  | none, none, _, _ => rfl
  | none, some m, hr, ⟨h1, h0, h2, _⟩ => by have := hr m h1 h0; rw [h2] at this; cases this
  | some m, none, ⟨h1, h0, h2, _⟩, hs => by have := hs m h1 h0; rw [h2] at this; cases this
  | some m, some n, ⟨h1, h0, h2, h3⟩, ⟨g1, g0, g2, g3⟩ => by
    rcases Nat.lt_trichotomy m n with h | h | h
    · have := g3 m h1 h; rw [h2] at this; cases this
    · rw [h]
    · have := h3 n g1 h; rw [g2] at this; cases this
theorem first_ex (P : Nat → Bool) (t : Nat) : ∀ m : Nat, (∃ n, t < n ∧ n < m ∧ P n = true ∧ ∀ k, t < k → k < n → P k = false) ∨ ∀ k, t < k → k < m → P k = false
  | 0 => .inr fun k _ h => by omega
  | m + 1 => by
    rcases first_ex P t m with ⟨n, h1, h2, h3, h4⟩ | h
    · exact .inl ⟨n, h1, by omega, h3, h4⟩
    · by_cases hm : t < m ∧ P m = true
      · exact .inl ⟨m, hm.1, by omega, hm.2, fun k g1 g2 => h k g1 g2⟩
      · refine .inr fun k g1 g2 => ?_
        by_cases e : k = m
        · subst e
          cases hp : P k with
          | false => rfl
          | true => exact absurd ⟨g1, hp⟩ hm
        · exact h k g1 (by omega)
theorem next_ex (x : Ex) (t : Nat) : ∃ r, IsNext x t r := by
  rcases first_ex (fireB x) t 13569465600 with ⟨n, h1, h2, h3, h4⟩ | h
  · exact ⟨some n, h1, h2, h3, h4⟩
  · exact ⟨none, h⟩
def optN : Option Nat → Nat
  | some n => n
  | none => 0
def errN : Option Nat → Nat
  | some _ => 0
  | none => 5
theorem day_at {n : Nat} (h : n < 157054) : ∃ i d, i < 5160 ∧ d < mLen i ∧ n = mFirst i + d ∧ (civ n).1 = 1970 + i / 12 ∧ (civ n).2.1 = i % 12 + 1 ∧ (civ n).2.2 = d + 1 := by
  obtain ⟨i, d, hi, hd, rfl⟩ := day_of h
  refine ⟨i, d, hi, hd, rfl, ?_⟩
  rw [civ_at hi hd]
  exact ⟨rfl, rfl, rfl⟩
theorem civ_month {n : Nat} (h : n < 157054) : 1 ≤ (civ n).2.1 ∧ (civ n).2.1 ≤ 12 ∧ 1 ≤ (civ n).2.2 ∧ (civ n).2.2 ≤ mLong (civ n).1 (civ n).2.1 ∧ mLong (civ n).1 (civ n).2.1 ≤ 31 ∧ 1970 ≤ (civ n).1 ∧ (civ n).1 ≤ 2399 ∧ (civ n).2.2 ≤ n + 1 := by
  obtain ⟨i, d, hi, hd, hn, e1, e2, e3⟩ := day_at h
  have := mLen_le i
  rw [e1, e2, e3]
  unfold mLen at *
  omega
theorem civ_same {n k : Nat} (hn : n < 157054) (h1 : n ≤ k + ((civ n).2.2 - 1)) (h2 : k + (civ n).2.2 ≤ n + mLong (civ n).1 (civ n).2.1) : k < 157054 ∧ (civ k).2.1 = (civ n).2.1 := by
  obtain ⟨i, d, hi, hd, hn, e1, e2, e3⟩ := day_at hn
  rw [e1, e2, e3] at h2
  rw [e3] at h1
  have e : k = mFirst i + (k - mFirst i) := by omega
  have hk : k - mFirst i < mLen i := by unfold mLen; omega
  have h4 := mFirst_mono (i := i + 1) (j := 5160) (by omega) (Nat.le_refl _)
  rw [mFirst_succ hi, mFirst_end] at h4
  refine ⟨by omega, ?_⟩
  rw [e2, e, civ_at hi hk]
end Go.Proofs.YtmoncokklkiikaaGreatDoor
namespace Go.Proofs.YtmoncokklkiikaaGreatDoor
open Rg Go
def IsAft (z : Zn) (x : Ex) (f : Nat) (t : Int) : Option Int → Prop
  | some a => ∃ l : Nat, f ≤ l ∧ l < 13569465600 ∧ fireB x l = true ∧ beginZ z (l : Int) = some a ∧ t < a ∧ ∀ k : Nat, f ≤ k → k < l → fireB x k = true → ∀ b, beginZ z (k : Int) = some b → b ≤ t
  | none => ∀ k : Nat, f ≤ k → k < 13569465600 → fireB x k = true → ∀ b, beginZ z (k : Int) = some b → b ≤ t
theorem aft_one {z : Zn} {x : Ex} {f : Nat} {t : Int} : ∀ {r s : Option Int}, IsAft z x f t r → IsAft z x f t s → r = s
  | none, none, _, _ => rfl
  | none, some a, hr, ⟨l, h1, h2, h3, h4, h5, _⟩ => by have := hr l h1 h2 h3 a h4; omega
  | some a, none, ⟨l, h1, h2, h3, h4, h5, _⟩, hs => by have := hs l h1 h2 h3 a h4; omega
  | some a, some b, ⟨l, h1, h2, h3, h4, h5, h6⟩, ⟨k, g1, g2, g3, g4, g5, g6⟩ => by
    rcases Nat.lt_trichotomy l k with h | h | h
    · have := g6 l h1 h h3 a h4; omega
    · subst h; rw [h4] at g4; exact g4
    · have := h6 k g1 h g3 b g4; omega
theorem aft_step {z : Zn} {x : Ex} {l : Nat} {t : Int} {r : Option Int} (h : ∀ b, beginZ z (l : Int) = some b → b ≤ t) : IsAft z x l t r → ∀ {q : Option Nat}, IsNext x l q → (∀ n, q = some n → IsAft z x n t r) ∧ (q = none → r = none) := by
  intro hr q hq
  match q, hq with
  | none, hq =>
    refine ⟨fun _ e => (by cases e), fun _ => ?_⟩
    match r, hr with
    | none, _ => rfl
    | some a, ⟨k, h1, h2, h3, h4, h5, _⟩ =>
      exfalso
      by_cases e : k = l
      · subst e; have := h a h4; omega
      · have := hq k (by omega) h2; rw [h3] at this; cases this
  | some n, ⟨g1, g2, g3, g4⟩ =>
    refine ⟨fun n' e => ?_, fun e => by cases e⟩
    cases e
    match r, hr with
    | none, hr => exact fun k h1 h2 h3 => hr k (by omega) h2 h3
    | some a, ⟨k, h1, h2, h3, h4, h5, h6⟩ =>
      refine ⟨k, ?_, h2, h3, h4, h5, fun i i1 i2 i3 => h6 i (by omega) i2 i3⟩
      by_cases e : k = l
      · subst e; have := h a h4; omega
      · refine Nat.not_lt.1 fun hk => ?_
        have := g4 k (by omega) hk; rw [h3] at this; cases this
theorem aft_from {z : Zn} {x : Ex} {f : Nat} {t : Int} {r : Option Int} (hf : fireB x f = false) : IsAft z x f t r → ∀ {q : Option Nat}, IsNext x f q → (∀ n, q = some n → IsAft z x n t r) ∧ (q = none → r = none) := by
  intro hr q hq
  match q, hq with
  | none, hq =>
    refine ⟨fun _ e => (by cases e), fun _ => ?_⟩
    match r, hr with
    | none, _ => rfl
    | some a, ⟨k, h1, h2, h3, h4, h5, _⟩ =>
      exfalso
      by_cases e : k = f
      · subst e; rw [h3] at hf; cases hf
      · have := hq k (by omega) h2; rw [h3] at this; cases this
  | some n, ⟨g1, g2, g3, g4⟩ =>
    refine ⟨fun n' e => ?_, fun e => by cases e⟩
    cases e
    match r, hr with
    | none, hr => exact fun k h1 h2 h3 => hr k (by omega) h2 h3
    | some a, ⟨k, h1, h2, h3, h4, h5, h6⟩ =>
      refine ⟨k, ?_, h2, h3, h4, h5, fun i i1 i2 i3 => h6 i (by omega) i2 i3⟩
      by_cases e : k = f
      · subst e; rw [h3] at hf; cases hf
      · refine Nat.not_lt.1 fun hk => ?_
        have := g4 k (by omega) hk; rw [h3] at this; cases this
def optI : Option Int → Int
  | some a => a
  | none => 0
def errI : Option Int → Int
  | some _ => 0
  | none => 5
end Go.Proofs.YtmoncokklkiikaaGreatDoor
namespace Go.Proofs.YtmoncokklkiikaaGreatDoor
open Rg Go
variable {H : Heap}
theorem shr_succ (b i : Nat) : shr b i / 2 = shr b (i + 1) := by
  unfold shr
  rw [Nat.shiftRight_succ]
theorem shr_half {b i : Nat} (hb : b < 18446744073709551616) : IntKind.u64.wrap ((shr b i : Int) / 2) = (shr b (i + 1) : Int) := by
  have h1 := shr_lt (i + 1) hb
  have e : (shr b i : Int) / 2 = ((shr b i / 2 : Nat) : Int) := by push_cast; rfl
  rw [e, shr_succ]
  exact wrap_u64 (by omega) (by omega)
theorem shr_odd (b i : Nat) : ((shr b i : Int).tmod 2 = 1) = (b.testBit i = true) := by
  have e : (shr b i : Int).tmod 2 = ((shr b i % 2 : Nat) : Int) := rfl
  rw [e, Nat.testBit_eq_decide_div_mod_eq]
  unfold shr
  rw [Nat.shiftRight_eq_div_pow]
  simp only [decide_eq_true_eq]
  apply propext
  omega
theorem c_refHas (f : Fld) (n : Int) (hf : f.bits < 18446744073709551616) : AOk Tryz.prog 113 [fAV f, .sc (.int .i64 n)] H (.sc (.bool (hasB f.bits n))) H := by
  refine ACalls.into Tryz.func113 rfl Tryz.ntmps113 Tryz.results113 (by simp) ?_
  simp -implicitDefEqProofs [fAV]
  refine AAlloc.intro fun b hb => ?_
  by_cases h0 : n < 0
  · have e : hasB f.bits n = false := by simp [hasB]; omega
    simp -implicitDefEqProofs [h0, e]
    exact HWk.new hb (HWk.refl _)
  · by_cases h1 : 63 < n
    · have e : hasB f.bits n = false := by simp [hasB]; omega
      simp -implicitDefEqProofs [h0, h1, e]
      exact HWk.new hb (HWk.refl _)
    · obtain ⟨N, rfl⟩ := Int.eq_ofNat_of_zero_le (a := n) (by omega)
      have hN : N ≤ 63 := by omega
      have e : hasB f.bits (N : Int) = f.bits.testBit N := by simp [hasB]; omega
      rw [e]
      simp -implicitDefEqProofs [h0, h1]
      refine AGo.rounds (fun m ρ K => ∃ i : Nat, i ≤ N ∧ m = N - i ∧ ρ 1 = .sc (.int .i64 N) ∧ ρ 5 = .sc (.int .u64 (shr f.bits i)) ∧ ρ 6 = .sc (.int .i64 i) ∧ HWk H K) ?_ (m := N) (HLe.refl _) ⟨0, by omega, rfl, by simp, by simp [shr], by simp, HWk.new hb (HWk.refl _)⟩
      rintro m ρ K ih ⟨i, hi, rfl, r1, r5, r6, hW⟩
      by_cases hlt : i < N
      · have hlt' : (i : Int) < (N : Int) := by omega
        have hwi : IntKind.i64.wrap ((i : Int) + 1) = ((i + 1 : Nat) : Int) := by rw [wrap_i64 (by omega) (by omega)]; push_cast; rfl
        simp -implicitDefEqProofs [r1, r5, r6, hlt, shr_half hf, hwi]
        exact AGo.again ih (m' := N - (i + 1)) (by omega) (HLe.refl _) ⟨i + 1, by omega, rfl, by simp [r1], by simp, by simp, hW⟩
      · obtain rfl : i = N := by omega
        simp -implicitDefEqProofs [r1, r5, r6, shr_odd]
        exact hW
end Go.Proofs.YtmoncokklkiikaaGreatDoor
namespace Go.Proofs.YtmoncokklkiikaaGreatDoor
open Rg Go
variable {H : Heap}
theorem c_refSplit (s : List UInt8) (c : UInt8) (hs : s.length ≤ 1000000) : AOk Tryz.prog 177 [str s, .sc (.int .u8 c.toNat)] H (.sl (strL (sp c s)) .no) H := by
  refine ACalls.into Tryz.func177 rfl Tryz.ntmps177 Tryz.results177 (by simp) ?_
  simp -implicitDefEqProofs
  refine AGo.rounds (fun m ρ K => ∃ (a i : Nat) (out : List (List UInt8)) (t : Tok), a ≤ i ∧ i ≤ s.length ∧ m = s.length - i ∧ ρ 0 = str s ∧ ρ 1 = .sc (.int .u8 c.toNat) ∧ ρ 5 = .sl (strL out) t ∧ ρ 6 = .sc (.int .i64 a) ∧ ρ 7 = .sc (.int .i64 i) ∧
    out.length ≤ a ∧ out ++ sp c (s.drop a) = sp c s ∧ c ∉ (s.drop a).take (i - a) ∧ Grows H (strL out) 1 9 t K) ?_ (m := s.length) (HLe.refl _)
    ⟨0, 0, [], .nil, by omega, by omega, by omega, by simp, by simp, by simp, by simp, by simp, by simp, by simp, by simp, Grows.zero⟩
  rintro m ρ K ih ⟨a, i, out, t, hai, hi, rfl, r0, r1, r5, r6, r7, hol, hsp, hno, hg⟩
  by_cases hlt : i < s.length
  · have hwi : IntKind.i64.wrap ((i : Int) + 1) = ((i + 1 : Nat) : Int) := by rw [wrap_i64 (by omega) (by omega)]; push_cast; rfl
    have hd : (s.drop a).drop (i - a) = s[i] :: s.drop (i + 1) := by
      rw [List.drop_drop, show a + (i - a) = i by omega, List.drop_eq_getElem_cons hlt]
    have hsplit : s.drop a = (s.drop a).take (i - a) ++ s[i] :: s.drop (i + 1) := by rw [← hd, List.take_append_drop]
    by_cases hc : s[i] = c
    · have hc' : ((s[i]).toNat : Int) = (c.toNat : Int) := by rw [hc]
      have hai' : (a : Int) ≤ (i : Int) := by omega
      have hi' : (i : Int) ≤ s.length := by omega
      simp -implicitDefEqProofs [r0, r1, r5, r6, r7, hlt, hc', hai', hi']
      refine AApp.grows el_89 hg (HLe.refl _) (by simp) (szs_strs _) (by simp [szs, AV.cells]) (by simp; omega) (by simp [maxLen]; omega) fun t' K' Hn hg' hl' => ?_
      simp -implicitDefEqProofs [r7, hwi]
      have hcur : (s.drop a).take (i - a) = (s.take i).drop a := by rw [List.drop_take]
      refine AGo.again ih (m' := s.length - (i + 1)) (by omega) hl' ⟨i + 1, i + 1, out ++ [(s.take i).drop a], t', by omega, by omega, rfl, by simp [r0], by simp [r1], by simp, by simp, by simp, by simp; omega, ?_, by simp, by simpa using hg'⟩
      rw [← hsp, hsplit, hc, sp_app, sp_not hno, hcur]
      simp
    · have hc' : ¬ ((s[i]).toNat : Int) = (c.toNat : Int) := by
        intro h; apply hc; apply UInt8.toNat_inj.1; omega
      simp -implicitDefEqProofs [r0, r1, r7, hlt, hc', hwi]
      refine AGo.again ih (m' := s.length - (i + 1)) (by omega) (HLe.refl _) ⟨a, i + 1, out, t, by omega, by omega, rfl, by simp [r0], by simp [r1], by simp [r5], by simp [r6], by simp, hol, hsp, ?_, hg⟩
      rw [show i + 1 - a = (i - a) + 1 by omega, List.take_add_one]
      have he : (s.drop a)[i - a]? = some s[i] := by rw [List.getElem?_drop, show a + (i - a) = i by omega, List.getElem?_eq_getElem hlt]
      rw [he]
      simp only [Option.toList_some, List.mem_append, List.mem_singleton, not_or]
      exact ⟨hno, fun h => hc h.symm⟩
  · obtain rfl : i = s.length := by omega
    have hai' : (a : Int) ≤ s.length := by omega
    simp -implicitDefEqProofs [r0, r5, r6, r7, hai']
    refine AApp.grows el_89 hg (HLe.refl _) (by simp) (szs_strs _) (by simp [szs, AV.cells]) (by simp; omega) (by simp [maxLen]; omega) fun t' K' Hn hg' hl' => ?_
    have hno' : c ∉ s.drop a := by rw [List.take_of_length_le (by simp)] at hno; exact hno
    rw [← hsp, sp_not hno']
    simp -implicitDefEqProofs
    exact ((hg'.le).trans hl').wk
end Go.Proofs.YtmoncokklkiikaaGreatDoor
namespace Go.Proofs.YtmoncokklkiikaaGreatDoor
open Rg Go
variable {H : Heap}
theorem c_refLow {k : Int} (hk : isK k = true) : AOk Tryz.prog 149 [.sc (.int .i64 k)] H (.sc (.int .i64 (lowK k))) H := by
  refine ACalls.into Tryz.func149 rfl Tryz.ntmps149 Tryz.results149 (by simp) ?_
  rcases isK_cases hk with rfl | rfl | rfl | rfl | rfl <;> simp -implicitDefEqProofs [lowK]
theorem c_refHigh {k : Int} (hk : isK k = true) : AOk Tryz.prog 150 [.sc (.int .i64 k)] H (.sc (.int .i64 (mostK k))) H := by
  refine ACalls.into Tryz.func150 rfl Tryz.ntmps150 Tryz.results150 (by simp) ?_
  rcases isK_cases hk with rfl | rfl | rfl | rfl | rfl <;> simp -implicitDefEqProofs [mostK]
end Go.Proofs.YtmoncokklkiikaaGreatDoor
namespace Go.Proofs.YtmoncokklkiikaaGreatDoor
open Rg Go
section
variable {b : Nat} (hb : b < 18446744073709551616)
include hb
end
end Go.Proofs.YtmoncokklkiikaaGreatDoor
namespace Go.Proofs.YtmoncokklkiikaaGreatDoor
open Rg Go
def lowB (b : UInt8) : UInt8 := if 65 ≤ b.toNat ∧ b.toNat ≤ 90 then b + 32 else b
theorem lowB_high {b : UInt8} (h : 128 ≤ b.toNat) : lowB b = b := by unfold lowB; rw [if_neg (by omega)]
theorem lowB_low {b : UInt8} (h : b.toNat < 128) : (lowB b).toNat < 128 ∧ ((lowB b).toNat : Int) = lowR b.toNat := by
  unfold lowB lowR
  by_cases h1 : 65 ≤ b.toNat ∧ b.toNat ≤ 90
  · have e : (b + 32).toNat = b.toNat + 32 := by rw [UInt8.toNat_add]; simp; omega
    rw [if_pos h1, if_pos (by omega), e]
    omega
  · rw [if_neg h1, if_neg (by omega)]
    exact ⟨h, rfl⟩
theorem enc_low {b : UInt8} (h : b.toNat < 128) : Lib.encodeRune (lowR b.toNat) = [lowB b] := by
  obtain ⟨h1, h2⟩ := lowB_low h
  rw [← h2]
  unfold Lib.encodeRune
  rw [Lib.encodeRuneZ_one (by omega) (by omega)]
  simp
theorem mapD_low {b : UInt8} (h : b.toNat < 128) (t : List UInt8) : Lib.mapD lowR (b :: t) = lowB b :: Lib.mapD lowR t := by
  have h2 := (lowB_low h).2
  rw [Lib.mapD_step _ _ (by simp), Lib.decodeL_ascii b t h]
  simp only [List.drop_one, List.tail_cons]
  rw [if_pos (by omega), enc_low h]
  rfl
theorem mapD_high {b : UInt8} (h : 128 ≤ b.toNat) (t : List UInt8) : ∃ x r, Lib.mapD lowR (b :: t) = x :: r ∧ 128 ≤ x.toNat := by
  rw [Lib.mapD_step _ _ (by simp)]
  have hw := Lib.decodeL_width (b :: t)
  by_cases hv : (Lib.decodeL (b :: t)).1 = 65533 ∧ (Lib.decodeL (b :: t)).2 = 1
  · rw [hv.1]
    have e : lowR ((65533 : Nat) : Int) = 65533 := rfl
    rw [e]
    exact ⟨239, _, rfl, by decide⟩
  · have e := Lib.encode_decode (b :: t) (by simp) hv
    obtain ⟨w, hw'⟩ : ∃ w, (Lib.decodeL (b :: t)).2 = w + 1 := ⟨(Lib.decodeL (b :: t)).2 - 1, by omega⟩
    rw [hw', List.take_succ_cons] at e
    have hlow : lowR ((Lib.decodeL (b :: t)).1 : Int) = ((Lib.decodeL (b :: t)).1 : Int) := by
      unfold lowR
      rw [if_neg]
      intro hr
      unfold Lib.encodeRune at e
      rw [Lib.encodeRuneZ_one (by omega) (by omega)] at e
      simp only [List.map_cons, List.map_nil, List.cons.injEq] at e
      have e1 := congrArg UInt8.toNat e.1
      simp at e1
      omega
    rw [hlow, if_pos (by omega), e]
    exact ⟨b, _, rfl, h⟩
theorem mapD_iff : ∀ (s m : List UInt8), (∀ x ∈ m, x.toNat < 128) → (Lib.mapD lowR s = m ↔ s.map lowB = m)
  | [], m, _ => by simp [Lib.mapD_nil]
  | b :: t, m, hm => by
    by_cases h : b.toNat < 128
    · rw [mapD_low h, List.map_cons]
      cases m with
      | nil => simp
      | cons x m => simp only [List.cons.injEq]; rw [mapD_iff t m fun y hy => hm y (by simp [hy])]
    · obtain ⟨x, r, hx, hx2⟩ := mapD_high (b := b) (by omega) t
      rw [hx, List.map_cons, lowB_high (by omega)]
      cases m with
      | nil => simp
      | cons y m =>
        have hy := hm y (by simp)
        constructor
        · intro e; simp at e; rw [← e.1] at hy; omega
        · intro e; simp at e; rw [← e.1] at hy; omega
theorem idxL_low (s : List UInt8) : ∀ (zs : List (List UInt8)) (i : Nat), (∀ z ∈ zs, ∀ x ∈ z, x.toNat < 128) → idxL zs (Lib.mapD lowR s) i = idxL zs (s.map lowB) i
  | [], i, _ => rfl
  | z :: zs, i, h => by
    unfold idxL
    have e : (z = Lib.mapD lowR s) = (z = s.map lowB) := by
      apply propext
      rw [eq_comm, mapD_iff s z (h z (by simp)), eq_comm]
    simp only [e]
    rw [idxL_low s zs (i + 1) fun y hy => h y (by simp [hy])]
theorem idxL_len {n : Nat} {x : List UInt8} (hx : x.length ≠ n) : ∀ (zs : List (List UInt8)) (i : Nat), (∀ z ∈ zs, z.length = n) → idxL zs x i = -1
  | [], i, _ => rfl
  | z :: zs, i, h => by
    unfold idxL
    rw [if_neg (fun e => hx (by rw [← e]; exact h z (by simp))), idxL_len hx zs (i + 1) fun y hy => h y (by simp [hy])]
def refNum (k : Int) (s : List UInt8) : Int := if (numK k s).2 = true then (numK k s).1 else -1
def isD (b : UInt8) : Bool := decide (48 ≤ b.toNat) && decide (b.toNat ≤ 57)
theorem isD_digs (b : UInt8) : digs.contains b = isD b := by
  have h : ∀ n, n < 256 → digs.contains (UInt8.ofNat n) = isD (UInt8.ofNat n) := by decide +kernel
  have := h b.toNat (UInt8.toNat_lt b)
  simpa using this
theorem digitVal_isD {b : UInt8} (h : isD b = true) : Lib.digitVal b = some (b.toNat - 48) := by
  have h0 : ∀ n, n < 256 → isD (UInt8.ofNat n) = true → Lib.digitVal (UInt8.ofNat n) = some ((UInt8.ofNat n).toNat - 48) := by decide +kernel
  have := h0 b.toNat (UInt8.toNat_lt b)
  simpa [h] using this
theorem dig2_iff (s : List UInt8) : dig2 s = (decide (s.length = 1 ∨ s.length = 2) && s.all isD) := by
  unfold dig2
  have h : decide (Lib.trimS s digs = []) = s.all isD := by
    rw [Bool.eq_iff_iff]
    simp only [decide_eq_true_eq, trimS_nil, isD_digs, List.all_eq_true]
  rw [h]
  congr 1
  rw [Bool.eq_iff_iff]
  simp
  omega
def digV (s : List UInt8) : Nat := s.foldl (fun n b => 10 * n + (b.toNat - 48)) 0
theorem refNum_dig {k : Int} {s : List UInt8} (h1 : s.length = 1 ∨ s.length = 2) (h2 : s.all isD = true) : refNum k s = digV s := by
  have hd : dig2 s = true := by rw [dig2_iff, h2]; simp [h1]
  unfold refNum numK
  rw [if_pos hd]
  simp only [if_true]
  have e0 : ∀ {a : UInt8}, isD a = true → (a == 45) = false ∧ (a == 43) = false := fun {a} h => by
    simp [isD] at h
    constructor <;> (apply beq_false_of_ne; rintro rfl; simp at h)
  match s, h1, h2 with
  | [a], _, h2 =>
    simp at h2
    have e := digitVal_isD h2
    simp [Lib.atoi, e0 h2, Lib.decNat, Lib.decFrom, e, digV]
  | [a, b], _, h2 =>
    simp at h2
    have e := digitVal_isD h2.1
    have e' := digitVal_isD h2.2
    simp [Lib.atoi, e0 h2.1, Lib.decNat, Lib.decFrom, e, e', digV]
    omega
  | [], h1, _ => simp at h1
  | a :: b :: c :: r, h1, _ => simp at h1
theorem refNum_name {k : Int} {s : List UInt8} (h : (decide (s.length = 1 ∨ s.length = 2) && s.all isD) = false) : refNum k s = nameK k (s.map lowB) := by
  have hd : dig2 s = false := by rw [dig2_iff, h]
  have e : nameK k (Lib.mapD lowR s) = nameK k (s.map lowB) := by
    unfold nameK
    rw [idxL_low s months 0 (by decide), idxL_low s days 0 (by decide)]
  have hle := nameK_le k (s.map lowB)
  have hnk : numK k s = (nameK k (s.map lowB), decide (0 ≤ nameK k (s.map lowB))) := by
    unfold numK
    rw [if_neg (by simp [hd]), e]
  unfold refNum
  rw [hnk]
  simp only [decide_eq_true_eq]
  split <;> omega
theorem nameK_len {k : Int} {s : List UInt8} (h : s.length ≠ 3) : nameK k s = -1 := by
  unfold nameK
  rw [idxL_len h months 0 (by decide), idxL_len h days 0 (by decide)]
  (repeat' split) <;> first | rfl | omega
theorem nameK_kind {k : Int} (s : List UInt8) (h3 : k ≠ 3) (h4 : k ≠ 4) : nameK k s = -1 := by unfold nameK; rw [if_neg h3, if_neg h4]
end Go.Proofs.YtmoncokklkiikaaGreatDoor
namespace Go.Proofs.YtmoncokklkiikaaGreatDoor
open Rg Go
theorem idxL_mem {y : UInt8} {x : List UInt8} (hx : y ∈ x) : ∀ (zs : List (List UInt8)) (i : Nat), (∀ z ∈ zs, y ∉ z) → idxL zs x i = -1
  | [], i, _ => rfl
  | z :: zs, i, h => by
    unfold idxL
    rw [if_neg (fun e => h z (by simp) (by rw [e]; exact hx)), idxL_mem hx zs (i + 1) fun w hw => h w (by simp [hw])]
theorem refNum_bad {k : Int} {s : List UInt8} {c : UInt8} (hc : c = 45 ∨ c = 47) (h : c ∈ s) : refNum k s = -1 := by
  have hall : s.all isD = false := by
    cases ha : s.all isD with
    | false => rfl
    | true =>
      have := List.all_eq_true.1 ha c h
      rcases hc with rfl | rfl <;> simp [isD] at this
  rw [refNum_name (by rw [hall]; simp)]
  have hm : c ∈ s.map lowB := List.mem_map.2 ⟨c, h, by rcases hc with rfl | rfl <;> decide⟩
  unfold nameK
  rw [idxL_mem hm months 0 (by rcases hc with rfl | rfl <;> decide), idxL_mem hm days 0 (by rcases hc with rfl | rfl <;> decide)]
  (repeat' split) <;> first | rfl | omega
theorem refNum_le (k : Int) (s : List UInt8) : -1 ≤ refNum k s ∧ refNum k s ≤ 99 := by
  have := numK_le k s
  unfold refNum
  split <;> omega
theorem numK_neg {k : Int} {s : List UInt8} : (numK k s).2 = false ↔ refNum k s < 0 := by
  unfold refNum
  cases h : (numK k s).2 with
  | false => simp
  | true =>
    simp only [if_true]
    constructor
    · intro h; cases h
    · intro hn
      exfalso
      unfold numK at h hn
      split at h
      · rename_i hd
        rw [if_pos hd] at hn
        obtain ⟨n, h1, _⟩ := dig2_atoi hd
        rw [h1] at hn
        simp at hn
      · rename_i hd
        rw [if_neg hd] at hn
        simp at h hn
        omega
theorem refNum_of {k : Int} {s : List UInt8} (h : 0 ≤ refNum k s) : (numK k s).2 = true ∧ (numK k s).1 = refNum k s := by
  have h2 : (numK k s).2 = true := by
    cases hc : (numK k s).2 with
    | true => rfl
    | false => have := numK_neg.1 hc; omega
  refine ⟨h2, ?_⟩
  unfold refNum
  rw [if_pos h2]
def rowFrom (step : Nat) (last : Int) : Nat → Nat → List Nat
  | 0, _ => []
  | f + 1, n => if (n : Int) ≤ last then n :: rowFrom step last f (n + step) else []
def refEnd (first last step : Int) : List Nat × Int := if step = 0 ∨ 59 < step then ([], 61) else (rowFrom step.toNat last 200 first.toNat, 0)
def refEnds (k a b step : Int) : List Nat × Int :=
  if a < 0 ∨ b < 0 then ([], 60) else if a < lowK k ∨ highK k < a ∨ highK k < b ∨ b < a then ([], 61) else refEnd a b step
def refBody (k : Int) (body : List UInt8) (two : Bool) (step : Int) : List Nat × Int :=
  if body = [42] then refEnd (lowK k) (mostK k) step else
  match sp 45 body with
  | [a] => if two = true then ([], 60) else refEnds k (refNum k a) (refNum k a) step
  | [a, b] => refEnds k (refNum k a) (refNum k b) step
  | _ => ([], 60)
def refItem (k : Int) (s : List UInt8) : List Nat × Int :=
  match sp 47 s with
  | [a] => refBody k a false 1
  | [a, b] => if refNum 0 b < 0 then ([], 60) else refBody k a true (refNum 0 b)
  | _ => ([], 60)
def orRow (M : Nat) (l : List Nat) (set : Nat) : Nat := l.foldl (fun st n => st ||| pow2 (modN n M)) set
theorem setFrom_row (M step : Nat) (last : Int) : ∀ (f n set : Nat), setFrom M step last f n set = orRow M (rowFrom step last f n) set
  | 0, n, set => rfl
  | f + 1, n, set => by
    unfold setFrom rowFrom
    by_cases h : (n : Int) ≤ last
    · rw [if_pos h, if_pos h, setFrom_row M step last f]; rfl
    · rw [if_neg h, if_neg h]; rfl
def asItem (k : Int) (r : List Nat × Int) : Nat × Int := (orRow (mostK k + 1).toNat r.1 0, r.2)
theorem fin_ref {k first last step : Int} (hle : first ≤ last) (hs : 0 ≤ step) : finK k first last step 0 = asItem k (refEnd first last step) := by
  unfold finK refEnd asItem
  rw [if_neg (by simp)]
  by_cases h : step = 0 ∨ 59 < step
  · rw [if_pos (by omega), if_pos h]; rfl
  · rw [if_neg (by omega), if_neg h, setFrom_row]
theorem fin_err {k first last step e : Int} (h : e ≠ 0) : finK k first last step e = (0, e) := by unfold finK; rw [if_pos h]
theorem ends_ref {k : Int} {a b : List UInt8} {step : Int} (hs : 0 ≤ step) : finK k (numK k a).1 (numK k b).1 step (takeE k b (takeE k a 0)) = asItem k (refEnds k (refNum k a) (refNum k b) step) := by
  unfold refEnds
  by_cases ha : refNum k a < 0
  · rw [if_pos (.inl ha)]
    have e1 : takeE k a 0 = 60 := by unfold takeE; rw [if_pos (numK_neg.2 ha)]
    have e2 : takeE k b 60 = 60 := by unfold takeE; split; rfl; rw [if_neg (by simp)]
    rw [e1, e2, fin_err (by decide)]; rfl
  · obtain ⟨a1, a2⟩ := refNum_of (k := k) (s := a) (by omega)
    by_cases hb : refNum k b < 0
    · rw [if_pos (.inr hb)]
      have e2 : ∀ e, takeE k b e = 60 := fun e => by unfold takeE; rw [if_pos (numK_neg.2 hb)]
      rw [e2, fin_err (by decide)]; rfl
    · obtain ⟨b1, b2⟩ := refNum_of (k := k) (s := b) (by omega)
      rw [if_neg (by omega)]
      have e1 : takeE k a 0 = if refNum k a < lowK k ∨ highK k < refNum k a then 61 else 0 := by
        unfold takeE; rw [if_neg (by simp [a1]), a2]; simp
      have e2 : ∀ e, takeE k b e = if e = 0 ∧ (refNum k b < lowK k ∨ highK k < refNum k b) then 61 else e := fun e => by
        unfold takeE; rw [if_neg (by simp [b1]), b2]
      rw [e1, e2, a2, b2]
      by_cases c1 : refNum k a < lowK k ∨ highK k < refNum k a
      · rw [if_pos c1, if_neg (by omega), fin_err (by decide), if_pos (by omega)]; rfl
      · rw [if_neg c1]
        by_cases c2 : refNum k b < lowK k ∨ highK k < refNum k b
        · rw [if_pos ⟨rfl, c2⟩, fin_err (by decide), if_pos (by omega)]; rfl
        · rw [if_neg (fun h => c2 h.2)]
          by_cases c3 : refNum k b < refNum k a
          · rw [if_pos (by omega)]
            unfold finK asItem
            rw [if_neg (by simp), if_pos (.inl c3)]; rfl
          · rw [if_neg (by omega), fin_ref (by omega) hs]
theorem split_mem {c : UInt8} {s : List UInt8} (h : c ∈ s) : ∃ a b, s = a ++ c :: b ∧ c ∉ a := by
  induction s with
  | nil => cases h
  | cons x s ih =>
    by_cases hx : x = c
    · subst hx; exact ⟨[], s, rfl, by simp⟩
    · obtain ⟨a, b, rfl, h2⟩ := ih (by rcases List.mem_cons.1 h with h | h; exact absurd h.symm hx; exact h)
      exact ⟨x :: a, b, rfl, by simp [h2, Ne.symm hx]⟩
theorem sp_cases (c : UInt8) (s : List UInt8) : (sp c s = [s] ∧ ct c s = (s, [], false)) ∨ (∃ a b, sp c s = [a, b] ∧ ct c s = (a, b, true)) ∨ (∃ a b x y r, sp c s = a :: x :: y :: r ∧ ct c s = (a, b, true) ∧ c ∈ b) := by
  by_cases h : c ∈ s
  · obtain ⟨a, b, rfl, ha⟩ := split_mem h
    right
    rw [sp_app, sp_not ha, ct_app ha]
    by_cases hb : c ∈ b
    · right
      obtain ⟨a2, b2, rfl, ha2⟩ := split_mem hb
      rw [sp_app, sp_not ha2]
      cases he : sp c b2 with
      | nil => exact absurd he (sp_ne c b2)
      | cons y r => exact ⟨a, _, a2, y, r, rfl, rfl, hb⟩
    · left
      rw [sp_not hb]
      exact ⟨a, b, rfl, rfl⟩
  · exact .inl ⟨sp_not h, ct_not h⟩
theorem body_ref {k : Int} (hk : isK k = true) (body : List UInt8) (two : Bool) {step : Int} (hs : 0 ≤ step) : bodyK k body two step = asItem k (refBody k body two step) := by
  have hb := bounds_le hk
  unfold bodyK refBody
  by_cases h : body = [42]
  · rw [if_pos h, if_pos h, fin_ref (by omega) hs]
  · rw [if_neg h, if_neg h, cut_ct]
    rcases sp_cases 45 body with ⟨h1, h2⟩ | ⟨a, b, h1, h2⟩ | ⟨a, b, x, y, r, h1, h2, h3⟩
    · rw [h1, h2]
      cases two with
      | true => simp [asItem, orRow]
      | false =>
        simp only [Bool.false_eq_true, false_and, if_false]
        have e := ends_ref (k := k) (a := body) (b := body) hs
        have e2 : takeE k body (takeE k body 0) = takeE k body 0 := by
          unfold takeE
          split
          · rfl
          · split
            · rw [if_neg (by simp)]
            · first | rfl | (rename_i h3; rw [if_neg h3])
        rw [e2] at e
        exact e
    · rw [h1, h2]
      simp only [Bool.true_eq_false, and_false, if_false, if_true]
      exact ends_ref hs
    · rw [h1, h2]
      simp only [Bool.true_eq_false, and_false, if_false, if_true]
      rw [ends_ref hs]
      unfold refEnds
      rw [if_pos (.inr (by rw [refNum_bad (.inl rfl) h3]; decide))]
theorem item_ref {k : Int} (hk : isK k = true) (s : List UInt8) : itemK k s = asItem k (refItem k s) := by
  unfold itemK refItem
  rw [cut_ct]
  rcases sp_cases 47 s with ⟨h1, h2⟩ | ⟨a, b, h1, h2⟩ | ⟨a, b, x, y, r, h1, h2, h3⟩
  · rw [h1, h2]
    simp only [Bool.false_eq_true, if_false]
    exact body_ref hk _ _ (by decide)
  · rw [h1, h2]
    simp only [if_true]
    by_cases hn : refNum 0 b < 0
    · rw [if_pos (numK_neg.2 hn), if_pos hn]; rfl
    · obtain ⟨b1, b2⟩ := refNum_of (k := 0) (s := b) (by omega)
      rw [if_neg (by simp [b1]), if_neg hn, b2]
      exact body_ref hk _ _ (by omega)
  · rw [h1, h2]
    simp only [if_true]
    rw [if_pos (numK_neg.2 (by rw [refNum_bad (.inr rfl) h3]; decide))]
    rfl
theorem rowFrom_in {step : Nat} {last : Int} (hs : 0 < step) : ∀ (f n : Nat), ∀ x ∈ rowFrom step last f n, n ≤ x ∧ (x : Int) ≤ last
  | 0, n, x, h => by simp [rowFrom] at h
  | f + 1, n, x, h => by
    unfold rowFrom at h
    split at h
    · rcases List.mem_cons.1 h with rfl | h
      · omega
      · have := rowFrom_in hs f _ x h; omega
    · simp at h
theorem refItem_in {k : Int} (hk : isK k = true) (s : List UInt8) : ∀ x ∈ (refItem k s).1, (x : Int) ≤ highK k := by
  have hb := bounds_le hk
  have hE : ∀ {first last step : Int}, 0 ≤ step → last ≤ highK k → ∀ x ∈ (refEnd first last step).1, (x : Int) ≤ highK k := fun {first last step} hs hl x hx => by
    unfold refEnd at hx
    split at hx
    · simp at hx
    · have := rowFrom_in (by omega) _ _ x hx; omega
  have hEs : ∀ {a b step : Int}, 0 ≤ step → ∀ x ∈ (refEnds k a b step).1, (x : Int) ≤ highK k := fun {a b step} hs x hx => by
    unfold refEnds at hx
    split at hx
    · simp at hx
    · split at hx
      · simp at hx
      · exact hE hs (by omega) x hx
  have hB : ∀ {body : List UInt8} {two : Bool} {step : Int}, 0 ≤ step → ∀ x ∈ (refBody k body two step).1, (x : Int) ≤ highK k := fun {body two step} hs x hx => by
    unfold refBody at hx
    split at hx
    · exact hE hs (by omega) x hx
    · split at hx
      · split at hx
        · simp at hx
        · exact hEs hs x hx
      · exact hEs hs x hx
      · simp at hx
  intro x hx
  unfold refItem at hx
  split at hx
  · exact hB (by decide) x hx
  · split at hx
    · simp at hx
    · exact hB (by omega) x hx
  · simp at hx
end Go.Proofs.YtmoncokklkiikaaGreatDoor
