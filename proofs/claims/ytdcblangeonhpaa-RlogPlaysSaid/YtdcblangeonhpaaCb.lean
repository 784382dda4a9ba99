/- A log's answers: its base, its last entry, what stands at an index. -/
import Derived.Test.YtdcblangeonhpaaCa
namespace Go.Proofs.Ytdcblangeonhpaa
open Rg Go

abbrev ptr (b : Nat) : AV := .sc (.pointer (some ⟨b, 0, none⟩))
abbrev u64 (i : Int) : AV := .sc (.int .u64 i)
abbrev i64 (i : Int) : AV := .sc (.int .i64 i)
abbrev boolV (b : Bool) : AV := .sc (.bool b)
abbrev logC (i t : Int) (L : List Ent) : List AV := [.sc (.bool true), u64 i, u64 t, rowAV L]

/-- What a log may hold. -/
structure St (i t : Int) (L : List Ent) : Prop where
  i0 : 0 ≤ i
  i1 : i < 4611686018427387904
  t0 : 0 ≤ t
  t1 : t ≤ 18446744073709551615
  len : L.length ≤ 1000000
  slim : Slim L
  idx : ∀ (j : Nat) (e : Ent), L[j]? = some e → e.i = i + j + 1
  trm : ∀ e ∈ L, 0 ≤ e.t ∧ e.t ≤ 18446744073709551615

def lastI (i : Int) (L : List Ent) : Int := i + L.length
def lastT (t : Int) (L : List Ent) : Int := match L.getLast? with
  | some e => e.t
  | none => t
def getE (i : Int) (L : List Ent) (x : Int) : Option Ent := if x ≤ i then none else L[(x - i - 1).toNat]?
def termE (i t : Int) (L : List Ent) (x : Int) : Option Int := if x = i then some t else (getE i L x).map Ent.t

theorem there_ok {H : Heap} {b : Nat} {i t : Int} {L : List Ent} {T : TypeId} (hb : H b = some (.cells (logC i t L) T)) : AOk Try.prog 33 [ptr b] H (boolV true) H := by
  refine ACalls.into Try.func33 rfl Try.ntmps33 Try.results33 (by simp) ?_
  simp -implicitDefEqProofs [hb]
theorem there_nil {H : Heap} : AOk Try.prog 33 [.sc (.pointer none)] H (boolV false) H := by
  refine ACalls.into Try.func33 rfl Try.ntmps33 Try.results33 (by simp) ?_
  simp -implicitDefEqProofs
theorem there_zero {H : Heap} {b : Nat} {c : List AV} {T : TypeId} (hb : H b = some (.cells (boolV false :: c) T)) : AOk Try.prog 33 [ptr b] H (boolV false) H := by
  refine ACalls.into Try.func33 rfl Try.ntmps33 Try.results33 (by simp) ?_
  simp -implicitDefEqProofs [hb]

section
variable {H : Heap} {b : Nat} {i t : Int} {L : List Ent} {T : TypeId}

theorem base_ok (hb : H b = some (.cells (logC i t L) T)) : AOk Try.prog 20 [ptr b] H (.tup [u64 i, u64 t]) H := by
  refine ACalls.into Try.func20 rfl Try.ntmps20 Try.results20 (by simp) ?_
  simp -implicitDefEqProofs
  refine ACall.eq (there_ok hb) ?_
  simp -implicitDefEqProofs
  refine go_draw 10 f_mixed (by decide +kernel) ?_
  simp -implicitDefEqProofs [hb]

theorem last_ok (hb : H b = some (.cells (logC i t L) T)) (hs : St i t L) : AOk Try.prog 18 [ptr b] H (.tup [u64 (lastI i L), u64 (lastT t L)]) H := by
  refine ACalls.into Try.func18 rfl Try.ntmps18 Try.results18 (by simp) ?_
  simp -implicitDefEqProofs
  refine ACall.eq (there_ok hb) ?_
  simp -implicitDefEqProofs [hb]
  by_cases h0 : 0 < L.length
  · simp -implicitDefEqProofs [h0]
    refine go_draw 20 f_mixed (by decide +kernel) ?_
    have hl := hs.len
    have hw : IntKind.i64.wrap ((L.length : Int) - 1) = ((L.length - 1 : Nat) : Int) := by rw [wrap_i64 (by omega) (by omega)]; omega
    obtain ⟨e, he⟩ : ∃ e, L[L.length - 1]? = some e := ⟨L[L.length - 1], by simp [h0]⟩
    have hi := hs.idx _ _ he
    have hlt : lastT t L = e.t := by simp [lastT, List.getLast?_eq_getElem?, he]
    simp -implicitDefEqProofs [hb, hw, he, hlt, lastI, hi]
    omega
  · have hL : L = [] := by cases L <;> simp_all
    subst hL
    simp -implicitDefEqProofs
    refine go_draw 10 f_mixed (by decide +kernel) ?_
    simp -implicitDefEqProofs [hb, lastI, lastT]

theorem get_ok (hb : H b = some (.cells (logC i t L) T)) (hs : St i t L) (x : Int) (hx : 0 ≤ x ∧ x ≤ 18446744073709551615) :
    AOk Try.prog 12 [ptr b, u64 x] H (.tup [((getE i L x).getD ⟨0, 0, []⟩).av, boolV (getE i L x).isSome]) H := by
  refine ACalls.into Try.func12 rfl Try.ntmps12 Try.results12 (by simp) ?_
  have hl := hs.len
  have hi0 := hs.i0
  have hi1 := hs.i1
  have hw2 : IntKind.u64.wrap (L.length : Int) = L.length := wrap_u64 (by omega) (by omega)
  simp -implicitDefEqProofs
  refine AAlloc.intro fun b2 h2 => ?_
  have n12 : b2 ≠ b := by rintro rfl; simp [hb] at h2
  have n21 := n12.symm
  simp -implicitDefEqProofs
  refine go_draw 26 f_mixed (by decide +kernel) ?_
  by_cases h1 : x ≤ i
  · have hg : getE i L x = none := by simp [getE, h1]
    simp -implicitDefEqProofs
    refine AQS.eq (there_ok (i := i) (t := t) (L := L) (T := T) (by simp [hb, n21])) ?_
    simp -implicitDefEqProofs [hb, n12, n21, h1, hg]
    exact (HWk.refl _).new h2
  · have hw1 : IntKind.u64.wrap (x - i) = x - i := wrap_u64 (by omega) (by omega)
    by_cases h3 : (L.length : Int) < x - i
    · have hg : getE i L x = none := by simp [getE, h1]; omega
      simp -implicitDefEqProofs
      refine AQS.eq (there_ok (i := i) (t := t) (L := L) (T := T) (by simp [hb, n21])) ?_
      simp -implicitDefEqProofs [hb, n12, n21, h1, hg, hw1, hw2, h3]
      exact (HWk.refl _).new h2
    · obtain ⟨k, hk⟩ : ∃ k : Nat, x = i + 1 + k := ⟨(x - i - 1).toNat, by omega⟩
      have hw1 : IntKind.u64.wrap (x - i) = (k : Int) + 1 := by rw [hw1]; omega
      have hw3 : IntKind.u64.wrap (k : Int) = (k : Int) := wrap_u64 (by omega) (by omega)
      have hkl : ¬ (L.length : Int) < (k : Int) + 1 := by omega
      obtain ⟨e, he⟩ : ∃ e, L[k]? = some e := ⟨L[k]'(by omega), List.getElem?_eq_getElem _⟩
      have hg : getE i L x = some e := by unfold getE; rw [if_neg h1, ← he]; congr 1; omega
      have hem : e ∈ L := List.mem_of_getElem? he
      simp -implicitDefEqProofs
      refine AQS.eq (there_ok (i := i) (t := t) (L := L) (T := T) (by simp [hb, n21])) ?_
      simp -implicitDefEqProofs [hb, n12, n21, h1, hg, hw1, hw2, hkl]
      refine go_draw 14 f_mixed (by decide +kernel) ?_
      simp -implicitDefEqProofs [hb, n12, n21, hw1, hw3, he]
      refine AQS.eq (clone_ent e (hs.slim e hem) _) ?_
      simp -implicitDefEqProofs [hb, n12, n21]
      exact (HWk.refl _).new h2

theorem term_ok (hb : H b = some (.cells (logC i t L) T)) (hs : St i t L) (x : Int) (hx : 0 ≤ x ∧ x ≤ 18446744073709551615) :
    AOk Try.prog 14 [ptr b, u64 x] H (.tup [u64 ((termE i t L x).getD 0), boolV (termE i t L x).isSome]) H := by
  refine ACalls.into Try.func14 rfl Try.ntmps14 Try.results14 (by simp) ?_
  simp -implicitDefEqProofs
  refine ACall.eq (there_ok hb) ?_
  by_cases h1 : x = i
  · subst h1
    have hg : termE x t L x = some t := by simp [termE]
    simp -implicitDefEqProofs [hb, hg]
  · have hg : termE i t L x = (getE i L x).map Ent.t := by simp [termE, h1]
    simp -implicitDefEqProofs [hb, hg, h1]
    refine ACall.eq (get_ok hb hs x hx) ?_
    cases he : getE i L x with
    | none =>
      simp -implicitDefEqProofs
      refine AAlloc.intro fun b2 h2 => ?_
      simp -implicitDefEqProofs
      exact (HWk.refl _).new h2
    | some e =>
      simp -implicitDefEqProofs
      refine AAlloc.intro fun b2 h2 => ?_
      simp -implicitDefEqProofs
      exact (HWk.refl _).new h2

def sliceE (i : Int) (L : List Ent) (x most : Int) : List Ent :=
  if (getE i L x).isNone || decide (most < 1) then [] else (L.drop (x - i - 1).toNat).take most.toNat

theorem slice_ok (hb : H b = some (.cells (logC i t L) T)) (hs : St i t L) (x most : Int) (hx : 0 ≤ x ∧ x ≤ 18446744073709551615) (hm : -9223372036854775808 ≤ most ∧ most ≤ 9223372036854775807) :
    AOk Try.prog 16 [ptr b, u64 x, i64 most] H (rowAV (sliceE i L x most)) H := by
  refine ACalls.into Try.func16 rfl Try.ntmps16 Try.results16 (by simp) ?_
  simp -implicitDefEqProofs
  refine ACall.eq (get_ok hb hs x hx) ?_
  cases he : getE i L x with
  | none =>
    have hg : sliceE i L x most = [] := by simp [sliceE, he]
    simp -implicitDefEqProofs
    refine AAlloc.intro fun b2 h2 => ?_
    simp -implicitDefEqProofs [hg]
    exact (HWk.refl _).new h2
  | some e =>
    simp -implicitDefEqProofs
    refine AAlloc.intro fun b2 h2 => ?_
    have n12 : b2 ≠ b := by rintro rfl; simp [hb] at h2
    have n21 := n12.symm
    by_cases h1 : most < 1
    · have hg : sliceE i L x most = [] := by simp [sliceE, h1]
      simp -implicitDefEqProofs [hg, h1]
      exact (HWk.refl _).new h2
    · have hl := hs.len
      have hi0 := hs.i0
      have hi1 := hs.i1
      have hx1 : ¬ x ≤ i := by intro hc; simp [getE, hc] at he
      have hx2 : (x - i - 1).toNat < L.length := by
        unfold getE at he; rw [if_neg hx1] at he
        exact (List.getElem?_eq_some_iff.1 he).1
      obtain ⟨k, hk⟩ : ∃ k : Nat, x = i + 1 + k := ⟨(x - i - 1).toNat, by omega⟩
      have hw1 : IntKind.u64.wrap (x - i) = (k : Int) + 1 := by rw [wrap_u64 (by omega) (by omega)]; omega
      have hw3 : IntKind.u64.wrap (k : Int) = (k : Int) := wrap_u64 (by omega) (by omega)
      have hw4 : IntKind.i64.wrap (k : Int) = (k : Int) := wrap_i64 (by omega) (by omega)
      obtain ⟨q, hq⟩ : ∃ q : Nat, (if (L.length : Int) < most then (L.length : Int) else most) = (q : Int) := ⟨(if (L.length : Int) < most then (L.length : Int) else most).toNat, by split <;> omega⟩
      have hq1 : q ≤ L.length := by split at hq <;> omega
      have hw5 : IntKind.i64.wrap ((k : Int) + q) = (k : Int) + q := wrap_i64 (by omega) (by omega)
      obtain ⟨r, hr⟩ : ∃ r : Nat, (if (k : Int) + q < L.length then (k : Int) + q else L.length) = (r : Int) := ⟨(if (k : Int) + q < L.length then (k : Int) + q else L.length).toNat, by split <;> omega⟩
      have hr1 : k ≤ r ∧ r ≤ L.length := by split at hr <;> omega
      have hg : sliceE i L x most = (L.take r).drop k := by
        simp only [sliceE, he, h1, Option.isNone_some, decide_false, Bool.or_self, Bool.false_eq_true, if_false]
        rw [show (x - i - 1).toNat = k by omega, List.drop_take]
        rw [List.take_eq_take_iff]
        simp
        split at hq <;> split at hr <;> omega
      simp -implicitDefEqProofs [h1, hb, n12, n21, hw1, hw3, hw4]
      refine go_draw 16 f_mixed (by decide +kernel) ?_
      simp -implicitDefEqProofs [hb, n12, n21, hq, hw5, hr, hr1, szs_row]
      refine ACall.ok (args' := [rowAV ((L.take r).drop k)]) (clones_row _ ?_ ?_ _) (by simp) ?_
      · exact fun e he => hs.slim e (List.mem_of_mem_take (List.mem_of_mem_drop he))
      · simp; omega
      simp -implicitDefEqProofs [hg]
      exact (HWk.refl _).new h2

end
end Go.Proofs.Ytdcblangeonhpaa
