/- A log and the document's stand alike; logs that are not there. -/
import Derived.Test.YtdcblangeonhpaaFb
import Derived.Test.YtdcblangeonhpaaCf
namespace Go.Proofs.Ytdcblangeonhpaa
open Rg Go

section
variable {H : Heap} {b r : Nat} {i t : Int} {L : List Ent} {T T' : TypeId}

theorem alike_ok (hb : H b = some (.cells (logC i t L) T)) (hr : H r = some (.cells (refC i t L) T')) (hs : St i t L) (hl : L.length ≤ 10000) (x y most : Int) (hx : 0 ≤ x ∧ x ≤ 18446744073709551615) (hm : -9223372036854775808 ≤ most ∧ most ≤ 9223372036854775807) :
    AOk Try.prog 29 [ptr b, ptr r, u64 x, u64 y, i64 most] H (boolV true) H := by
  have hi0 := hs.i0
  have hi1 := hs.i1
  refine ACalls.into Try.func29 rfl Try.ntmps29 Try.results29 (by simp) ?_
  simp -implicitDefEqProofs
  refine ACall.eq (base_ok hb) ?_
  simp -implicitDefEqProofs
  refine ACall.eq (last_ok hb hs) ?_
  simp -implicitDefEqProofs
  refine ACall.eq (rLast_ok hr hs) ?_
  simp -implicitDefEqProofs
  refine ACall.eq (term_ok hb hs x hx) ?_
  simp -implicitDefEqProofs
  refine ACall.eq (rAt_ok hr hs x) ?_
  simp -implicitDefEqProofs
  refine ACall.eq (get_ok hb hs x hx) ?_
  simp -implicitDefEqProofs
  refine AAlloc.intro fun c hc => ?_
  have n1 : c ≠ b := by rintro rfl; simp [hb] at hc
  have n2 : c ≠ r := by rintro rfl; simp [hr] at hc
  have n1' := n1.symm
  have n2' := n2.symm
  simp -implicitDefEqProofs
  refine ACall.eq (rPlace_ok (T := T') (by simp [hr, n2']) hs x) ?_
  simp -implicitDefEqProofs
  refine go_draw 55 f_mixed (by decide +kernel) ?_
  have w1 : IntKind.u64.wrap (i + 1) = i + 1 := wrap_u64 (by omega) (by omega)
  have w2 : sliceE i L (i + 1) 10000 = L := slice_whole (by omega) (by simp; omega)
  have hsl : (sliceE i L x most).length ≤ 1000000000 := by
    unfold sliceE
    split
    · simp
    · simp; omega
  have hcase : (getE i L x = none ∧ placeE i L x = -1) ∨ ∃ (k : Nat) (e : Ent), getE i L x = some e ∧ placeE i L x = k ∧ L[k]? = some e := by
    cases he : getE i L x with
    | none => exact .inl ⟨rfl, placeE_none he⟩
    | some e => obtain ⟨k, h1, _, h2⟩ := placeE_some he; exact .inr ⟨k, e, rfl, h1, h2⟩
  rcases hcase with ⟨he, hp⟩ | ⟨k, e, he, hp, hk⟩
  case' inr => 
    simp -implicitDefEqProofs [hr, n2', he, hp, hk]
    refine AQS.eq (same_ok e e) ?_
    simp -implicitDefEqProofs
  case' inl =>
    simp -implicitDefEqProofs [hr, n2', he, hp]
  all_goals
    refine go_draw 32 f_mixed (by decide +kernel) ?_
    simp -implicitDefEqProofs
    refine AQS.eq (slice_ok (T := T) (by simp [hb, n1']) hs x most hx hm) ?_
    simp -implicitDefEqProofs
    refine AQS.eq (rSlice_ok (T := T') (by simp [hr, n2']) hs x most hm) ?_
    simp -implicitDefEqProofs
    refine AQS.eq (all_ok _ _ hsl) ?_
    simp -implicitDefEqProofs [w1]
    refine AQS.eq (slice_ok (T := T) (by simp [hb, n1']) hs (i + 1) 10000 (by omega) (by omega)) ?_
    simp -implicitDefEqProofs [w2, hr, n2']
    refine AQS.eq (all_ok _ _ (by omega)) ?_
    simp -implicitDefEqProofs
    refine AQS.eq (newer_ok (T := T) (by simp [hb, n1']) hs x y) ?_
    simp -implicitDefEqProofs
    refine AQS.eq (rNewer_ok (T := T') (by simp [hr, n2']) hs x y) ?_
    simp -implicitDefEqProofs
    exact (HWk.refl H).new hc

/-- A step. -/
structure Opr where
  k : Int
  ix : Int
  tm : Int
  bd : List UInt8
  l : List Ent
abbrev Opr.av (o : Opr) : AV := .agg [i64 o.k, u64 o.ix, u64 o.tm, bodyAV o.bd, rowAV o.l]
def greatB (o : Opr) : Bool := decide (4611686018427387904 ≤ o.ix) || decide (30 < o.l.length) || decide (100 < o.bd.length) || bodiesB o.l

theorem great_ok (o : Opr) (hl : o.l.length ≤ maxLen) : AOk Try.prog 23 [o.av] H (boolV (greatB o)) H := by
  refine ACalls.into Try.func23 rfl Try.ntmps23 Try.results23 (by simp) ?_
  simp -implicitDefEqProofs
  refine AAlloc.intro fun c hc => ?_
  by_cases c1 : (4611686018427387904 : Int) ≤ o.ix
  · simp -implicitDefEqProofs [c1, greatB]
    exact (HWk.refl H).new hc
  by_cases c2 : (30 : Int) < o.l.length
  · have c2' : 30 < o.l.length := by omega
    simp -implicitDefEqProofs [c1, c2, c2', greatB]
    exact (HWk.refl H).new hc
  have c2' : ¬ 30 < o.l.length := by omega
  by_cases c3 : (100 : Int) < o.bd.length
  · have c3' : 100 < o.bd.length := by omega
    simp -implicitDefEqProofs [c1, c2, c2', c3, c3', greatB]
    exact (HWk.refl H).new hc
  have c3' : ¬ 100 < o.bd.length := by omega
  simp -implicitDefEqProofs [c1, c2, c3]
  refine ACall.eq (bodies_ok o.l (by omega)) ?_
  simp -implicitDefEqProofs [greatB, c1, c2', c3']
  exact (HWk.refl H).new hc

abbrev nilP : AV := .sc (.pointer none)
abbrev zeroE : Ent := ⟨0, 0, []⟩
abbrev zeroC : List AV := [boolV false, u64 0, u64 0, .sl [] .nil]

theorem get_nil (x : Int) : AOk Try.prog 12 [nilP, u64 x] H (.tup [zeroE.av, boolV false]) H := by
  refine ACalls.into Try.func12 rfl Try.ntmps12 Try.results12 (by simp) ?_
  simp -implicitDefEqProofs
  refine AAlloc.intro fun c hc => ?_
  simp -implicitDefEqProofs
  refine go_draw 26 f_mixed (by decide +kernel) ?_
  simp -implicitDefEqProofs
  refine AQS.eq there_nil ?_
  simp -implicitDefEqProofs
  exact (HWk.refl H).new hc
theorem get_zero (x : Int) (hb : H b = some (.cells zeroC T)) : AOk Try.prog 12 [ptr b, u64 x] H (.tup [zeroE.av, boolV false]) H := by
  refine ACalls.into Try.func12 rfl Try.ntmps12 Try.results12 (by simp) ?_
  simp -implicitDefEqProofs
  refine AAlloc.intro fun c hc => ?_
  have n1 : c ≠ b := by rintro rfl; simp [hb] at hc
  simp -implicitDefEqProofs
  refine go_draw 26 f_mixed (by decide +kernel) ?_
  simp -implicitDefEqProofs
  refine AQS.eq (there_zero (c := [u64 0, u64 0, .sl [] .nil]) (T := T) (by simp [hb, n1.symm])) ?_
  simp -implicitDefEqProofs
  exact (HWk.refl H).new hc
theorem term_zero_log (x : Int) (hb : H b = some (.cells zeroC T)) : AOk Try.prog 14 [ptr b, u64 x] H (.tup [u64 0, boolV false]) H := by
  refine ACalls.into Try.func14 rfl Try.ntmps14 Try.results14 (by simp) ?_
  simp -implicitDefEqProofs
  refine ACall.eq (there_zero hb) ?_
  simp -implicitDefEqProofs
  refine ACall.eq (get_zero x hb) ?_
  simp -implicitDefEqProofs
  refine AAlloc.intro fun c hc => ?_
  simp -implicitDefEqProofs
  exact (HWk.refl H).new hc
theorem put_zero (x y : Int) (E : AV) (hb : H b = some (.cells zeroC T)) : AOk Try.prog 11 [ptr b, u64 x, u64 y, E] H (.tup [u64 0, boolV false]) H := by
  refine ACalls.into Try.func11 rfl Try.ntmps11 Try.results11 (by simp) ?_
  simp -implicitDefEqProofs
  refine ACall.eq (there_zero hb) ?_
  simp -implicitDefEqProofs
theorem reset_zero (x y : Int) (hb : H b = some (.cells zeroC T)) : AOk Try.prog 28 [ptr b, u64 x, u64 y] H (.tup []) H := by
  refine ACalls.into Try.func28 rfl Try.ntmps28 Try.results28 (by simp) ?_
  simp -implicitDefEqProofs
  refine ACall.eq (there_zero hb) ?_
  simp -implicitDefEqProofs
theorem last_zero (hb : H b = some (.cells zeroC T)) : AOk Try.prog 18 [ptr b] H (.tup [u64 0, u64 0]) H := by
  refine ACalls.into Try.func18 rfl Try.ntmps18 Try.results18 (by simp) ?_
  simp -implicitDefEqProofs
  refine ACall.eq (there_zero hb) ?_
  simp -implicitDefEqProofs
theorem compact_nil (x : Int) : AOk Try.prog 19 [nilP, u64 x] H (i64 1) H := by
  refine ACalls.into Try.func19 rfl Try.ntmps19 Try.results19 (by simp) ?_
  simp -implicitDefEqProofs
  refine ACall.eq there_nil ?_
  simp -implicitDefEqProofs
theorem copy_nil : AOk Try.prog 17 [nilP] H nilP H := by
  refine ACalls.into Try.func17 rfl Try.ntmps17 Try.results17 (by simp) ?_
  simp -implicitDefEqProofs
  refine ACall.eq there_nil ?_
  simp -implicitDefEqProofs
theorem slice_nil (x y : Int) : AOk Try.prog 16 [nilP, u64 x, i64 y] H (.sl [] .nil) H := by
  refine ACalls.into Try.func16 rfl Try.ntmps16 Try.results16 (by simp) ?_
  simp -implicitDefEqProofs
  refine ACall.eq (get_nil x) ?_
  simp -implicitDefEqProofs
  refine AAlloc.intro fun c hc => ?_
  simp -implicitDefEqProofs
  exact (HWk.refl H).new hc
theorem newer_nil (x y : Int) : AOk Try.prog 21 [nilP, u64 x, u64 y] H (boolV false) H := by
  refine ACalls.into Try.func21 rfl Try.ntmps21 Try.results21 (by simp) ?_
  simp -implicitDefEqProofs
  refine ACall.eq there_nil ?_
  simp -implicitDefEqProofs
theorem append_nil (x : Int) (E : AV) : AOk Try.prog 24 [nilP, u64 x, E] H zeroE.av H := by
  refine ACalls.into Try.func24 rfl Try.ntmps24 Try.results24 (by simp) ?_
  simp -implicitDefEqProofs
  refine AAlloc.intro fun c hc => ?_
  simp -implicitDefEqProofs
  refine ACall.eq there_nil ?_
  simp -implicitDefEqProofs
  exact (HWk.refl H).new hc

end
end Go.Proofs.Ytdcblangeonhpaa
