/- The document's log: its answers are the same. -/
import Derived.Test.YtdcblangeonhpaaDa
namespace Go.Proofs.Ytdcblangeonhpaa
open Rg Go

abbrev refC (i t : Int) (L : List Ent) : List AV := [u64 i, u64 t, rowAV L]
def placeE (i : Int) (L : List Ent) (x : Int) : Int := if (getE i L x).isSome = true then x - i - 1 else -1

theorem getAt {α : Type} {l : List α} {j : Nat} (h : j < l.length) : ∃ e, l[j] = e ∧ l[j]? = some e := ⟨l[j], rfl, List.getElem?_eq_getElem h⟩

section
variable {H : Heap} {b : Nat} {i t : Int} {L : List Ent} {T : TypeId}

theorem rRow_ok (x : Int) (hx : 0 ≤ x ∧ x ≤ 18446744073709551615) (E : List Ent) (hE : Fits E) (hl : E.length ≤ 1000000000) : AOk Try.prog 22 [u64 x, rowAV E] H (boolV (standB x E)) H := by
  refine ACalls.into Try.func22 rfl Try.ntmps22 Try.results22 (by simp) ?_
  simp -implicitDefEqProofs
  refine AGo.rounds (fun m ρ K => ∃ j : Nat, j ≤ E.length ∧ m = E.length - j ∧ ρ 0 = u64 x ∧ ρ 1 = rowAV E ∧ ρ 5 = i64 j ∧ x + j ≤ 18446744073709551615 ∧ standB x E = standB (x + j) (E.drop j) ∧ K = H)
    ?_ (m := E.length) (HLe.refl H) ⟨0, by omega, by omega, by simp, by simp, by simp, by omega, by simp, rfl⟩
  rintro m ρ K ih ⟨j, hj, rfl, h0, h1, h5, hb, hst, rfl⟩
  by_cases hlt : j < E.length
  · obtain ⟨e, hej, he⟩ := getAt hlt
    have hf := hE e (List.mem_of_getElem? he)
    have hst' : standB x E = (decide (e.i = x + j + 1) && standB (x + j + 1) (E.drop (j + 1))) := by
      rw [hst, List.drop_eq_getElem_cons hlt, hej]; rfl
    have w1 : IntKind.u64.wrap (j : Int) = j := wrap_u64 (by omega) (by omega)
    have w2 : IntKind.u64.wrap (x + (j : Int)) = x + j := wrap_u64 (by omega) (by omega)
    have w4 : IntKind.i64.wrap ((j : Int) + 1) = j + 1 := wrap_i64 (by omega) (by omega)
    by_cases hmax : x + (j : Int) + 1 ≤ 18446744073709551615
    · have w3 : IntKind.u64.wrap (x + (j : Int) + 1) = x + j + 1 := wrap_u64 (by omega) (by omega)
      by_cases hei : e.i = x + j + 1
      · have z1 : ¬ (x + (j : Int) + 1 = 0) := by omega
        have z2 : ¬ (x + (j : Int) + 1 ≤ x) := by omega
        simp -implicitDefEqProofs [h0, h1, h5, hej, hlt, w1, w2, w3, hei, z1, z2]
        exact AGo.again ih (m' := E.length - (j + 1)) (by omega) (HLe.refl _) ⟨j + 1, by omega, rfl, by simp [h0], by simp [h1], by simp [w4], by omega, by rw [hst', hei]; simp [Int.add_assoc], rfl⟩
      · have : standB x E = false := by rw [hst', decide_eq_false hei]; rfl
        simp -implicitDefEqProofs [h0, h1, h5, hej, hlt, w1, w2, w3, hei, this]
    · have w3 : IntKind.u64.wrap (x + (j : Int) + 1) = 0 := by rw [show x + (j : Int) + 1 = 18446744073709551616 by omega]; rfl
      have : standB x E = false := by rw [hst', decide_eq_false (by omega)]; rfl
      by_cases hei : e.i = 0
      · simp -implicitDefEqProofs [h0, h1, h5, hej, hlt, w1, w2, w3, hei, this]
      · simp -implicitDefEqProofs [h0, h1, h5, hej, hlt, w1, w2, w3, hei, this]
  · have : standB x E = true := by rw [hst, List.drop_eq_nil_of_le (by omega)]; rfl
    simp -implicitDefEqProofs [h1, h5, hlt, this]

theorem rLast_ok (hb : H b = some (.cells (refC i t L) T)) (hs : St i t L) : AOk Try.prog 38 [ptr b] H (.tup [u64 (lastI i L), u64 (lastT t L)]) H := by
  refine ACalls.into Try.func38 rfl Try.ntmps38 Try.results38 (by simp) ?_
  have hl := hs.len
  by_cases h0 : L = []
  · subst h0
    simp -implicitDefEqProofs [hb]
    refine go_draw 10 f_mixed (by decide +kernel) ?_
    simp -implicitDefEqProofs [hb, lastI, lastT]
  · have h0' : 0 < L.length := List.length_pos_iff.2 h0
    have hw : IntKind.i64.wrap ((L.length : Int) - 1) = ((L.length - 1 : Nat) : Int) := by rw [wrap_i64 (by omega) (by omega)]; omega
    obtain ⟨e, he⟩ : ∃ e, L[L.length - 1]? = some e := ⟨L[L.length - 1]'(by omega), List.getElem?_eq_getElem _⟩
    have hi := hs.idx _ _ he
    have hlt : lastT t L = e.t := by simp [lastT, List.getLast?_eq_getElem?, he]
    simp -implicitDefEqProofs [hb, h0]
    refine go_draw2 14 [0, 1, 2, 3, 4, 5, 6, 7, 8, 9, 10, 11] [12, 13] _ f_mixed (by decide +kernel) (HC.refl _) ?_
    simp -implicitDefEqProofs [hb, hw, he]
    refine AES.alloc fun c hc => ?_
    simp -implicitDefEqProofs
    refine AES.store (by simp; exact ⟨rfl, rfl⟩) (by simpa using HC.new hc) ?_
    simp -implicitDefEqProofs
    refine go_draw 6 f_mixed (by decide +kernel) ?_
    simp -implicitDefEqProofs [hlt, lastI, hi]
    exact ⟨by omega, (HWk.refl _).new hc⟩

theorem rPlace_ok (hb : H b = some (.cells (refC i t L) T)) (hs : St i t L) (x : Int) : AOk Try.prog 40 [ptr b, u64 x] H (i64 (placeE i L x)) H := by
  refine ACalls.into Try.func40 rfl Try.ntmps40 Try.results40 (by simp) ?_
  have hl := hs.len
  simp -implicitDefEqProofs
  refine AGo.rounds (fun m ρ K => ∃ j : Nat, j ≤ L.length ∧ m = L.length - j ∧ ρ 0 = ptr b ∧ ρ 1 = u64 x ∧ ρ 5 = i64 j ∧ ¬ (i < x ∧ x ≤ i + j) ∧ K = H)
    ?_ (m := L.length) (HLe.refl H) ⟨0, by omega, by omega, by simp, by simp, by simp, by omega, rfl⟩
  rintro m ρ K ih ⟨j, hj, rfl, h0, h1, h5, hno, rfl⟩
  by_cases hlt : j < L.length
  · obtain ⟨e, hej, he⟩ := getAt hlt
    have hi := hs.idx _ _ he
    have w4 : IntKind.i64.wrap ((j : Int) + 1) = j + 1 := wrap_i64 (by omega) (by omega)
    by_cases hei : e.i = x
    · have hp : placeE i L x = j := by
        unfold placeE getE
        rw [if_neg (show ¬ x ≤ i by omega), show (x - i - 1).toNat = j by omega, he]
        simp; omega
      simp -implicitDefEqProofs [h0, h1, h5, hb, hej, hlt, hei, hp]
    · simp -implicitDefEqProofs [h0, h1, h5, hb, hej, hlt, hei]
      exact AGo.again ih (m' := L.length - (j + 1)) (by omega) (HLe.refl _) ⟨j + 1, by omega, rfl, by simp [h0], by simp [h1], by simp [w4], by omega, rfl⟩
  · have hp : placeE i L x = -1 := by
      unfold placeE getE
      by_cases hx : x ≤ i
      · rw [if_pos hx]; rfl
      · rw [if_neg hx, List.getElem?_eq_none (by omega)]; rfl
    simp -implicitDefEqProofs [h0, h5, hb, hlt, hp]

theorem placeE_none {x : Int} (h : getE i L x = none) : placeE i L x = -1 := by simp [placeE, h]
theorem placeE_some {x : Int} {e : Ent} (h : getE i L x = some e) : ∃ k : Nat, placeE i L x = k ∧ x = i + 1 + k ∧ L[k]? = some e := by
  have hp : placeE i L x = x - i - 1 := by simp [placeE, h]
  unfold getE at h
  split at h
  · cases h
  · exact ⟨(x - i - 1).toNat, by omega, by omega, h⟩

theorem rAt_ok (hb : H b = some (.cells (refC i t L) T)) (hs : St i t L) (x : Int) : AOk Try.prog 39 [ptr b, u64 x] H (.tup [u64 ((termE i t L x).getD 0), boolV (termE i t L x).isSome]) H := by
  refine ACalls.into Try.func39 rfl Try.ntmps39 Try.results39 (by simp) ?_
  by_cases h1 : x = i
  · subst h1
    have hg : termE x t L x = some t := by simp [termE]
    simp -implicitDefEqProofs [hb, hg]
  · have hg : termE i t L x = (getE i L x).map Ent.t := by simp [termE, h1]
    simp -implicitDefEqProofs [hb, h1]
    refine ACall.eq (rPlace_ok hb hs x) ?_
    cases he : getE i L x with
    | none => simp -implicitDefEqProofs [hg, he, placeE_none he]
    | some e =>
      obtain ⟨k, hk, _, hke⟩ := placeE_some he
      simp -implicitDefEqProofs [hg, he, hk, hb, hke]

theorem rSlice_ok (hb : H b = some (.cells (refC i t L) T)) (hs : St i t L) (x most : Int) (hm : -9223372036854775808 ≤ most ∧ most ≤ 9223372036854775807) :
    AOk Try.prog 41 [ptr b, u64 x, i64 most] H (rowAV (sliceE i L x most)) H := by
  refine ACalls.into Try.func41 rfl Try.ntmps41 Try.results41 (by simp) ?_
  have hl := hs.len
  simp -implicitDefEqProofs
  refine ACall.eq (rPlace_ok hb hs x) ?_
  cases he : getE i L x with
  | none =>
    have hg : sliceE i L x most = [] := by simp [sliceE, he]
    simp -implicitDefEqProofs [placeE_none he, hg]
    refine go_lp.2 ⟨_, HLe.refl _, ?_⟩
    simp -implicitDefEqProofs
  | some e =>
    obtain ⟨k, hk, hxk, hke⟩ := placeE_some he
    have hkl := (List.getElem?_eq_some_iff.1 hke).1
    have hg : sliceE i L x most = (L.drop k).take most.toNat := by
      have hx1 : (x - i - 1).toNat = k := by omega
      simp only [sliceE, he, Option.isNone_some, Bool.false_or, hx1]
      by_cases h1 : most < 1
      · rw [decide_eq_true h1, show most.toNat = 0 by omega]; simp
      · rw [decide_eq_false h1]; simp
    simp -implicitDefEqProofs [hk]
    refine AGo.rounds (fun m ρ K => ∃ (c : Nat) (tk : Tok), k + c ≤ L.length ∧ c ≤ most.toNat ∧ m = L.length - (k + c) ∧ ρ 0 = ptr b ∧ ρ 2 = i64 most ∧ ρ 8 = i64 ((k + c : Nat) : Int) ∧ ρ 7 = .sl (((L.map Ent.av).drop k).take c) tk ∧ Grows H (((L.map Ent.av).drop k).take c) 3 34 tk K)
      ?_ (m := L.length - k) (HLe.refl H) ⟨0, .nil, by omega, by omega, by omega, by simp, by simp, by simp, by simp, by simpa using Grows.zero⟩
    rintro m ρ K ih ⟨c, tk, hc, hcm, rfl, h0, h2, h8, h7, hgr⟩
    have hbK := hgr.le _ _ hb
    have hmin : min c (L.length - k) = c := by omega
    have n1 : (0 : Int) ≤ ((k + c : Nat) : Int) := by omega
    by_cases hlt : k + c < L.length
    · have hlt' : (k : Int) + c < L.length := by omega
      by_cases hcm2 : (c : Int) < most
      · obtain ⟨y, hyj, hy⟩ := getAt hlt
        have n2 : ¬ ((k : Int) + c < 0) := by omega
        have n3 : ((k : Int) + c).toNat = k + c := by omega
        have n4 : (0 : Int) ≤ (k : Int) + c := by omega
        have w4 : IntKind.i64.wrap ((k : Int) + c + 1) = ((k + (c + 1) : Nat) : Int) := by rw [wrap_i64 (by omega) (by omega)]; omega
        have htake : ((L.map Ent.av).drop k).take (c + 1) = ((L.map Ent.av).drop k).take c ++ [y.av] := by
          rw [List.take_add_one]; congr 1; simp [hy]
        simp -implicitDefEqProofs [h0, h2, h7, h8, hbK, hlt', hcm2, hmin, n2, n3, n4, hy]
        refine AApp.grows el_22 hgr (HLe.refl _) (by simp) (szs_take (szs_drop (szs_row L) _) _) (by simp) (by simp; omega) (by simp [maxLen]; omega) fun t' K' Hn hg' hl' => ?_
        simp -implicitDefEqProofs [h8, w4]
        refine AGo.again ih (m' := L.length - (k + (c + 1))) (by omega) hl' ⟨c + 1, t', by omega, by omega, rfl, by simp [h0], by simp [h2], ?_, ?_, ?_⟩
        · simp
        · simp [htake]
        · simpa [htake] using hg'
      · have n4 : (0 : Int) ≤ (k : Int) + c := by omega
        have hcc : c = most.toNat := by omega
        simp -implicitDefEqProofs [h0, h2, h7, h8, hbK, hlt', hcm2, hmin, n4, hg, ← hcc]
        exact hgr.le.wk
    · have hlt' : ¬ (k : Int) + c < L.length := by omega
      have n4 : (0 : Int) ≤ (k : Int) + c := by omega
      have hall : (L.drop k).take most.toNat = (L.drop k).take c := by
        rw [List.take_of_length_le (by simp; omega), List.take_of_length_le (by simp; omega)]
      simp -implicitDefEqProofs [h0, h7, h8, hbK, hlt', n4, hg, hall]
      exact hgr.le.wk

theorem rNewer_ok (hb : H b = some (.cells (refC i t L) T)) (hs : St i t L) (x y : Int) : AOk Try.prog 42 [ptr b, u64 x, u64 y] H (boolV (decide (lastT t L < y) || (decide (y = lastT t L) && decide (lastI i L ≤ x)))) H := by
  refine ACalls.into Try.func42 rfl Try.ntmps42 Try.results42 (by simp) ?_
  simp -implicitDefEqProofs
  refine ACall.eq (rLast_ok hb hs) ?_
  by_cases h2 : y = lastT t L
  · simp -implicitDefEqProofs [h2]
  · simp -implicitDefEqProofs [h2]

end
end Go.Proofs.Ytdcblangeonhpaa
