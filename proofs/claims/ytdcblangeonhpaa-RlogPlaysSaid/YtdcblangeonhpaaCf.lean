/- The chapter's rows, and what the statements ask of rows. -/
import Derived.Test.YtdcblangeonhpaaCe
namespace Go.Proofs.Ytdcblangeonhpaa
open Rg Go Classical

def FromAt (L : List Ent) (j : Nat) : Prop := ∀ e, L[j]? = some e → e.i = j + 1 ∧ e.t ≠ 0 ∧ ∀ p, 0 < j → L[j - 1]? = some p → p.t ≤ e.t
noncomputable def fromB (L : List Ent) : Bool := decide (∀ j, FromAt L j)
def AgreeAt (A B : List Ent) (j : Nat) : Prop := ∀ a b, A[j]? = some a → B[j]? = some b → a.t = b.t → A.take (j + 1) = B.take (j + 1)
noncomputable def agreeB (A B : List Ent) : Bool := decide (∀ j, AgreeAt A B j)

variable {H : Heap}

theorem from_ok (L : List Ent) (hL : L.length ≤ 1000000000) : AOk Try.prog 8 [rowAV L] H (boolV (fromB L)) H := by
  refine ACalls.into Try.func8 rfl Try.ntmps8 Try.results8 (by simp) ?_
  simp -implicitDefEqProofs
  refine AGo.rounds (fun m ρ K => ∃ j : Nat, j ≤ L.length ∧ m = L.length - j ∧ ρ 0 = rowAV L ∧ ρ 3 = .sc (.int .i64 j) ∧ (∀ k, k < j → FromAt L k) ∧ K = H)
    ?_ (m := L.length) (HLe.refl H) ⟨0, by omega, by omega, by simp, by simp, by simp, rfl⟩
  rintro m ρ K ih ⟨j, hj, rfl, h0, h3, hall, rfl⟩
  by_cases hlt : j < L.length
  · have hg : L[j]? = some L[j] := List.getElem?_eq_getElem hlt
    generalize hej : L[j] = e at hg
    have bad : ¬ FromAt L j → fromB L = false := fun h => decide_eq_false fun hh => h (hh j)
    have hw1 : IntKind.i64.wrap ((j : Int) + 1) = j + 1 := wrap_i64 (by omega) (by omega)
    have hw2 : IntKind.u64.wrap ((j : Int) + 1) = j + 1 := wrap_u64 (by omega) (by omega)
    simp -implicitDefEqProofs [h0, h3, hlt]
    refine go_draw 35 f_mixed (by decide +kernel) ?_
    by_cases c1 : e.i = j + 1
    · by_cases c2 : e.t = 0
      · have hb := bad fun h => (h e hg).2.1 c2
        simp -implicitDefEqProofs [h0, h3, hlt, hej, hw1, hw2, c1, c2, hb]
      · by_cases c3 : 0 < j
        · obtain ⟨p, hp⟩ : ∃ p, L[j - 1]? = some p := ⟨L[j - 1]'(by omega), List.getElem?_eq_getElem _⟩
          have hw3 : IntKind.i64.wrap ((j : Int) - 1) = ((j - 1 : Nat) : Int) := by rw [wrap_i64 (by omega) (by omega)]; omega
          have c3' : (0 : Int) < j := by omega
          by_cases c4 : e.t < p.t
          · have hb := bad fun h => by have := (h e hg).2.2 p c3 hp; omega
            simp -implicitDefEqProofs [h0, h3, hlt, hej, hw1, hw2, hw3, c1, c2, c3, c3', hp, c4, hb]
          · simp -implicitDefEqProofs [h0, h3, hlt, hej, hw1, hw2, hw3, c1, c2, c3, c3', hp, c4]
            refine AGo.again ih (m' := L.length - (j + 1)) (by omega) (HLe.refl _) ⟨j + 1, by omega, rfl, by simp [h0], by simp [hw1], ?_, rfl⟩
            intro k hk
            by_cases hkj : k = j
            · subst hkj
              intro x hx
              rw [hg] at hx; cases hx
              refine ⟨c1, c2, fun q _ hq => ?_⟩
              rw [hp] at hq; cases hq
              omega
            · exact hall k (by omega)
        · have c3' : ¬ (0 : Int) < j := by omega
          simp -implicitDefEqProofs [h0, h3, hlt, hej, hw1, hw2, c1, c2, c3, c3']
          refine AGo.again ih (m' := L.length - (j + 1)) (by omega) (HLe.refl _) ⟨j + 1, by omega, rfl, by simp [h0], by simp [hw1], ?_, rfl⟩
          intro k hk
          obtain rfl : k = j := by omega
          intro x hx
          rw [hg] at hx; cases hx
          exact ⟨c1, c2, fun q h => absurd h c3⟩
    · have hb := bad fun h => c1 (h e hg).1
      simp -implicitDefEqProofs [h0, h3, hlt, hej, hw1, hw2, c1, hb]
  · have hb : fromB L = true := decide_eq_true fun k => by
      by_cases hk : k < j
      · exact hall k hk
      · intro x hx
        have := (List.getElem?_eq_some_iff.1 hx).1
        omega
    simp -implicitDefEqProofs [h0, h3, hlt, hb]

theorem agree_ok (A B : List Ent) (hA : A.length ≤ 1000000) (hB : B.length ≤ 1000000) : AOk Try.prog 9 [rowAV A, rowAV B] H (boolV (agreeB A B)) H := by
  refine ACalls.into Try.func9 rfl Try.ntmps9 Try.results9 (by simp) ?_
  simp -implicitDefEqProofs
  refine AGo.rounds (fun m ρ K => ∃ j : Nat, j ≤ A.length ∧ m = A.length - j ∧ ρ 0 = rowAV A ∧ ρ 1 = rowAV B ∧ ρ 5 = .sc (.int .i64 j) ∧ (∀ k, k < j → AgreeAt A B k) ∧ K = H)
    ?_ (m := A.length) (HLe.refl H) ⟨0, by omega, by omega, by simp, by simp, by simp, by simp, rfl⟩
  rintro m ρ K ih ⟨j, hj, rfl, h0, h1, h5, hall, rfl⟩
  have stop : ¬ (j < A.length ∧ j < B.length) → agreeB A B = true := fun h => decide_eq_true fun k => by
    by_cases hk : k < j
    · exact hall k hk
    · intro x y hx hy
      have := (List.getElem?_eq_some_iff.1 hx).1
      have := (List.getElem?_eq_some_iff.1 hy).1
      omega
  by_cases hlt : j < A.length
  · by_cases hltB : j < B.length
    · have hgA : A[j]? = some A[j] := List.getElem?_eq_getElem hlt
      have hgB : B[j]? = some B[j] := List.getElem?_eq_getElem hltB
      have hw1 : IntKind.i64.wrap ((j : Int) + 1) = ((j + 1 : Nat) : Int) := by rw [wrap_i64 (by omega) (by omega)]; omega
      have hw1' : IntKind.i64.wrap ((j : Int) + 1) = (j : Int) + 1 := by rw [wrap_i64 (by omega) (by omega)]
      have hjA : j + 1 ≤ A.length := by omega
      have hjB : j + 1 ≤ B.length := by omega
      simp -implicitDefEqProofs [h0, h1, h5, hlt, hltB]
      refine go_draw 23 f_mixed (by decide +kernel) ?_
      by_cases c1 : A[j].t = B[j].t
      · have hj0 : (0 : Int) ≤ (j : Int) + 1 := by omega
        have hjA' : (j : Int) + 1 ≤ A.length := by omega
        have hjB' : (j : Int) + 1 ≤ B.length := by omega
        simp -implicitDefEqProofs [h0, h1, h5, hlt, hltB, c1, hw1', hj0, hjA', hjB']
        refine AQS.ok (args' := [rowAV (A.take (j + 1)), rowAV (B.take (j + 1))]) (all_ok _ _ (by simp; omega)) (by simp) ?_
        cases hall2 : allE (A.take (j + 1)) (B.take (j + 1)) with
        | true =>
          simp -implicitDefEqProofs [h5]
          refine AGo.again ih (m' := A.length - (j + 1)) (by omega) (HLe.refl _) ⟨j + 1, by omega, rfl, by simp [h0], by simp [h1], by simp [hw1'], ?_, rfl⟩
          intro k hk
          by_cases hkj : k = j
          · subst hkj
            exact fun _ _ _ _ _ => allE_iff.1 hall2
          · exact hall k (by omega)
        | false =>
          have hb : agreeB A B = false := decide_eq_false fun hh => by
            have := hh j _ _ hgA hgB c1
            rw [allE_iff.2 this] at hall2; cases hall2
          simp -implicitDefEqProofs [hb]
      · simp -implicitDefEqProofs [h0, h1, h5, hlt, hltB, c1]
        refine AGo.again ih (m' := A.length - (j + 1)) (by omega) (HLe.refl _) ⟨j + 1, by omega, rfl, by simp [h0], by simp [h1], by simp [hw1'], ?_, rfl⟩
        intro k hk
        by_cases hkj : k = j
        · subst hkj
          intro x y hx hy ht
          rw [hgA] at hx; cases hx
          rw [hgB] at hy; cases hy
          exact absurd ht c1
        · exact hall k (by omega)
    · simp -implicitDefEqProofs [h0, h1, h5, hlt, hltB, stop]
  · simp -implicitDefEqProofs [h0, h1, h5, hlt, stop]

theorem lrow_ok : AOk Try.prog 30 [.sl [u64 1, u64 1, u64 2] .full] H (rowAV [⟨1, 1, []⟩, ⟨2, 1, []⟩, ⟨3, 2, []⟩]) H := by
  refine ACalls.into Try.func30 rfl Try.ntmps30 Try.results30 (by simp) ?_
  have w1 : IntKind.i64.wrap 1 = 1 := rfl
  have w2 : IntKind.i64.wrap 2 = 2 := rfl
  have w3 : IntKind.i64.wrap 3 = 3 := rfl
  have v1 : IntKind.u64.wrap 1 = 1 := rfl
  have v2 : IntKind.u64.wrap 2 = 2 := rfl
  have v3 : IntKind.u64.wrap 3 = 3 := rfl
  simp -implicitDefEqProofs
  refine go_lp.2 ⟨_, HLe.refl _, ?_⟩
  simp -implicitDefEqProofs [w1, v1]
  refine AApp.grows el_22 Grows.zero (HLe.refl _) (by simp) (by simp) (by simp) (by simp) (by simp [maxLen]) fun t1 K1 H1 g1 l1 => ?_
  simp -implicitDefEqProofs [w1, v1]
  refine go_lp.2 ⟨_, HLe.refl _, ?_⟩
  simp -implicitDefEqProofs [w2, v2]
  refine AApp.grows el_22 g1 l1 (by simp) (by simp) (by simp) (by simp) (by simp [maxLen]) fun t2 K2 H2 g2 l2 => ?_
  simp -implicitDefEqProofs [w2, v2]
  refine go_lp.2 ⟨_, HLe.refl _, ?_⟩
  simp -implicitDefEqProofs [w3, v3]
  refine AApp.grows el_22 g2 l2 (by simp) (by simp) (by simp) (by simp) (by simp [maxLen]) fun t3 K3 H3 g3 l3 => ?_
  simp -implicitDefEqProofs [w3, v3]
  refine go_lp.2 ⟨_, HLe.refl _, ?_⟩
  simp -implicitDefEqProofs
  exact (g3.le.trans l3).wk

theorem St.of {i t : Int} {L : List Ent} (i0 : 0 ≤ i) (i1 : i < 4611686018427387904) (t0 : 0 ≤ t) (t1 : t ≤ 18446744073709551615) (len : L.length ≤ 1000000) (slim : Slim L) (hs : standB i L = true) (hf : Fits L) : St i t L :=
  ⟨i0, i1, t0, t1, len, slim, standB_iff.1 hs, fun e he => (hf e he).2⟩

theorem known_ok : AOk Try.prog 6 [] H (boolV true) H := by
  have s0 : St 0 0 [⟨1, 1, []⟩, ⟨2, 1, []⟩, ⟨3, 2, []⟩] := St.of (by simp) (by simp) (by simp) (by simp) (by simp) (by simp [Slim]) rfl (by simp [Fits])
  have s1 : St 0 0 [⟨1, 1, []⟩, ⟨2, 1, []⟩, ⟨3, 3, []⟩, ⟨4, 3, []⟩] := St.of (by simp) (by simp) (by simp) (by simp) (by simp) (by simp [Slim]) rfl (by simp [Fits])
  have s2 : St 2 1 [⟨3, 3, []⟩, ⟨4, 3, []⟩] := St.of (by simp) (by simp) (by simp) (by simp) (by simp) (by simp [Slim]) rfl (by simp [Fits])
  have p1 : putE 0 0 [⟨1, 1, []⟩, ⟨2, 1, []⟩, ⟨3, 2, []⟩] 2 1 [⟨3, 3, []⟩, ⟨4, 3, []⟩] = ((3, true), [⟨1, 1, []⟩, ⟨2, 1, []⟩, ⟨3, 3, []⟩, ⟨4, 3, []⟩]) := rfl
  have p2 : putE 0 0 [⟨1, 1, []⟩, ⟨2, 1, []⟩, ⟨3, 3, []⟩, ⟨4, 3, []⟩] 2 1 [⟨3, 3, []⟩] = ((0, true), [⟨1, 1, []⟩, ⟨2, 1, []⟩, ⟨3, 3, []⟩, ⟨4, 3, []⟩]) := rfl
  have p3 : putE 0 0 [⟨1, 1, []⟩, ⟨2, 1, []⟩, ⟨3, 3, []⟩, ⟨4, 3, []⟩] 9 1 [] = ((0, false), [⟨1, 1, []⟩, ⟨2, 1, []⟩, ⟨3, 3, []⟩, ⟨4, 3, []⟩]) := rfl
  have p5 : putE 2 1 [⟨3, 3, []⟩, ⟨4, 3, []⟩] 1 7 [⟨2, 9, []⟩, ⟨3, 3, []⟩] = ((0, true), [⟨3, 3, []⟩, ⟨4, 3, []⟩]) := rfl
  refine ACalls.into Try.func6 rfl Try.ntmps6 Try.results6 (by simp) ?_
  simp -implicitDefEqProofs
  refine ACall.eq lrow_ok ?_
  simp -implicitDefEqProofs
  refine ACall.use (new_ok (i := 0) (t := 0) (L := [⟨1, 1, []⟩, ⟨2, 1, []⟩, ⟨3, 2, []⟩]) ?_ ?_ ?_ ?_ ?_) (by simp) (HWk.refl _) ?_
  · simp [Fits]
  · simp [Slim]
  · simp
  · simp
  · rfl
  rintro v K ⟨c, hc, rfl, rfl⟩
  simp -implicitDefEqProofs
  refine ACall.ok (put_ok (b := c) (T := 61) (by simp) s0 2 1 (by simp) [⟨3, 3, []⟩, ⟨4, 3, []⟩] (by simp [Fits]) (by simp [Slim]) (by simp)) (by simp) ?_
  simp -implicitDefEqProofs [p1]
  refine ACall.ok (last_ok (b := c) (T := 61) (by simp) s1) (by simp) ?_
  simp -implicitDefEqProofs [lastI, lastT]
  refine ACall.ok (put_ok (b := c) (T := 61) (by simp) s1 2 1 (by simp) [⟨3, 3, []⟩] (by simp [Fits]) (by simp [Slim]) (by simp)) (by simp) ?_
  simp -implicitDefEqProofs [p2]
  refine ACall.ok (put_ok (b := c) (T := 61) (by simp) s1 9 1 (by simp) [] (by simp [Fits]) (by simp [Slim]) (by simp)) (by simp) ?_
  simp -implicitDefEqProofs [p3]
  refine ACall.ok (compact_ok (b := c) (T := 61) (by simp) s1 2 (by simp) (u := 1) rfl) (by simp) ?_
  simp -implicitDefEqProofs
  refine ACall.ok (put_ok (b := c) (T := 61) (by simp) s2 1 7 (by simp) [⟨2, 9, []⟩, ⟨3, 3, []⟩] (by simp [Fits]) (by simp [Slim]) (by simp)) (by simp) ?_
  simp -implicitDefEqProofs [p5]
  exact (HWk.refl H).new hc

end Go.Proofs.Ytdcblangeonhpaa
