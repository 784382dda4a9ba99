/- The document's log: what it does to its entries is the same. -/
import Derived.Test.YtdcblangeonhpaaFa
import Derived.Test.YtdcblangeonhpaaCd
namespace Go.Proofs.Ytdcblangeonhpaa
open Rg Go

section
variable {H : Heap} {b : Nat} {i t : Int} {L : List Ent} {T : TypeId}

theorem rCompact_none (hb : H b = some (.cells (refC i t L) T)) (hs : St i t L) (x : Int) (h : termE i t L x = none) : AOk Try.prog 27 [ptr b, u64 x] H (i64 5) H := by
  refine ACalls.into Try.func27 rfl Try.ntmps27 Try.results27 (by simp) ?_
  simp -implicitDefEqProofs
  refine ACall.eq (rAt_ok hb hs x) ?_
  simp -implicitDefEqProofs [h]

theorem rCompact_ok (hb : H b = some (.cells (refC i t L) T)) (hs : St i t L) (x : Int) {u : Int} (h : termE i t L x = some u) :
    AOk Try.prog 27 [ptr b, u64 x] H (i64 0) (H.set b (.cells (refC x u (L.drop (x - i).toNat)) T)) := by
  refine ACalls.into Try.func27 rfl Try.ntmps27 Try.results27 (by simp) ?_
  have hl := hs.len
  obtain ⟨k, hkl, hxk, _, _⟩ := termE_some h
  have hk2 : (x - i).toNat = k := by omega
  simp -implicitDefEqProofs
  refine ACall.eq (rAt_ok hb hs x) ?_
  simp -implicitDefEqProofs [h]
  refine AGo.rounds (fun m ρ K => ∃ (j : Nat) (tk : Tok), j ≤ L.length ∧ m = L.length - j ∧ ρ 0 = ptr b ∧ ρ 1 = u64 x ∧ ρ 5 = u64 u ∧ ρ 8 = i64 j ∧ ρ 7 = .sl (((L.map Ent.av).take j).drop k) tk ∧ Grows H (((L.map Ent.av).take j).drop k) 3 34 tk K)
    ?_ (m := L.length) (HLe.refl H) ⟨0, .nil, by omega, by omega, by simp, by simp, by simp, by simp, by simp, by simpa using Grows.zero⟩
  rintro m ρ K ih ⟨j, tk, hj, rfl, h0, h1, h5, h8, h7, hgr⟩
  have hbK := hgr.le _ _ hb
  by_cases hlt : j < L.length
  · obtain ⟨e, hej, he⟩ := getAt hlt
    have hi := hs.idx _ _ he
    have w4 : IntKind.i64.wrap ((j : Int) + 1) = j + 1 := wrap_i64 (by omega) (by omega)
    by_cases hc : x < e.i
    · have htake : ((L.map Ent.av).take (j + 1)).drop k = ((L.map Ent.av).take j).drop k ++ [e.av] := by
        rw [List.take_add_one, List.getElem?_map, he, List.drop_append_of_le_length (by rw [List.length_take, List.length_map]; omega)]; rfl
      simp -implicitDefEqProofs [h0, h1, h7, h8, hbK, hlt, hej, hc]
      refine AApp.grows el_22 hgr (HLe.refl _) (by simp) (szs_drop (szs_take (szs_row L) _) _) (by simp) (by simp; omega) (by simp [maxLen]; omega) fun t' K' Hn hg' hl' => ?_
      simp -implicitDefEqProofs [h8]
      refine AGo.again ih (m' := L.length - (j + 1)) (by omega) hl' ⟨j + 1, t', by omega, rfl, by simp [h0], by simp [h1], by simp [h5], by simp [w4], ?_, ?_⟩
      · simp [htake]
      · simpa [htake] using hg'
    · have htake : ((L.map Ent.av).take (j + 1)).drop k = ((L.map Ent.av).take j).drop k := by
        rw [List.drop_eq_nil_of_le (by simp; omega), List.drop_eq_nil_of_le (by simp; omega)]
      simp -implicitDefEqProofs [h0, h1, h8, hbK, hlt, hej, hc]
      exact AGo.again ih (m' := L.length - (j + 1)) (by omega) (HLe.refl _) ⟨j + 1, tk, by omega, rfl, by simp [h0], by simp [h1], by simp [h5], by simp [w4], by simp [htake, h7], by simpa [htake] using hgr⟩
  · simp -implicitDefEqProofs [h0, h1, h5, h7, h8, hbK, hlt]
    exact HWk.sets (by rw [hk2, List.take_of_length_le (by simp; omega)]; simp) hgr.le.wk

theorem rAppend_ok (hb : H b = some (.cells (refC i t L) T)) (hs : St i t L) (y : Int) (bd : List UInt8) :
    AOk Try.prog 25 [ptr b, u64 y, bodyAV bd] H (Ent.av ⟨lastI i L + 1, y, bd⟩) (H.set b (.cells (refC i t (L ++ [⟨lastI i L + 1, y, bd⟩])) T)) := by
  refine ACalls.into Try.func25 rfl Try.ntmps25 Try.results25 (by simp) ?_
  have hl := hs.len
  have hi0 := hs.i0
  have hi1 := hs.i1
  have hw : IntKind.u64.wrap (lastI i L + 1) = lastI i L + 1 := wrap_u64 (by unfold lastI; omega) (by unfold lastI; omega)
  simp -implicitDefEqProofs
  refine AAlloc.intro fun c hc => ?_
  have n12 : c ≠ b := by rintro rfl; simp [hb] at hc
  have n21 := n12.symm
  simp -implicitDefEqProofs
  refine ACall.eq (rLast_ok (T := T) (by simp [hb, n21]) hs) ?_
  simp -implicitDefEqProofs [hw]
  refine AAlloc.intro fun d hd => ?_
  have m12 : d ≠ b := by rintro rfl; simp [n21, hb] at hd
  have m21 := m12.symm
  have m32 : d ≠ c := by rintro rfl; simp at hd
  have m23 := m32.symm
  have hd : H d = none := by simpa [m32] using hd
  simp -implicitDefEqProofs
  refine go_draw2 12 [0, 1, 2, 3, 4, 5, 7, 8] [6, 9, 10, 11] _ f_mixed (by decide +kernel) (HC.refl _) ?_
  simp -implicitDefEqProofs [hb, n21, m21]
  by_cases h0 : L = []
  · subst h0
    refine AES.same el_22 (.inr rfl) (by simp) (by simp) (by simp [maxLen]) ?_
    simp -implicitDefEqProofs
    refine AES.new el_22 (.inr rfl) (by simp) (by simp) (by simp) (by simp) (by simp [maxLen]) fun g cap hg => ?_
    have g1 : g ≠ b := by rintro rfl; simp [n21, m21, hb] at hg
    have g2 : g ≠ c := by rintro rfl; simp [m23] at hg
    have g3 : g ≠ d := by rintro rfl; simp at hg
    have hgH : H g = none := by simpa [g2, g3] using hg
    simp -implicitDefEqProofs [hb, n12, n21, m12, m21, m23, g1.symm, g2.symm, g3.symm]
    exact (HWk.sets (by simp) ((((HWk.refl H).new hc).new hd).new hgH)).new (by simp [n12, hc])
  · have hpos : 0 < L.length := List.length_pos_iff.2 h0
    refine AES.new el_22 (.inr rfl) (by simpa using h0) (by simp) (by simp) (by simp; omega) (by simp [maxLen]; omega) fun g cap hg => ?_
    have g1 : g ≠ b := by rintro rfl; simp [n21, m21, hb] at hg
    have g2 : g ≠ c := by rintro rfl; simp [m23] at hg
    have g3 : g ≠ d := by rintro rfl; simp at hg
    have hgH : H g = none := by simpa [g2, g3] using hg
    simp -implicitDefEqProofs
    refine AES.own el_22 (by simp) (by simp) (by simp) (by simp; omega) (by simp [maxLen]; omega) fun g' cap' hg' => ?_
    have g1' : g' ≠ b := by rintro rfl; simp [n21, m21, hb, g1.symm] at hg'
    have g2' : g' ≠ c := by rintro rfl; simp [m23, g2.symm] at hg'
    have g3' : g' ≠ d := by rintro rfl; simp [g3.symm] at hg'
    have hgH' : H g' = none := by
      by_cases hgg : g' = g
      · rw [hgg]; exact hgH
      · simpa [g2', g3', hgg] using hg'
    simp -implicitDefEqProofs [hb, n12, n21, m12, m21, m23, g1.symm, g2.symm, g3.symm, g1'.symm, g2'.symm, g3'.symm]
    refine (HWk.sets (by simp) ?_).new (by simp [n12, hc])
    refine HWk.new hgH' fun k ob e => ⟨ob, ?_, obW_refl ob⟩
    have k1 : k ≠ c := by rintro rfl; rw [hc] at e; cases e
    have k2 : k ≠ d := by rintro rfl; rw [hd] at e; cases e
    have k3 : k ≠ g := by rintro rfl; rw [hgH] at e; cases e
    simpa [k1, k2, k3] using e

set_option maxHeartbeats 4000000 in
theorem rPut_ok (hb : H b = some (.cells (refC i t L) T)) (hs : St i t L) (x y : Int) (hx : 0 ≤ x ∧ x ≤ 18446744073709551615) (E : List Ent) (hE : Fits E) (hl : E.length ≤ 1000000) :
    AOk Try.prog 26 [ptr b, u64 x, u64 y, rowAV E] H (.tup [u64 (putE i t L x y E).1.1, boolV (putE i t L x y E).1.2]) (H.set b (.cells (refC i t (putE i t L x y E).2) T)) := by
  have hL := hs.len
  have hi0 := hs.i0
  have hi1 := hs.i1
  have hkeep : HWk (H.set b (.cells (refC i t L) T)) H := HWk.at_ hb (by simp) (HWk.refl H)
  refine ACalls.into Try.func26 rfl Try.ntmps26 Try.results26 (by simp) ?_
  simp -implicitDefEqProofs
  refine ACall.eq (rRow_ok x hx E hE (by omega)) ?_
  cases hst : standB x E with
  | false =>
    have hp : putE i t L x y E = ((0, false), L) := by simp [putE, hst]
    simp -implicitDefEqProofs [hp]
    exact hkeep
  | true =>
    simp -implicitDefEqProofs
    refine ACall.eq (rAt_ok hb hs x) ?_
    by_cases hbad : i ≤ x ∧ termE i t L x ≠ some y
    · have hp : putE i t L x y E = ((0, false), L) := by simp [putE, hst, hbad]
      obtain ⟨hix, hne⟩ := hbad
      cases hte : termE i t L x with
      | none =>
        simp -implicitDefEqProofs [hp, hix, hb]
        exact hkeep
      | some u =>
        have hu : ¬ u = y := by rintro rfl; exact hne hte
        simp -implicitDefEqProofs [hp, hu, hix, hb]
        exact hkeep
    · have hp : putE i t L x y E = putGo i t L E := by simp only [putE, hst, if_true, if_neg hbad]
      have hb2 : ∀ e ∈ E, e.i ≤ 4611686018427387904 + 3000000 := fun e he => by
        obtain ⟨j, hj⟩ := List.getElem?_of_mem he
        have h1 := standB_iff.1 hst j e hj
        have h2 := (List.getElem?_eq_some_iff.1 hj).1
        by_cases hix : i ≤ x
        · have h3 : termE i t L x = some y := Classical.byContradiction fun hn => hbad ⟨hix, hn⟩
          have := termE_le h3
          omega
        · omega
      rw [hp]
      generalize hR : putGo i t L E = R
      have hcase : (i ≤ x ∧ termE i t L x = some y) ∨ (¬ i ≤ x ∧ termE i t L x = none) ∨ ∃ u, ¬ i ≤ x ∧ termE i t L x = some u := by
        by_cases hix : i ≤ x
        · exact .inl ⟨hix, Classical.byContradiction fun hn => hbad ⟨hix, hn⟩⟩
        · cases hte : termE i t L x with
          | none => exact .inr (.inl ⟨hix, rfl⟩)
          | some u => exact .inr (.inr ⟨u, hix, rfl⟩)
      rcases hcase with ⟨hix, hte⟩ | ⟨hix, hte⟩ | ⟨u, hix, hte⟩
      all_goals
        simp -implicitDefEqProofs [hte, hix, hb]
        refine AGo.rounds (fun m ρ K => ∃ j : Nat, j ≤ E.length ∧ m = E.length - j ∧ ρ 0 = ptr b ∧ ρ 3 = rowAV E ∧ ρ 12 = i64 j ∧ putGo i t L (E.drop j) = R ∧ K = H)
          ?_ (m := E.length) (HLe.refl H) ⟨0, by omega, by omega, by simp, by simp, by simp, by simpa using hR, rfl⟩
        rintro m ρ K ih ⟨j, hj, rfl, h0, h3, h12, hgo, rfl⟩
        by_cases hlt : j < E.length
        · obtain ⟨e, hej, he⟩ := getAt hlt
          have hem : e ∈ E := List.mem_of_getElem? he
          have hf := hE _ hem
          have hbj := hb2 _ hem
          have w4 : IntKind.i64.wrap ((j : Int) + 1) = j + 1 := wrap_i64 (by omega) (by omega)
          rw [List.drop_eq_getElem_cons hlt, hej] at hgo
          simp only [putGo] at hgo
          simp -implicitDefEqProofs [h3, h12, hlt]
          refine go_draw 10 f_mixed (by decide +kernel) ?_
          simp -implicitDefEqProofs [h0, h3, h12, hb, hlt, hej]
          by_cases c1 : e.i ≤ i
          · rw [if_pos c1] at hgo
            simp -implicitDefEqProofs [c1, h12]
            exact AGo.again ih (m' := E.length - (j + 1)) (by omega) (HLe.refl _) ⟨j + 1, by omega, rfl, by simp [h0], by simp [h3], by simp [w4], hgo, rfl⟩
          · rw [if_neg c1] at hgo
            simp -implicitDefEqProofs [c1, h0, h3, h12, hlt, hej]
            refine ACall.eq (rPlace_ok hb hs e.i) ?_
            simp -implicitDefEqProofs
            refine go_draw 18 f_mixed (by decide +kernel) ?_
            have hgt : termE i t L e.i = (getE i L e.i).map Ent.t := by unfold termE; rw [if_neg (by omega)]
            obtain ⟨k, hk⟩ : ∃ k : Nat, e.i = i + 1 + k := ⟨(e.i - i - 1).toNat, by omega⟩
            have hji : (e.i - i - 1).toNat = k := by omega
            by_cases c2 : termE i t L e.i = some e.t
            · rw [if_pos c2] at hgo
              rw [hgt] at c2
              obtain ⟨z, hz, hzt⟩ := Option.map_eq_some_iff.1 c2
              obtain ⟨k', hk', hk2, hkz⟩ := placeE_some hz
              simp -implicitDefEqProofs [h0, h3, h12, hb, hlt, hej, hk', hkz, hzt]
              exact AGo.again ih (m' := E.length - (j + 1)) (by omega) (HLe.refl _) ⟨j + 1, by omega, rfl, by simp [h0], by simp [h3], by simp [w4], hgo, rfl⟩
            · rw [if_neg c2] at hgo
              have w5 : IntKind.u64.wrap (lastI i L + 1) = lastI i L + 1 := wrap_u64 (by unfold lastI; omega) (by unfold lastI; omega)
              have hw2 : (getE i L e.i = none ∧ placeE i L e.i = -1) ∨ ∃ (k' : Nat) (z : Ent), placeE i L e.i = k' ∧ L[k']? = some z ∧ ¬ z.t = e.t := by
                cases hz : getE i L e.i with
                | none => exact .inl ⟨rfl, placeE_none hz⟩
                | some z =>
                  obtain ⟨k', hk', hk2, hkz⟩ := placeE_some hz
                  exact .inr ⟨k', z, hk', hkz, fun h => c2 (by rw [hgt, hz]; simp [h])⟩
              have goon : True := trivial
              rcases hw2 with ⟨_, hpl⟩ | ⟨k', z, hpl, hkz, hzt⟩
              all_goals
                first | simp -implicitDefEqProofs [h0, h3, h12, hb, hlt, hej, hpl, hkz, hzt] | simp -implicitDefEqProofs [h0, hpl]
                refine ACall.eq (rLast_ok hb hs) ?_
                by_cases c3 : (L.length : Int) < e.i - i - 1
                · rw [if_pos c3] at hgo
                  have c3' : lastI i L + 1 < e.i := by unfold lastI; omega
                  simp -implicitDefEqProofs [h3, h12, hlt, hej, w5, c3', ← hgo]
                  exact hkeep
                · rw [if_neg c3, hji] at hgo
                  have c3' : ¬ lastI i L + 1 < e.i := by unfold lastI; omega
                  have hkl : k ≤ L.length := by omega
                  simp -implicitDefEqProofs [h3, h12, hlt, hej, w5, c3']
                  refine AGo.rounds (fun m ρ K' => ∃ (n : Nat) (tk : Tok), n ≤ k ∧ m = k - n ∧ ρ 0 = ptr b ∧ ρ 3 = rowAV E ∧ ρ 12 = i64 j ∧ ρ 17 = i64 n ∧ ρ 16 = .sl ((L.map Ent.av).take n) tk ∧ Grows K ((L.map Ent.av).take n) 3 34 tk K')
                    ?_ (m := k) (HLe.refl K) ⟨0, .nil, by omega, by omega, by simp [h0], by simp [h3], by simp [h12], by simp, by simp, by simpa using Grows.zero⟩
                  clear h0 h3 h12
                  rintro m ρ K' ih2 ⟨n, tk, hn, rfl, h0, h3, h12, h17, h16, hgr⟩
                  have hbK := hgr.le _ _ hb
                  simp -implicitDefEqProofs
                  refine go_draw 23 f_mixed (by decide +kernel) ?_
                  by_cases hnk : n < k
                  · have hnl : n < L.length := by omega
                    obtain ⟨z, hzj, hz⟩ := getAt hnl
                    have hzi := hs.idx _ _ hz
                    have c4 : z.i < e.i := by omega
                    have w6 : IntKind.i64.wrap ((n : Int) + 1) = n + 1 := wrap_i64 (by omega) (by omega)
                    have htake : (L.map Ent.av).take (n + 1) = (L.map Ent.av).take n ++ [z.av] := by
                      rw [List.take_add_one, List.getElem?_map, hz]; rfl
                    simp -implicitDefEqProofs [h0, h3, h12, h16, h17, hbK, hnl, hzj, hlt, hej, c4]
                    refine AApp.grows el_22 hgr (HLe.refl _) (by simp) (szs_take (szs_row L) _) (by simp) (by simp; omega) (by simp [maxLen]; omega) fun t' K2 Hn hg' hl' => ?_
                    simp -implicitDefEqProofs [h17, w6]
                    refine AGo.again ih2 (m' := k - (n + 1)) (by omega) hl' ⟨n + 1, t', by omega, rfl, by simp [h0], by simp [h3], by simp [h12], by simp, ?_, ?_⟩
                    · simp [htake]
                    · simpa [htake] using hg'
                  · have hnk' : n = k := by omega
                    subst hnk'
                    have fin : ∀ (tk' : Tok) (Hn : Heap), HLe K Hn → HWk (K.set b (.cells (refC i t (L.take n ++ e :: E.drop (j + 1))) T)) (Hn.set b (.cells [u64 i, u64 t, .sl ((L.map Ent.av).take n ++ (E.map Ent.av).drop j) tk'] T)) := fun tk' Hn hl' => by
                      refine HWk.sets ?_ hl'.wk
                      have : e :: E.drop (j + 1) = E.drop j := by rw [List.drop_eq_getElem_cons hlt, hej]
                      rw [this]; simp
                    have hdrop : (E.map Ent.av).drop j ≠ [] := by simp; omega
                    by_cases hnl : n < L.length
                    · obtain ⟨z, hzj, hz⟩ := getAt hnl
                      have hzi := hs.idx _ _ hz
                      have c4 : ¬ z.i < e.i := by omega
                      simp -implicitDefEqProofs [h0, h3, h12, h16, h17, hbK, hnl, hzj, hlt, hej, c4, hj]
                      refine AApp.grows el_22 hgr (HLe.refl _) hdrop (szs_take (szs_row L) _) (szs_drop (szs_row E) _) (by simp; omega) (by simp [maxLen]; omega) fun t' K2 Hn hg' hl' => ?_
                      have hbn := (hg'.le.trans hl') _ _ hb
                      simp -implicitDefEqProofs [h3, h12, hbn, hlt, hej, ← hgo]
                      exact fin _ _ (hg'.le.trans hl')
                    · simp -implicitDefEqProofs [h0, h3, h12, h16, h17, hbK, hnl, hj]
                      refine AApp.grows el_22 hgr (HLe.refl _) hdrop (szs_take (szs_row L) _) (szs_drop (szs_row E) _) (by simp; omega) (by simp [maxLen]; omega) fun t' K2 Hn hg' hl' => ?_
                      have hbn := (hg'.le.trans hl') _ _ hb
                      simp -implicitDefEqProofs [h3, h12, hbn, hlt, hej, ← hgo]
                      exact fin _ _ (hg'.le.trans hl')
        · have hjl : j = E.length := by omega
          rw [List.drop_eq_nil_of_le (by omega)] at hgo
          simp -implicitDefEqProofs [h3, h12, hlt, ← hgo, putGo]
          exact hkeep

end
end Go.Proofs.Ytdcblangeonhpaa
