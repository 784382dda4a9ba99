/- What a log does when entries are put. -/
import Derived.Test.YtdcblangeonhpaaCc
namespace Go.Proofs.Ytdcblangeonhpaa
open Rg Go

def putGo (i t : Int) (L : List Ent) : List Ent → (Int × Bool) × List Ent
  | [] => ((0, true), L)
  | x :: r =>
    if x.i ≤ i then putGo i t L r
    else if termE i t L x.i = some x.t then putGo i t L r
    else if (L.length : Int) < x.i - i - 1 then ((0, false), L)
    else ((x.i, true), L.take (x.i - i - 1).toNat ++ x :: r)

def putE (i t : Int) (L : List Ent) (x y : Int) (E : List Ent) : (Int × Bool) × List Ent :=
  if standB x E = true then (if i ≤ x ∧ termE i t L x ≠ some y then ((0, false), L) else putGo i t L E) else ((0, false), L)

theorem termE_le {i t : Int} {L : List Ent} {x u : Int} (h : termE i t L x = some u) : i ≤ x ∧ x ≤ i + L.length := by
  unfold termE at h
  split at h
  · omega
  · unfold getE at h
    split at h
    · cases h
    · obtain ⟨e, he, _⟩ := Option.map_eq_some_iff.1 h
      have := (List.getElem?_eq_some_iff.1 he).1
      omega

section
variable {H : Heap} {b : Nat} {i t : Int} {L : List Ent} {T : TypeId}

theorem put_ok (hb : H b = some (.cells (logC i t L) T)) (hs : St i t L) (x y : Int) (hx : 0 ≤ x ∧ x ≤ 18446744073709551615) (E : List Ent) (hE : Fits E) (hsE : Slim E) (hl : E.length ≤ 1000000) :
    AOk Try.prog 11 [ptr b, u64 x, u64 y, rowAV E] H (.tup [u64 (putE i t L x y E).1.1, boolV (putE i t L x y E).1.2]) (H.set b (.cells (logC i t (putE i t L x y E).2) T)) := by
  have hL := hs.len
  have hi0 := hs.i0
  have hi1 := hs.i1
  have hkeep : HWk (H.set b (.cells (logC i t L) T)) H := HWk.at_ hb (by simp) (HWk.refl H)
  refine ACalls.into Try.func11 rfl Try.ntmps11 Try.results11 (by simp) ?_
  simp -implicitDefEqProofs
  refine ACall.eq (there_ok hb) ?_
  simp -implicitDefEqProofs
  refine ACall.eq (row_ok x hx E hE (by omega)) ?_
  cases hst : standB x E with
  | false =>
    have hp : putE i t L x y E = ((0, false), L) := by simp [putE, hst]
    simp -implicitDefEqProofs [hb, hp]
    exact hkeep
  | true =>
    have hbound : (i ≤ x ∧ termE i t L x ≠ some y) ∨ ∀ e ∈ E, e.i ≤ 4611686018427387904 + 3000000 := by
      by_cases h : i ≤ x ∧ termE i t L x ≠ some y
      · exact .inl h
      · refine .inr fun e he => ?_
        obtain ⟨j, hj⟩ := List.getElem?_of_mem he
        have h1 := standB_iff.1 hst j e hj
        have h2 := (List.getElem?_eq_some_iff.1 hj).1
        by_cases hix : i ≤ x
        · have h3 : termE i t L x = some y := by
            refine Classical.byContradiction fun hn => h ⟨hix, hn⟩
          have := termE_le h3
          omega
        · omega
    simp -implicitDefEqProofs [hb]
    by_cases hbad : i ≤ x ∧ termE i t L x ≠ some y
    · have hp : putE i t L x y E = ((0, false), L) := by simp [putE, hst, hbad]
      obtain ⟨hix, hne⟩ := hbad
      simp -implicitDefEqProofs [hix]
      refine ACall.eq (term_ok hb hs x hx) ?_
      cases hte : termE i t L x with
      | none =>
        simp -implicitDefEqProofs [hp]
        exact hkeep
      | some u =>
        have hu : ¬ u = y := by rintro rfl; exact hne hte
        simp -implicitDefEqProofs [hp, hu]
        exact hkeep
    · have hb2 : ∀ e ∈ E, e.i ≤ 4611686018427387904 + 3000000 := hbound.resolve_left hbad
      have hp : putE i t L x y E = putGo i t L E := by simp only [putE, hst, if_true, if_neg hbad]
      rw [hp]
      generalize hR : putGo i t L E = R
      by_cases hix : i ≤ x
      · have hte : termE i t L x = some y := Classical.byContradiction fun hn => hbad ⟨hix, hn⟩
        simp -implicitDefEqProofs [hix]
        refine ACall.eq (term_ok hb hs x hx) ?_
        simp -implicitDefEqProofs [hte]
        refine AGo.rounds (fun m ρ K => ∃ j : Nat, j ≤ E.length ∧ m = E.length - j ∧ ρ 0 = ptr b ∧ ρ 3 = rowAV E ∧ ρ 45 = rowAV E ∧ ρ 46 = .sc (.int .i64 E.length) ∧ ρ 47 = .sc (.int .i64 j) ∧ putGo i t L (E.drop j) = R ∧ K = H)
          ?_ (m := E.length) (HLe.refl H) ⟨0, by omega, by omega, by simp, by simp, by simp, by simp, by simp, by simpa using hR, rfl⟩
        rintro m ρ K ih ⟨j, hj, rfl, h0, h3, h45, h46, h47, hgo, rfl⟩
        by_cases hlt : j < E.length
        · have hem : E[j] ∈ E := List.getElem_mem hlt
          have hf := hE _ hem
          have hbj := hb2 _ hem
          rw [List.drop_eq_getElem_cons hlt] at hgo
          simp only [putGo] at hgo
          simp -implicitDefEqProofs [h0, h3, h45, h46, h47, hlt]
          refine AAlloc.intro fun c hc => ?_
          have n12 : c ≠ b := by rintro rfl; simp [hb] at hc
          have n21 := n12.symm
          simp -implicitDefEqProofs [h0]
          refine go_draw 7 f_mixed (by decide +kernel) ?_
          simp -implicitDefEqProofs [h0, hb, n12, n21]
          by_cases c1 : E[j].i ≤ i
          · rw [if_pos c1] at hgo
            simp -implicitDefEqProofs [c1, h47]
            refine AGo.again ih (m' := E.length - (j + 1)) (by omega) (HLe.set_fresh hc) ⟨j + 1, by omega, rfl, by simp [h0], by simp [h3], by simp [h45], by simp [h46], ?_, hgo, rfl⟩
            simp
            rw [wrap_i64 (by omega) (by omega)]
          · rw [if_neg c1] at hgo
            simp -implicitDefEqProofs [c1, h0, hb, n12, n21]
            refine ACall.eq (term_ok (T := T) (by simp [hb, n21]) hs E[j].i hf.1) ?_
            by_cases c2 : termE i t L E[j].i = some E[j].t
            · rw [if_pos c2] at hgo
              simp -implicitDefEqProofs [c2, h47]
              refine AGo.again ih (m' := E.length - (j + 1)) (by omega) (HLe.set_fresh hc) ⟨j + 1, by omega, rfl, by simp [h0], by simp [h3], by simp [h45], by simp [h46], ?_, hgo, rfl⟩
              simp
              rw [wrap_i64 (by omega) (by omega)]
            · rw [if_neg c2] at hgo
              obtain ⟨k, hk⟩ : ∃ k : Nat, E[j].i = i + 1 + k := ⟨(E[j].i - i - 1).toNat, by omega⟩
              have hw1 : IntKind.u64.wrap (E[j].i - i) = (k : Int) + 1 := by rw [wrap_u64 (by omega) (by omega)]; omega
              have hw3 : IntKind.u64.wrap (k : Int) = (k : Int) := wrap_u64 (by omega) (by omega)
              have hw4 : IntKind.i64.wrap (k : Int) = (k : Int) := wrap_i64 (by omega) (by omega)
              cases hte : termE i t L E[j].i with
              | none =>
                simp -implicitDefEqProofs [hte, h0, hb, n12, n21]
                refine go_draw 10 f_mixed (by decide +kernel) ?_
                simp -implicitDefEqProofs [h0, hb, n12, n21, hw1, hw3, hw4]
                by_cases c3 : L.length < k
                · rw [if_pos (by omega)] at hgo
                  simp -implicitDefEqProofs [c3, ← hgo]
                  exact hkeep.new (by simp [n12, hc])
                · rw [if_neg (by omega)] at hgo
                  simp -implicitDefEqProofs [c3]
                  have hkl : k ≤ L.length := by omega
                  have hjl : j ≤ E.length := by omega
                  refine go_draw 15 f_mixed (by decide +kernel) ?_
                  simp -implicitDefEqProofs [h0, h3, hb, n12, n21, hkl, hjl]
                  refine AQS.ok (args' := [rowAV (E.drop j)]) (clones_row _ (fun e he => hsE e (List.mem_of_mem_drop he)) (by simp; omega) _) (by simp) ?_
                  simp -implicitDefEqProofs [h0, hb, n12, n21]
                  refine AQS.app el_22 (.inl (.inr rfl)) (szs_take (szs_row L) k) (szs_drop (szs_row E) j) (by simp; omega) (by simp [maxLen]; omega) ?_
                  simp -implicitDefEqProofs [h0, hb, n12, n21, ← hgo]
                  refine (HWk.sets ?_ ((HWk.refl K).new hc))
                  rw [show (E[j].i - i).toNat - 1 = k by omega]
                  simp
              | some v =>
                have hv : ¬ v = E[j].t := by rintro rfl; exact c2 hte
                simp -implicitDefEqProofs [hte, h0, hb, n12, n21, hv]
                refine go_draw 10 f_mixed (by decide +kernel) ?_
                simp -implicitDefEqProofs [h0, hb, n12, n21, hw1, hw3, hw4]
                by_cases c3 : L.length < k
                · rw [if_pos (by omega)] at hgo
                  simp -implicitDefEqProofs [c3, ← hgo]
                  exact hkeep.new (by simp [n12, hc])
                · rw [if_neg (by omega)] at hgo
                  simp -implicitDefEqProofs [c3]
                  have hkl : k ≤ L.length := by omega
                  have hjl : j ≤ E.length := by omega
                  refine go_draw 15 f_mixed (by decide +kernel) ?_
                  simp -implicitDefEqProofs [h0, h3, hb, n12, n21, hkl, hjl]
                  refine AQS.ok (args' := [rowAV (E.drop j)]) (clones_row _ (fun e he => hsE e (List.mem_of_mem_drop he)) (by simp; omega) _) (by simp) ?_
                  simp -implicitDefEqProofs [h0, hb, n12, n21]
                  refine AQS.app el_22 (.inl (.inr rfl)) (szs_take (szs_row L) k) (szs_drop (szs_row E) j) (by simp; omega) (by simp [maxLen]; omega) ?_
                  simp -implicitDefEqProofs [h0, hb, n12, n21, ← hgo]
                  refine (HWk.sets ?_ ((HWk.refl K).new hc))
                  rw [show (E[j].i - i).toNat - 1 = k by omega]
                  simp
        · have hjl : j = E.length := by omega
          rw [List.drop_eq_nil_of_le (by omega)] at hgo
          simp -implicitDefEqProofs [h0, h3, h45, h46, h47, hlt, ← hgo, putGo]
          exact hkeep
      · simp -implicitDefEqProofs [hix]
        refine AGo.rounds (fun m ρ K => ∃ j : Nat, j ≤ E.length ∧ m = E.length - j ∧ ρ 0 = ptr b ∧ ρ 3 = rowAV E ∧ ρ 45 = rowAV E ∧ ρ 46 = .sc (.int .i64 E.length) ∧ ρ 47 = .sc (.int .i64 j) ∧ putGo i t L (E.drop j) = R ∧ K = H)
          ?_ (m := E.length) (HLe.refl H) ⟨0, by omega, by omega, by simp, by simp, by simp, by simp, by simp, by simpa using hR, rfl⟩
        rintro m ρ K ih ⟨j, hj, rfl, h0, h3, h45, h46, h47, hgo, rfl⟩
        by_cases hlt : j < E.length
        · have hem : E[j] ∈ E := List.getElem_mem hlt
          have hf := hE _ hem
          have hbj := hb2 _ hem
          rw [List.drop_eq_getElem_cons hlt] at hgo
          simp only [putGo] at hgo
          simp -implicitDefEqProofs [h0, h3, h45, h46, h47, hlt]
          refine AAlloc.intro fun c hc => ?_
          have n12 : c ≠ b := by rintro rfl; simp [hb] at hc
          have n21 := n12.symm
          simp -implicitDefEqProofs [h0]
          refine go_draw 7 f_mixed (by decide +kernel) ?_
          simp -implicitDefEqProofs [h0, hb, n12, n21]
          by_cases c1 : E[j].i ≤ i
          · rw [if_pos c1] at hgo
            simp -implicitDefEqProofs [c1, h47]
            refine AGo.again ih (m' := E.length - (j + 1)) (by omega) (HLe.set_fresh hc) ⟨j + 1, by omega, rfl, by simp [h0], by simp [h3], by simp [h45], by simp [h46], ?_, hgo, rfl⟩
            simp
            rw [wrap_i64 (by omega) (by omega)]
          · rw [if_neg c1] at hgo
            simp -implicitDefEqProofs [c1, h0, hb, n12, n21]
            refine ACall.eq (term_ok (T := T) (by simp [hb, n21]) hs E[j].i hf.1) ?_
            by_cases c2 : termE i t L E[j].i = some E[j].t
            · rw [if_pos c2] at hgo
              simp -implicitDefEqProofs [c2, h47]
              refine AGo.again ih (m' := E.length - (j + 1)) (by omega) (HLe.set_fresh hc) ⟨j + 1, by omega, rfl, by simp [h0], by simp [h3], by simp [h45], by simp [h46], ?_, hgo, rfl⟩
              simp
              rw [wrap_i64 (by omega) (by omega)]
            · rw [if_neg c2] at hgo
              obtain ⟨k, hk⟩ : ∃ k : Nat, E[j].i = i + 1 + k := ⟨(E[j].i - i - 1).toNat, by omega⟩
              have hw1 : IntKind.u64.wrap (E[j].i - i) = (k : Int) + 1 := by rw [wrap_u64 (by omega) (by omega)]; omega
              have hw3 : IntKind.u64.wrap (k : Int) = (k : Int) := wrap_u64 (by omega) (by omega)
              have hw4 : IntKind.i64.wrap (k : Int) = (k : Int) := wrap_i64 (by omega) (by omega)
              cases hte : termE i t L E[j].i with
              | none =>
                simp -implicitDefEqProofs [hte, h0, hb, n12, n21]
                refine go_draw 10 f_mixed (by decide +kernel) ?_
                simp -implicitDefEqProofs [h0, hb, n12, n21, hw1, hw3, hw4]
                by_cases c3 : L.length < k
                · rw [if_pos (by omega)] at hgo
                  simp -implicitDefEqProofs [c3, ← hgo]
                  exact hkeep.new (by simp [n12, hc])
                · rw [if_neg (by omega)] at hgo
                  simp -implicitDefEqProofs [c3]
                  have hkl : k ≤ L.length := by omega
                  have hjl : j ≤ E.length := by omega
                  refine go_draw 15 f_mixed (by decide +kernel) ?_
                  simp -implicitDefEqProofs [h0, h3, hb, n12, n21, hkl, hjl]
                  refine AQS.ok (args' := [rowAV (E.drop j)]) (clones_row _ (fun e he => hsE e (List.mem_of_mem_drop he)) (by simp; omega) _) (by simp) ?_
                  simp -implicitDefEqProofs [h0, hb, n12, n21]
                  refine AQS.app el_22 (.inl (.inr rfl)) (szs_take (szs_row L) k) (szs_drop (szs_row E) j) (by simp; omega) (by simp [maxLen]; omega) ?_
                  simp -implicitDefEqProofs [h0, hb, n12, n21, ← hgo]
                  refine (HWk.sets ?_ ((HWk.refl K).new hc))
                  rw [show (E[j].i - i).toNat - 1 = k by omega]
                  simp
              | some v =>
                have hv : ¬ v = E[j].t := by rintro rfl; exact c2 hte
                simp -implicitDefEqProofs [hte, h0, hb, n12, n21, hv]
                refine go_draw 10 f_mixed (by decide +kernel) ?_
                simp -implicitDefEqProofs [h0, hb, n12, n21, hw1, hw3, hw4]
                by_cases c3 : L.length < k
                · rw [if_pos (by omega)] at hgo
                  simp -implicitDefEqProofs [c3, ← hgo]
                  exact hkeep.new (by simp [n12, hc])
                · rw [if_neg (by omega)] at hgo
                  simp -implicitDefEqProofs [c3]
                  have hkl : k ≤ L.length := by omega
                  have hjl : j ≤ E.length := by omega
                  refine go_draw 15 f_mixed (by decide +kernel) ?_
                  simp -implicitDefEqProofs [h0, h3, hb, n12, n21, hkl, hjl]
                  refine AQS.ok (args' := [rowAV (E.drop j)]) (clones_row _ (fun e he => hsE e (List.mem_of_mem_drop he)) (by simp; omega) _) (by simp) ?_
                  simp -implicitDefEqProofs [h0, hb, n12, n21]
                  refine AQS.app el_22 (.inl (.inr rfl)) (szs_take (szs_row L) k) (szs_drop (szs_row E) j) (by simp; omega) (by simp [maxLen]; omega) ?_
                  simp -implicitDefEqProofs [h0, hb, n12, n21, ← hgo]
                  refine (HWk.sets ?_ ((HWk.refl K).new hc))
                  rw [show (E[j].i - i).toNat - 1 = k by omega]
                  simp
        · have hjl : j = E.length := by omega
          rw [List.drop_eq_nil_of_le (by omega)] at hgo
          simp -implicitDefEqProofs [h0, h3, h45, h46, h47, hlt, ← hgo, putGo]
          exact hkeep

end
end Go.Proofs.Ytdcblangeonhpaa
