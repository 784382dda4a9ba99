/- Whether entries stand one behind the other; what a log does to its entries. -/
import Derived.Test.YtdcblangeonhpaaCb
namespace Go.Proofs.Ytdcblangeonhpaa
open Rg Go

def standB : Int → List Ent → Bool
  | _, [] => true
  | i, e :: l => decide (e.i = i + 1) && standB (i + 1) l

theorem standB_iff : ∀ {i : Int} {L : List Ent}, standB i L = true ↔ ∀ (j : Nat) (e : Ent), L[j]? = some e → e.i = i + j + 1
  | i, [] => by simp [standB]
  | i, e :: l => by
    simp only [standB, Bool.and_eq_true, decide_eq_true_eq, standB_iff (i := i + 1) (L := l)]
    constructor
    · rintro ⟨h1, h2⟩ j x hx
      cases j with
      | zero => simp at hx; subst hx; simpa using h1
      | succ j => have := h2 j x (by simpa using hx); rw [this]; simp; omega
    · intro h
      refine ⟨by simpa using h 0 e rfl, fun j x hx => ?_⟩
      have := h (j + 1) x (by simpa using hx)
      rw [this]; simp; omega

/-- Numbers that fit. -/
def Fits (L : List Ent) : Prop := ∀ e ∈ L, (0 ≤ e.i ∧ e.i ≤ 18446744073709551615) ∧ 0 ≤ e.t ∧ e.t ≤ 18446744073709551615

section
variable {H : Heap} {b : Nat} {i t : Int} {L : List Ent} {T : TypeId}

theorem row_ok (x : Int) (hx : 0 ≤ x ∧ x ≤ 18446744073709551615) (E : List Ent) (hE : Fits E) (hl : E.length ≤ 1000000000) : AOk Try.prog 31 [u64 x, rowAV E] H (boolV (standB x E)) H := by
  refine ACalls.into Try.func31 rfl Try.ntmps31 Try.results31 (by simp) ?_
  simp -implicitDefEqProofs
  refine AGo.rounds (fun m ρ K => ∃ j : Nat, j ≤ E.length ∧ m = E.length - j ∧ ρ 7 = rowAV E ∧ ρ 8 = .sc (.int .i64 E.length) ∧ ρ 9 = .sc (.int .i64 j) ∧ ρ 0 = u64 (x + j) ∧ x + j ≤ 18446744073709551615 ∧ standB x E = standB (x + j) (E.drop j) ∧ K = H)
    ?_ (m := E.length) (HLe.refl H) ⟨0, by omega, by omega, by simp, by simp, by simp, by simp, by omega, by simp, rfl⟩
  rintro m ρ K ih ⟨j, hj, rfl, h7, h8, h9, h0, hb, hst, rfl⟩
  by_cases hlt : j < E.length
  · have hem : E[j] ∈ E := List.getElem_mem hlt
    have hf := hE _ hem
    rw [List.drop_eq_getElem_cons hlt] at hst
    simp only [standB] at hst
    simp -implicitDefEqProofs [h7, h8, h9, h0, hlt]
    refine AAlloc.intro fun b hbn => ?_
    by_cases he : E[j].i = x + j + 1
    · have hw : IntKind.u64.wrap (x + (j : Int) + 1) = x + j + 1 := wrap_u64 (by omega) (by omega)
      have hz : ¬ (x + (j : Int) + 1 = 0) := by omega
      simp -implicitDefEqProofs [h0, hw, he, hz, h9]
      refine AGo.again ih (m' := E.length - (j + 1)) (by omega) (HLe.set_fresh hbn) ⟨j + 1, by omega, rfl, by simp [h7], by simp [h8], ?_, ?_, by omega, ?_, rfl⟩
      · simp
        rw [wrap_i64 (by omega) (by omega)]
      · simp [Int.add_assoc]
      · rw [hst]; simp [he, Int.add_assoc]
    · rw [hst]
      by_cases hmax : x + (j : Int) + 1 ≤ 18446744073709551615
      · have hw : IntKind.u64.wrap (x + (j : Int) + 1) = x + j + 1 := wrap_u64 (by omega) (by omega)
        simp -implicitDefEqProofs [h0, hw, he]
        exact (HWk.refl _).new hbn
      · have hw : IntKind.u64.wrap (x + (j : Int) + 1) = 0 := by rw [show x + (j : Int) + 1 = 18446744073709551616 by omega]; rfl
        by_cases hz : E[j].i = 0
        · simp -implicitDefEqProofs [h0, hw, he, hz]
          exact ⟨fun h => by omega, (HWk.refl _).new hbn⟩
        · simp -implicitDefEqProofs [h0, hw, he, hz]
          exact (HWk.refl _).new hbn
  · have hjl : j = E.length := by omega
    rw [hst, List.drop_eq_nil_of_le (by omega)]
    simp -implicitDefEqProofs [h7, h8, h9, hlt, standB]

theorem clone_row (hs : L.length ≤ 1000000000) : AOk Try.prog 35 [rowAV L] H (rowAV L) H := by
  refine ACalls.nilCase (pre := []) (post := []) (fun h => ?_) ?_
  · simp only [List.map_eq_nil_iff] at h; subst h
    refine ACalls.into Try.func35 rfl Try.ntmps35 Try.results35 (by simp) ?_
    simp -implicitDefEqProofs [Tok.isNil]
  · refine ACalls.into Try.func35 rfl Try.ntmps35 Try.results35 (by simp) ?_
    simp -implicitDefEqProofs [Tok.isNil]
    refine AApp.no el_22 (.inl (.inr rfl)) (by simp) (by simp) (by simp; omega) (by simp [maxLen]; omega) ?_
    simp -implicitDefEqProofs

theorem clip_ok : AOk Try.prog 37 [rowAV L] H (.sl (L.map Ent.av) .full) H := by
  refine ACalls.into Try.func37 rfl Try.ntmps37 Try.results37 (by simp) ?_
  simp -implicitDefEqProofs

theorem newer_ok (hb : H b = some (.cells (logC i t L) T)) (hs : St i t L) (x y : Int) : AOk Try.prog 21 [ptr b, u64 x, u64 y] H (boolV (decide (lastT t L < y) || (decide (y = lastT t L) && decide (lastI i L ≤ x)))) H := by
  refine ACalls.into Try.func21 rfl Try.ntmps21 Try.results21 (by simp) ?_
  simp -implicitDefEqProofs
  refine ACall.eq (there_ok hb) ?_
  simp -implicitDefEqProofs
  refine ACall.eq (last_ok hb hs) ?_
  simp -implicitDefEqProofs
  by_cases h1 : lastT t L < y
  · simp -implicitDefEqProofs [h1]
  · by_cases h2 : y = lastT t L
    · simp -implicitDefEqProofs [h1, h2]
    · simp -implicitDefEqProofs [h1, h2]

theorem reset_ok (hb : H b = some (.cells (logC i t L) T)) (x y : Int) : AOk Try.prog 28 [ptr b, u64 x, u64 y] H (.tup []) (H.set b (.cells (logC x y []) T)) := by
  refine ACalls.into Try.func28 rfl Try.ntmps28 Try.results28 (by simp) ?_
  simp -implicitDefEqProofs
  refine ACall.eq (there_ok hb) ?_
  simp -implicitDefEqProofs [hb]
  exact HWk.sets (by simp) (HWk.refl _)

theorem copy_ok (hb : H b = some (.cells (logC i t L) T)) (hs : St i t L) : ACalls Try.prog 17 [ptr b] H (fun r K => ∃ c, H c = none ∧ r = ptr c ∧ K = H.set c (.cells (logC i t L) 61)) := by
  refine ACalls.into Try.func17 rfl Try.ntmps17 Try.results17 (by simp) ?_
  simp -implicitDefEqProofs
  refine ACall.eq (there_ok hb) ?_
  simp -implicitDefEqProofs [hb]
  refine AAlloc.intro fun c hc => ?_
  have n12 : c ≠ b := by rintro rfl; simp [hb] at hc
  have n21 := n12.symm
  simp -implicitDefEqProofs [hb, n12, n21]
  have hl := hs.len
  refine ACall.eq (clone_row (L := L) (by omega)) ?_
  simp -implicitDefEqProofs
  exact AFin.intro _ _ (wk_refl _) (HWk.refl _) ⟨c, hc, rfl, rfl⟩

theorem new_bad (hE : Fits L) (hl : L.length ≤ 1000000000) (hi : 0 ≤ i ∧ i ≤ 18446744073709551615) (h : standB i L = false) : AOk Try.prog 10 [u64 i, u64 t, rowAV L] H (.tup [.sc (.pointer none), i64 2]) H := by
  refine ACalls.into Try.func10 rfl Try.ntmps10 Try.results10 (by simp) ?_
  simp -implicitDefEqProofs
  refine ACall.eq (row_ok i hi L hE hl) ?_
  simp -implicitDefEqProofs [h]

theorem new_ok (hE : Fits L) (hs : Slim L) (hl : L.length ≤ 1000000000) (hi : 0 ≤ i ∧ i ≤ 18446744073709551615) (h : standB i L = true) :
    ACalls Try.prog 10 [u64 i, u64 t, rowAV L] H (fun r K => ∃ c, H c = none ∧ r = .tup [ptr c, i64 0] ∧ K = H.set c (.cells (logC i t L) 61)) := by
  refine ACalls.into Try.func10 rfl Try.ntmps10 Try.results10 (by simp) ?_
  simp -implicitDefEqProofs
  refine ACall.eq (row_ok i hi L hE hl) ?_
  simp -implicitDefEqProofs [h]
  refine ACall.eq (clones_row L hs hl _) ?_
  simp -implicitDefEqProofs
  refine AAlloc.intro fun c hc => ?_
  simp -implicitDefEqProofs
  exact AFin.intro _ _ (wk_refl _) (HWk.refl _) ⟨c, hc, rfl, rfl⟩

theorem append_ok (hb : H b = some (.cells (logC i t L) T)) (hs : St i t L) (y : Int) (bd : List UInt8) (hbd : bd.length ≤ 1000000000) :
    AOk Try.prog 24 [ptr b, u64 y, bodyAV bd] H (Ent.av ⟨lastI i L + 1, y, bd⟩) (H.set b (.cells (logC i t (L ++ [⟨lastI i L + 1, y, bd⟩])) T)) := by
  refine ACalls.into Try.func24 rfl Try.ntmps24 Try.results24 (by simp) ?_
  have hl := hs.len
  have hi0 := hs.i0
  have hi1 := hs.i1
  have hw : IntKind.u64.wrap (lastI i L + 1) = lastI i L + 1 := wrap_u64 (by unfold lastI; omega) (by unfold lastI; omega)
  simp -implicitDefEqProofs
  refine AAlloc.intro fun c hc => ?_
  have n12 : c ≠ b := by rintro rfl; simp [hb] at hc
  have n21 := n12.symm
  simp -implicitDefEqProofs
  refine ACall.eq (there_ok (i := i) (t := t) (L := L) (T := T) (by simp [hb, n21])) ?_
  simp -implicitDefEqProofs
  refine ACall.eq (last_ok (T := T) (by simp [hb, n21]) hs) ?_
  simp -implicitDefEqProofs [hw]
  refine ACall.eq (clone_bytes bd hbd _) ?_
  simp -implicitDefEqProofs [hw]
  refine AAlloc.intro fun d hd => ?_
  have m12 : d ≠ b := by rintro rfl; simp [n21, hb] at hd
  have m21 := m12.symm
  have m32 : d ≠ c := by rintro rfl; simp at hd
  have m23 := m32.symm
  simp -implicitDefEqProofs [hb, n12, n21, m12, m21, m23, m32]
  refine go_draw 11 f_mixed (by decide +kernel) ?_
  simp -implicitDefEqProofs [hb, n12, n21, m12, m21, m23, m32]
  refine AQS.eq clip_ok ?_
  simp -implicitDefEqProofs [hb, n12, n21, m12, m21, m23, m32]
  refine AQS.app el_22 (.inl (.inr rfl)) (by simp) (by simp) (by simp; omega) (by simp [maxLen]; omega) ?_
  simp -implicitDefEqProofs [hb, n12, n21, m12, m21, m23, m32]
  refine ACall.eq (clone_ent ⟨lastI i L + 1, y, bd⟩ hbd _) ?_
  simp -implicitDefEqProofs [hb, n12, n21, m12, m21, m23, m32]
  have hd : H d = none := by simpa [m32] using hd
  exact (HWk.sets (by simp) (((HWk.refl H).new hc).new hd)).new (by simp [n12, hc])

theorem compact_none (hb : H b = some (.cells (logC i t L) T)) (hs : St i t L) (x : Int) (hx : 0 ≤ x ∧ x ≤ 18446744073709551615) (h : termE i t L x = none) : AOk Try.prog 19 [ptr b, u64 x] H (i64 5) H := by
  refine ACalls.into Try.func19 rfl Try.ntmps19 Try.results19 (by simp) ?_
  simp -implicitDefEqProofs
  refine ACall.eq (there_ok hb) ?_
  simp -implicitDefEqProofs
  refine ACall.eq (term_ok hb hs x hx) ?_
  simp -implicitDefEqProofs [h]

theorem compact_ok (hb : H b = some (.cells (logC i t L) T)) (hs : St i t L) (x : Int) (hx : 0 ≤ x ∧ x ≤ 18446744073709551615) {u : Int} (h : termE i t L x = some u) :
    AOk Try.prog 19 [ptr b, u64 x] H (i64 0) (H.set b (.cells (logC x u (L.drop (x - i).toNat)) T)) := by
  refine ACalls.into Try.func19 rfl Try.ntmps19 Try.results19 (by simp) ?_
  have hl := hs.len
  obtain ⟨k, hk, hkl⟩ : ∃ k : Nat, x = i + k ∧ k ≤ L.length := by
    unfold termE at h
    split at h
    · exact ⟨0, by omega, by omega⟩
    · unfold getE at h
      split at h
      · cases h
      · obtain ⟨e, he, _⟩ := Option.map_eq_some_iff.1 h
        have := (List.getElem?_eq_some_iff.1 he).1
        exact ⟨(x - i).toNat, by omega, by omega⟩
  have hw : IntKind.u64.wrap (x - i) = (k : Int) := by rw [wrap_u64 (by omega) (by omega)]; omega
  have hk2 : (x - i).toNat = k := by omega
  simp -implicitDefEqProofs
  refine ACall.eq (there_ok hb) ?_
  simp -implicitDefEqProofs
  refine ACall.eq (term_ok hb hs x hx) ?_
  simp -implicitDefEqProofs [h]
  refine go_draw 15 f_mixed (by decide +kernel) ?_
  simp -implicitDefEqProofs [hb, hw, hkl]
  refine AQS.ok (args' := [rowAV (L.drop k)]) (clone_row (by simp; omega)) (by simp) ?_
  simp -implicitDefEqProofs [hb, hk2]
  exact HWk.sets (by simp) (HWk.refl H)

end
end Go.Proofs.Ytdcblangeonhpaa
