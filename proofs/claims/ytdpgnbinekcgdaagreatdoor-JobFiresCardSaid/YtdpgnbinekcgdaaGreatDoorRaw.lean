/- A row turned round in place. -/
import Derived.Test.YtdpgnbinekcgdaaGreatDoorCal
import Derived.Test.YtdpgnbinekcgdaaGreatDoorRgU
namespace Go.Proofs.YtdpgnbinekcgdaaGreatDoor
open Rg Go

theorem i64_lies (z : Int) : (i64 z).lies = true := rfl
theorem i64_cells (z : Int) : (i64 z).cells = [i64 z] := rfl

variable {H : Heap}

/-- The list with the first i, and the last i, of it exchanged. -/
def Turned (L M : List Int) (i : Nat) : Prop :=
  M.length = L.length ∧ ∀ k, k < L.length → M[k]? = if k < i ∨ L.length ≤ k + i then L[L.length - 1 - k]? else L[k]?
theorem Turned.zero (L : List Int) : Turned L L 0 := ⟨rfl, fun k hk => by rw [if_neg (by omega)]⟩
theorem Turned.step {L M : List Int} {i j : Nat} (h : Turned L M i) (hij : i < j) (hj : i + j + 1 = L.length) {x y : Int} (hx : M[i]? = some x) (hy : M[j]? = some y) : Turned L ((M.set i y).set j x) (i + 1) := by
  refine ⟨by simp [h.1], fun k hk => ?_⟩
  have hM := h.1
  have hi := h.2 i (by omega)
  have hj' := h.2 j (by omega)
  rw [if_neg (by omega), hx] at hi
  rw [if_neg (by omega), hy] at hj'
  by_cases k1 : k = j
  · subst k1
    rw [List.getElem?_set_self (by simp; omega), if_pos (by omega), show L.length - 1 - k = i by omega, hi]
  · rw [List.getElem?_set_ne (by omega)]
    by_cases k2 : k = i
    · subst k2
      rw [List.getElem?_set_self (by omega), if_pos (by omega), show L.length - 1 - k = j by omega, hj']
    · rw [List.getElem?_set_ne (by omega), h.2 k hk]
      by_cases k3 : k < i ∨ L.length ≤ k + i
      · rw [if_pos k3, if_pos (by omega)]
      · rw [if_neg k3, if_neg (by omega)]
theorem Turned.fin {L M : List Int} {i : Nat} (h : Turned L M i) (hi : L.length ≤ 2 * i + 1) : M = L.reverse := by
  apply List.ext_getElem?
  intro k
  by_cases hk : k < L.length
  · rw [h.2 k hk, List.getElem?_reverse hk]
    by_cases h2 : k < i ∨ L.length ≤ k + i
    · rw [if_pos h2]
    · rw [if_neg h2, show L.length - 1 - k = k by omega]
  · rw [List.getElem?_eq_none (by rw [h.1]; omega), List.getElem?_eq_none (by simp; omega)]

set_option maxHeartbeats 1000000 in
theorem c_reverse_nil : AOk Tryz.prog 66 [.sc (.slice none 0 0)] H (.tup []) H := by
  have hw : IntKind.i64.wrap (-1) = -1 := by decide
  refine ACalls.into Tryz.func66 rfl Tryz.ntmps66 Tryz.results66 (by simp) ?_
  simp -implicitDefEqProofs [hw]
  refine AGo.rounds (fun _ ρ K => ρ 2 = .sc (.int .i64 0) ∧ ρ 3 = .sc (.int .i64 (-1)) ∧ K = H) ?_ (m := 0) (HLe.refl _) ⟨by simp, by simp, rfl⟩
  rintro m ρ K _ ⟨r2, r3, rfl⟩
  simp -implicitDefEqProofs [r2, r3]
set_option maxHeartbeats 2000000 in
theorem c_reverse {g : Nat} {L : List Int} {zs : List AV} {cap : Nat} (hg : H g = some (.cells (L.map i64 ++ zs) 2)) (hL : L.length ≤ 1000000) :
    AOk Tryz.prog 66 [.sc (.slice (some ⟨g, 0, none⟩) L.length cap)] H (.tup []) (H.set g (.cells (L.reverse.map i64 ++ zs) 2)) := by
  obtain ⟨N, hN⟩ : ∃ N, L.length = N := ⟨_, rfl⟩
  have hw : IntKind.i64.wrap ((N : Int) - 1) = (N : Int) - 1 := wrap_i64 (by omega) (by omega)
  rw [hN]
  refine ACalls.into Tryz.func66 rfl Tryz.ntmps66 Tryz.results66 (by simp) ?_
  simp -implicitDefEqProofs [hw]
  refine AGo.rounds (fun m ρ K => ∃ (i : Nat) (M : List Int), m = N - i ∧ 2 * i ≤ N ∧ Turned L M i ∧ ρ 0 = .sc (.slice (some ⟨g, 0, none⟩) N cap) ∧ ρ 2 = .sc (.int .i64 i) ∧ ρ 3 = .sc (.int .i64 ((N : Int) - 1 - i)) ∧ K = H.set g (.cells (M.map i64 ++ zs) 2)) ?_ (m := N) (HLe.refl _)
    ⟨0, L, by omega, by omega, Turned.zero L, by simp, by simp, by simp, by funext c; simp only [Heap.set]; split <;> simp_all⟩
  rintro m ρ K ih ⟨i, M, rfl, hi, hT, r0, r2, r3, rfl⟩
  have hM := hT.1
  by_cases hlt : (i : Int) < (N : Int) - 1 - i
  · obtain ⟨j, hj⟩ : ∃ j, i + j + 1 = N := ⟨N - 1 - i, by omega⟩
    have ej : (N : Int) - 1 - i = (j : Int) := by omega
    rw [ej] at hlt r3
    have hij : i < j := by omega
    have hjn : j < N := by omega
    have hin : i < N := by omega
    obtain ⟨x, hx⟩ : ∃ x, M[i]? = some x := ⟨M[i]'(by omega), List.getElem?_eq_getElem _⟩
    obtain ⟨y, hy⟩ : ∃ y, M[j]? = some y := ⟨M[j]'(by omega), List.getElem?_eq_getElem _⟩
    have cx : (M.map i64 ++ zs)[i]? = some (i64 x) := by rw [List.getElem?_append_left (by simp; omega), List.getElem?_map, hx]; rfl
    have cy : (M.map i64 ++ zs)[j]? = some (i64 y) := by rw [List.getElem?_append_left (by simp; omega), List.getElem?_map, hy]; rfl
    have e2 : ((M.map i64).set i (i64 y) ++ zs).set j (i64 x) = ((M.map i64).set i (i64 y)).set j (i64 x) ++ zs := List.set_append_left _ _ (by simp; omega)
    have l1 : i + 1 ≤ M.length + zs.length := by omega
    have l2 : j + 1 ≤ M.length + zs.length := by omega
    have w1 : IntKind.i64.wrap ((i : Int) + 1) = ((i + 1 : Nat) : Int) := wadd (b := 1) rfl (by omega)
    have w2 : IntKind.i64.wrap ((j : Int) - 1) = (j : Int) - 1 := wrap_i64 (by omega) (by omega)
    simp -implicitDefEqProofs [r2, r3, hlt]
    refine go_draw3 [0, 1, 2, 3, 4, 5, 6, 8, 9, 10] _ f_mixed (by decide +kernel) HC.nothing ?_
    simp -implicitDefEqProofs []
    repeat (refine aq3_op ?_; simp -implicitDefEqProofs [r0, r2, r3, hin, hjn])
    refine AWK.two 7 11 (by decide +kernel) ?_ ?_
    · refine AWE.op rfl ?_
      simp -implicitDefEqProofs [cy]
      refine AWK.one 11 (by decide +kernel) ?_
      refine AWE.op rfl ?_
      simp -implicitDefEqProofs [cx]
      refine AWK.one 12 (by decide +kernel) ?_
      refine AWE.op rfl ?_
      simp -implicitDefEqProofs [hin]
      refine AWK.one 13 (by decide +kernel) ?_
      refine AWE.op rfl ?_
      simp -implicitDefEqProofs [l1, i64_lies, i64_cells]
      refine AWS.store (by exact if_pos rfl) (HC.setn HC.nothing rfl) ?_
      refine AWK.one 14 (by decide +kernel) ?_
      refine AWE.op rfl ?_
      simp -implicitDefEqProofs [hjn]
      refine AWK.one 15 (by decide +kernel) ?_
      refine AWE.op rfl ?_
      simp -implicitDefEqProofs [l2, i64_lies, i64_cells]
      refine AWS.store (by exact if_pos rfl) (HC.setn HC.nothing rfl) ?_
      refine AWK.fin (by decide +kernel) ?_
      simp -implicitDefEqProofs [r2, r3, w1, w2]
      refine AGo.again ih (m' := N - (i + 1)) (by omega) (HLe.refl _) ?_
      exact ⟨i + 1, (M.set i y).set j x, rfl, by omega, hT.step hij (by omega) hx hy, by simp [r0], by simp, by simp; omega, by rw [List.map_set, List.map_set, List.set_append_left _ _ (by simp; omega : i < (M.map i64).length), e2]⟩
    · refine AWE.op rfl ?_
      simp -implicitDefEqProofs [cx]
      refine AWK.one 7 (by decide +kernel) ?_
      refine AWE.op rfl ?_
      simp -implicitDefEqProofs [cy]
      refine AWK.one 12 (by decide +kernel) ?_
      refine AWE.op rfl ?_
      simp -implicitDefEqProofs [hin]
      refine AWK.one 13 (by decide +kernel) ?_
      refine AWE.op rfl ?_
      simp -implicitDefEqProofs [l1, i64_lies, i64_cells]
      refine AWS.store (by exact if_pos rfl) (HC.setn HC.nothing rfl) ?_
      refine AWK.one 14 (by decide +kernel) ?_
      refine AWE.op rfl ?_
      simp -implicitDefEqProofs [hjn]
      refine AWK.one 15 (by decide +kernel) ?_
      refine AWE.op rfl ?_
      simp -implicitDefEqProofs [l2, i64_lies, i64_cells]
      refine AWS.store (by exact if_pos rfl) (HC.setn HC.nothing rfl) ?_
      refine AWK.fin (by decide +kernel) ?_
      simp -implicitDefEqProofs [r2, r3, w1, w2]
      refine AGo.again ih (m' := N - (i + 1)) (by omega) (HLe.refl _) ?_
      exact ⟨i + 1, (M.set i y).set j x, rfl, by omega, hT.step hij (by omega) hx hy, by simp [r0], by simp, by simp; omega, by rw [List.map_set, List.map_set, List.set_append_left _ _ (by simp; omega : i < (M.map i64).length), e2]⟩
  · simp -implicitDefEqProofs [r2, r3, hlt]
    rw [hT.fin (by omega), List.map_reverse]
    exact HWk.refl _
theorem c_reverseR {H0 : Heap} {L : List Int} {v : AV} (hR : RawRow H0 2 (L.map i64) v H) (hL : L.length ≤ 1000000) :
    ACalls Tryz.prog 66 [v] H (fun _ K => RawRow H0 2 (L.reverse.map i64) v K) := by
  obtain ⟨hle, ⟨h1, rfl⟩ | ⟨g, zs, hg, rfl, hK, hm⟩⟩ := hR
  · refine ACalls.mono (c_reverse_nil (H := H)) fun r K ⟨e1, e2⟩ => ?_
    obtain rfl : L = [] := by simpa using h1
    subst e2
    exact RawRow.none.le hle
  · have hc := c_reverse (cap := (L.map i64).length + zs.length) hK hL
    rw [List.length_map] at hc ⊢
    refine ACalls.mono hc fun r K ⟨e1, e2⟩ => ?_
    subst e2
    refine ⟨HLe.set_new hle hg, .inr ⟨g, zs, hg, by simp, by simp [Heap.set], by simpa using hm⟩⟩
end Go.Proofs.YtdpgnbinekcgdaaGreatDoor
