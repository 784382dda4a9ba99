/- The document's answer about graphs: May, Users; a row of jobs as a row of nodes. What is wrong with a row of nodes; who waits for one. As much of the order of a row of nodes as there is. What is wrong with a row of nodes; who waits for one. -/
import Derived.Test.YtlhgpodfhdddkaaGreatDoorP24
import Derived.Test.YtlhgpodfhdddkaaGreatDoorP23
import Derived.Test.YtlhgpodfhdddkaaGreatDoorP18
set_option linter.unusedSimpArgs false
set_option linter.unusedVariables false
set_option linter.unnecessarySimpa false
namespace Go.Proofs.YtlhgpodfhdddkaaGreatDoor
open Rg Go Go.RowKit
variable {H : Heap}
theorem szs_nds (l : List Nd) : szs 2 (ndsAV l) = true := by simp [szs, AV.cells]
theorem place_pre {l : List Nd} {i : Nat} {y : Nd} (hn : (idsN (l.take i)).Nodup) (hy : l[i]? = some y) : (idsN (l.take (i + 1))).Nodup ↔ y.1 ∉ idsN (l.take i) := by
  unfold idsN at *
  rw [List.take_add_one, hy, Option.toList_some, List.map_append, List.nodup_append]
  constructor
  · rintro ⟨_, _, h3⟩ hm
    exact h3 y.1 hm y.1 (by simp) rfl
  · intro hm
    exact ⟨hn, by simp, fun a ha b hb => by simp at hb; subst hb; rintro rfl; exact hm ha⟩
set_option maxHeartbeats 8000000 in
theorem c_may13 (l : List Nd) (t : Rg.Tok) (hll : l.length ≤ 1000000) (hdl : ∀ n ∈ l, n.2.length ≤ 1000000) :
    ACalls Tryz.prog 35 [.sl (ndsAV l) t] H (fun v K => v = .sc (.int .i64 (mayN l)) ∧ HLe H K) := by
  obtain ⟨res, hres⟩ : ∃ r, mayN l = r := ⟨_, rfl⟩
  rw [hres]
  generalize hR : (fun (v : AV) (K : Heap) => v = .sc (.int .i64 res) ∧ HLe H K) = R
  unfold mayN at hres
  refine ACalls.into Tryz.func35 rfl Tryz.ntmps35 Tryz.results35 (by simp) ?_
  by_cases h64 : 64 < l.length
  · have h64' : 64 < (l.length : Int) := by omega
    rw [if_pos (.inl h64)] at hres
    simp -implicitDefEqProofs [h64']
    subst hR
    exact AFin.intro _ _ (wk_refl _) (HWk.refl _) ⟨by rw [hres], HLe.refl _⟩
  have h64' : ¬ 64 < (l.length : Int) := by omega
  simp -implicitDefEqProofs [h64']
  refine AGo.rounds (fun m ρ K => ∃ i : Nat, m = l.length - i ∧ i ≤ l.length ∧ (∀ n ∈ l.take i, n.2.length ≤ 8) ∧ ρ 0 = .sl (ndsAV l) t ∧ ρ 3 = .sc (.int .i64 (i : Int)) ∧ K = H) ?_ (m := l.length) (HLe.refl H)
    ⟨0, rfl, by omega, by simp, by simp, by simp, rfl⟩
  rintro m ρ K ih ⟨i, rfl, hi, hno, r0, r3, rfl⟩
  by_cases hlt : i < l.length
  · have hlt' : (i : Int) < (l.length : Int) := by omega
    obtain ⟨y, hyj, hy⟩ := getAt hlt
    have w1 : IntKind.i64.wrap ((i : Int) + 1) = ((i + 1 : Nat) : Int) := by rw [wrap_i64 (by omega) (by omega)]; omega
    by_cases h8 : 8 < y.2.length
    · have h8' : 8 < (y.2.length : Int) := by omega
      rw [if_pos (.inr ⟨y, List.mem_of_getElem? hy, h8⟩)] at hres
      simp -implicitDefEqProofs [r0, r3, hlt, hlt', hyj, h8']
      subst hR
      exact AFin.intro _ _ (wk_refl _) (HWk.refl _) ⟨by rw [hres], HLe.refl _⟩
    · have h8' : ¬ 8 < (y.2.length : Int) := by omega
      simp -implicitDefEqProofs [r0, r3, hlt, hlt', hyj, h8', w1]
      exact AGo.again ih (m' := l.length - (i + 1)) (by omega) (HLe.refl _) ⟨i + 1, rfl, by omega, fun z hz => by
        rw [List.take_add_one, hy] at hz
        rcases List.mem_append.1 hz with hz | hz
        · exact hno z hz
        · simp at hz; rw [hz]; omega, by simp [r0], by simp, rfl⟩
  have hlt' : ¬ (i : Int) < (l.length : Int) := by omega
  rw [List.take_of_length_le (by omega)] at hno
  have hL : ¬ longN l := by
    rintro (h | ⟨n, hn, h⟩)
    · omega
    · have := hno n hn; omega
  rw [if_neg hL] at hres
  simp -implicitDefEqProofs [r0, r3, hlt, hlt']
  clear ih hlt hlt' r3 hi hdl
  refine AGo.rounds (fun m ρ K' => ∃ i : Nat, m = l.length - i ∧ i ≤ l.length ∧ (idsN (l.take i)).Nodup ∧ (∀ n ∈ l.take i, n.2.Nodup) ∧ ρ 0 = .sl (ndsAV l) t ∧ ρ 4 = .sc (.int .i64 (i : Int)) ∧ K' = K) ?_ (m := l.length) (HLe.refl _)
    ⟨0, rfl, by omega, by simp, by simp, by simp [r0], by simp, rfl⟩
  clear r0
  rintro m ρ K' ih ⟨i, rfl, hi, hnd, hnn, r0, r4, rfl⟩
  by_cases hlt : i < l.length
  · have hlt' : (i : Int) < (l.length : Int) := by omega
    have hle : i ≤ l.length := by omega
    have hle' : (i : Int) ≤ (l.length : Int) := by omega
    obtain ⟨y, hyj, hy⟩ := getAt hlt
    have hyl := List.mem_of_getElem? hy
    have hy8 := hno y hyl
    have hpp := place_pre hnd hy
    have w1 : IntKind.i64.wrap ((i : Int) + 1) = ((i + 1 : Nat) : Int) := by rw [wrap_i64 (by omega) (by omega)]; omega
    simp -implicitDefEqProofs [r0, r4, hlt, hlt']
    first | refine go_draw 18 f_mixed (by decide +kernel) ?_ | refine go_draw 12 f_mixed (by decide +kernel) ?_
    simp -implicitDefEqProofs [r0, r4, hlt, hlt', hle, hle', hyj, szs_nds]
    rw [show List.take i (ndsAV l) = ndsAV (l.take i) from List.map_take.symm]
    refine AQS.eq (c_place13 (l.take i) .no y.1 (by rw [List.length_take]; omega)) ?_
    obtain ⟨hp, _⟩ := placeG_mem (l.take i) y.1 0
    generalize placeG (l.take i) y.1 0 = p at *
    by_cases hpm : y.1 ∈ idsN (l.take i)
    · have hp0 : 0 ≤ p := hp.2 hpm
      have hT : twiceN l := .inl fun h => hpp.1 (h.sublist ((List.take_sublist _ _).map _)) hpm
      rw [if_pos hT] at hres
      simp -implicitDefEqProofs [hp0]
      subst hR
      exact AFin.intro _ _ (wk_refl _) (HWk.refl _) ⟨by rw [hres], HLe.refl _⟩
    · have hp0 : ¬ 0 ≤ p := fun h => hpm (hp.1 h)
      simp -implicitDefEqProofs [hp0, r0, r4, hlt, hlt', hyj]
      refine AQS.eq (c_twice13 y.2 .no (by omega)) ?_
      by_cases hyn : y.2.Nodup
      · simp -implicitDefEqProofs [hyn, r0, r4, w1]
        exact AGo.again ih (m' := l.length - (i + 1)) (by omega) (HLe.refl _) ⟨i + 1, rfl, by omega, hpp.2 hpm, fun z hz => by
          rw [List.take_add_one, hy] at hz
          rcases List.mem_append.1 hz with hz | hz
          · exact hnn z hz
          · simp at hz; rw [hz]; exact hyn, by simp [r0], by simp, rfl⟩
      · rw [if_pos (.inr ⟨y, hyl, hyn⟩)] at hres
        simp -implicitDefEqProofs [hyn]
        subst hR
        exact AFin.intro _ _ (wk_refl _) (HWk.refl _) ⟨by rw [hres], HLe.refl _⟩
  have hlt' : ¬ (i : Int) < (l.length : Int) := by omega
  rw [List.take_of_length_le (by omega)] at hnd hnn
  have hT : ¬ twiceN l := by
    rintro (h | ⟨n, hn, h⟩)
    · exact h hnd
    · exact h (hnn n hn)
  rw [if_neg hT] at hres
  simp -implicitDefEqProofs [r0, r4, hlt, hlt']
  clear ih hlt hlt' r4 hi hnd hnn
  refine AGo.rounds (fun m ρ K => ∃ i : Nat, m = l.length - i ∧ i ≤ l.length ∧ (∀ n ∈ l.take i, ∀ d ∈ n.2, d ∈ idsN l) ∧ ρ 0 = .sl (ndsAV l) t ∧ ρ 5 = .sc (.int .i64 (i : Int)) ∧ K = K') ?_ (m := l.length) (HLe.refl _)
    ⟨0, rfl, by omega, by simp, by simp [r0], by simp, rfl⟩
  clear r0
  rintro m ρ K ih ⟨i, rfl, hi, hds, r0, r5, rfl⟩
  by_cases hlt : i < l.length
  · have hlt' : (i : Int) < (l.length : Int) := by omega
    obtain ⟨y, hyj, hy⟩ := getAt hlt
    have hyl := List.mem_of_getElem? hy
    have hy8 := hno y hyl
    have w1 : IntKind.i64.wrap ((i : Int) + 1) = ((i + 1 : Nat) : Int) := by rw [wrap_i64 (by omega) (by omega)]; omega
    simp -implicitDefEqProofs [r0, r5, hlt, hlt', hyj]
    refine AGo.rounds (fun m ρ K' => ∃ k : Nat, m = y.2.length - k ∧ k ≤ y.2.length ∧ (∀ d ∈ y.2.take k, d ∈ idsN l) ∧ ρ 0 = .sl (ndsAV l) t ∧ ρ 5 = .sc (.int .i64 (i : Int)) ∧ ρ 6 = .sc (.int .i64 (k : Int)) ∧ K' = K) ?_ (m := y.2.length) (HLe.refl _)
      ⟨0, rfl, by omega, by simp, by simp [r0], by simp [r5], by simp, rfl⟩
    clear r0 r5
    rintro m ρ K' ih2 ⟨k, rfl, hk, hdk, r0, r5, r6, rfl⟩
    by_cases hkt : k < y.2.length
    · have hkt' : (k : Int) < (y.2.length : Int) := by omega
      obtain ⟨z, hzj, hz⟩ := getAt hkt
      have w2 : IntKind.i64.wrap ((k : Int) + 1) = ((k + 1 : Nat) : Int) := by rw [wrap_i64 (by omega) (by omega)]; omega
      simp -implicitDefEqProofs [r0, r5, r6, hlt, hlt', hyj, hkt, hkt', hzj]
      refine ACall.eq (c_place13 l t z (by omega)) ?_
      obtain ⟨hp, _⟩ := placeG_mem l z 0
      generalize placeG l z 0 = p at *
      by_cases hpm : z ∈ idsN l
      · have hp0 : ¬ p < 0 := by have := hp.2 hpm; omega
        simp -implicitDefEqProofs [hp0, r6, w2]
        exact AGo.again ih2 (m' := y.2.length - (k + 1)) (by omega) (HLe.refl _) ⟨k + 1, rfl, by omega, fun d hd => by
          rw [List.take_add_one, hz] at hd
          rcases List.mem_append.1 hd with hd | hd
          · exact hdk d hd
          · simp at hd; rw [hd]; exact hpm, by simp [r0], by simp [r5], by simp, rfl⟩
      · have hp0 : p < 0 := by
          by_cases h : 0 ≤ p
          · exact absurd (hp.1 h) hpm
          · omega
        rw [if_pos ⟨y, hyl, z, List.mem_of_getElem? hz, hpm⟩] at hres
        simp -implicitDefEqProofs [hp0]
        subst hR
        exact AFin.intro _ _ (wk_refl _) (HWk.refl _) ⟨by rw [hres], HLe.refl _⟩
    · have hkt' : ¬ (k : Int) < (y.2.length : Int) := by omega
      rw [List.take_of_length_le (by omega)] at hdk
      simp -implicitDefEqProofs [r0, r5, r6, hlt, hlt', hyj, hkt, hkt', w1]
      exact AGo.again ih (m' := l.length - (i + 1)) (by omega) (HLe.refl _) ⟨i + 1, rfl, by omega, fun n hn => by
        rw [List.take_add_one, hy] at hn
        rcases List.mem_append.1 hn with hn | hn
        · exact hds n hn
        · simp at hn; rw [hn]; exact hdk, by simp [r0], by simp, rfl⟩
  have hlt' : ¬ (i : Int) < (l.length : Int) := by omega
  rw [List.take_of_length_le (by omega)] at hds
  have hN : ¬ noneN l := by
    rintro ⟨n, hn, d, hd, h⟩
    exact h (hds n hn d hd)
  rw [if_neg hN] at hres
  simp -implicitDefEqProofs [r0, r5, hlt, hlt']
  clear ih hlt hlt' r5 hi hds
  refine AGo.rounds (fun m ρ K' => ∃ i : Nat, m = l.length - i ∧ i ≤ l.length ∧ (∀ n ∈ l.take i, ¬ Comes (Waits l) n.1 n.1) ∧ ρ 0 = .sl (ndsAV l) t ∧ ρ 7 = .sc (.int .i64 (i : Int)) ∧ HLe K K') ?_ (m := l.length) (HLe.refl _)
    ⟨0, rfl, by omega, by simp, by simp [r0], by simp, HLe.refl _⟩
  clear r0
  rintro m ρ K' ih ⟨i, rfl, hi, hnc, r0, r7, hK⟩
  by_cases hlt : i < l.length
  · have hlt' : (i : Int) < (l.length : Int) := by omega
    obtain ⟨y, hyj, hy⟩ := getAt hlt
    have hyl := List.mem_of_getElem? hy
    have w1 : IntKind.i64.wrap ((i : Int) + 1) = ((i + 1 : Nat) : Int) := by rw [wrap_i64 (by omega) (by omega)]; omega
    simp -implicitDefEqProofs [r0, r7, hlt, hlt']
    refine go_draw2 12 [0, 1, 2, 3, 4, 5, 6, 7, 8, 9, 10] [11] K' f_mixed (by decide +kernel) (HC.refl _) ?_
    simp -implicitDefEqProofs [r0, r7, hlt, hlt', hyj]
    have hy1 : y.1 ∈ idsN l := List.mem_map_of_mem hyl
    refine AES.call (c_reach13 l t y.1 y.1 (by omega) hno hN hy1) fun v K4 hv => ?_
    obtain ⟨r, rfl, hr, hK4⟩ := hv
    refine ⟨hc_le hK4, ?_⟩
    cases r with
    | true =>
      rw [if_pos ⟨y.1, hy1, hr.1 rfl⟩] at hres
      simp -implicitDefEqProofs
      subst hR
      exact AFin.intro _ _ (wk_refl _) (HWk.refl _) ⟨by rw [hres], hK.trans hK4⟩
    | false =>
      simp -implicitDefEqProofs [r0, r7, w1]
      exact AGo.again ih (m' := l.length - (i + 1)) (by omega) (HLe.refl _) ⟨i + 1, rfl, by omega, fun n hn => by
        rw [List.take_add_one, hy] at hn
        rcases List.mem_append.1 hn with hn | hn
        · exact hnc n hn
        · simp at hn; rw [hn]; exact fun h => by simpa using hr.2 h, by simp [r0], by simp, hK.trans hK4⟩
  · have hlt' : ¬ (i : Int) < (l.length : Int) := by omega
    rw [List.take_of_length_le (by omega)] at hnc
    have hC : ¬ Circ l := by
      rintro ⟨a, ha, h⟩
      obtain ⟨n, hn, rfl⟩ := List.mem_map.1 ha
      exact hnc n hn h
    rw [if_neg hC] at hres
    simp -implicitDefEqProofs [r0, r7, hlt, hlt']
    subst hR
    exact AFin.intro _ _ (wk_refl _) (HWk.refl _) ⟨by rw [hres], hK⟩
theorem c_row15 (L : List Jb) (t : Rg.Tok) (hl : L.length ≤ 1000000) : ACalls Tryz.prog 36 [.sl (jbsAV L) t] H (fun v K => v = .sl (ndsAV (ndsOf L)) .no ∧ HLe H K) := by
  generalize hR : (fun (v : AV) (K : Heap) => v = .sl (ndsAV (ndsOf L)) .no ∧ HLe H K) = R
  refine ACalls.into Tryz.func36 rfl Tryz.ntmps36 Tryz.results36 (by simp) ?_
  simp -implicitDefEqProofs
  refine AGo.rounds (fun m ρ K => ∃ (i : Nat) (tk : Rg.Tok), m = L.length - i ∧ i ≤ L.length ∧ ρ 0 = .sl (jbsAV L) t ∧ ρ 3 = .sl (ndsAV (ndsOf (L.take i))) tk ∧ ρ 4 = .sc (.int .i64 (i : Int)) ∧ GrowsF H (ndsAV (ndsOf (L.take i))) 2 76 tk K) ?_ (m := L.length) (HLe.refl _)
    ⟨0, .nil, rfl, by omega, by simp, by simp, by simp, .inl ⟨rfl, .inl rfl, rfl⟩⟩
  rintro m ρ K ih ⟨i, tk, rfl, hi, r0, r3, r4, hg⟩
  by_cases hlt : i < L.length
  · have hlt' : (i : Int) < (L.length : Int) := by omega
    obtain ⟨y, hyj, hy⟩ := getAt hlt
    have w1 : IntKind.i64.wrap ((i : Int) + 1) = ((i + 1 : Nat) : Int) := by rw [wrap_i64 (by omega) (by omega)]; omega
    have hd : ndsAV (ndsOf (L.take i)) ++ [.agg [.sc (.int .u64 (y.id : Int)), .sl (nuAV y.deps) .no]] = ndsAV (ndsOf (L.take (i + 1))) := by
      rw [List.take_add_one, hy]; simp
    have hxl : (ndsAV (ndsOf (L.take i))).length = i := by simp; omega
    have hsz := szs_nds (ndsOf (L.take i))
    generalize ndsAV (ndsOf (L.take i)) = xs at *
    simp -implicitDefEqProofs [r0, r3, r4, hlt, hlt']
    refine go_draw2 15 [0, 1, 2, 3, 4, 5, 6, 7, 8, 9, 10, 11, 12] [13, 14] K f_mixed (by decide +kernel) (HC.refl _) ?_
    simp -implicitDefEqProofs [r0, r3, r4, hlt, hlt', hyj]
    refine aes_growsF el_52 hg hsz (by simp [szs]) (by simp; omega) (by simp [maxLen]; omega) fun t1 G1 hg1 => ?_
    rw [hd] at hg1 ⊢
    simp -implicitDefEqProofs [r4, w1]
    exact AGo.again ih (m' := L.length - (i + 1)) (by omega) (HLe.refl _) ⟨i + 1, t1, rfl, by omega, by simp [r0], by simp, by simp, hg1⟩
  · have hlt' : ¬ (i : Int) < (L.length : Int) := by omega
    rw [List.take_of_length_le (by omega)] at r3
    simp -implicitDefEqProofs [r0, r3, r4, hlt, hlt']
    subst hR
    exact AFin.intro (.sl (ndsAV (ndsOf L)) .no) _ (by simp [wk]) (HWk.refl _) ⟨rfl, hg.le⟩
end Go.Proofs.YtlhgpodfhdddkaaGreatDoor
namespace Go.Proofs.YtlhgpodfhdddkaaGreatDoor
open Rg Go Go.RowKit
variable {H : Heap}
theorem sorted_nodup {ks : List Nat} (h : ks.Pairwise (· ≤ ·)) : ¬ ks.Nodup ↔ ∃ i : Nat, i + 1 < ks.length ∧ ks.toArray[i]! = ks.toArray[i + 1]! := by
  have hg : ∀ i, i < ks.length → ks.toArray[i]! = ks[i]! := fun i hi => by simp
  constructor
  · intro hn
    refine Classical.byContradiction fun hno => hn ?_
    have hlt : ks.Pairwise (· < ·) := by
      clear hn
      induction ks with
      | nil => exact .nil
      | cons a l ih =>
        rw [List.pairwise_cons] at h ⊢
        refine ⟨fun b hb => ?_, ih h.2 (fun i hi => by simp) fun ⟨i, hi, e⟩ => hno ⟨i + 1, by simpa using hi, by simpa using e⟩⟩
        cases l with
        | nil => cases hb
        | cons c l =>
          have hac := h.1 c (by simp)
          have hne : a ≠ c := fun e => hno ⟨0, by simp, by simpa using e⟩
          have hcb : c ≤ b := by
            rcases List.mem_cons.1 hb with rfl | hb
            · exact Nat.le_refl _
            · exact (List.pairwise_cons.1 h.2).1 b hb
          omega
    exact hlt.imp fun h => Nat.ne_of_lt h
  · rintro ⟨i, hi, e⟩ hn
    have h1 : i < ks.length := by omega
    have e1 : ks.toArray[i]! = ks[i] := by simp [h1]
    have e2 : ks.toArray[i + 1]! = ks[i + 1] := by simp [hi]
    have := nodup_idx hn (a := ks[i]) (List.getElem?_eq_getElem h1) (by rw [List.getElem?_eq_getElem hi, ← e2, ← e, e1])
    omega
theorem c_twice (l : List Nat) (t : Rg.Tok) (hl : l.length < 50) : ACalls Tryz.prog 47 [.sl (nuK l) t] H (fun v K => v = .sc (.bool (decide (¬ l.Nodup))) ∧ HLe H K) := by
  generalize hR : (fun (v : AV) (K : Heap) => v = .sc (.bool (decide (¬ l.Nodup))) ∧ HLe H K) = R
  refine ACalls.into Tryz.func47 rfl Tryz.ntmps47 Tryz.results47 (by simp) ?_
  simp -implicitDefEqProofs
  refine ACall.intro (c_values l t) fun v K hv => ?_
  obtain ⟨b, rfl, hK, kb⟩ := hv
  simp -implicitDefEqProofs
  refine ACall.intro (c_sorted (lb := #[.pointer (some ⟨b, 0, none⟩)]) (by omega) (iter_values (by omega) kb) (fun ks e => by rw [e]; exact hl)) fun v K2 hv => ?_
  obtain ⟨ks, ⟨k0, rfl, hp⟩, hs, hK2, hc⟩ := hv
  have hlen := hp.length_eq
  have hnd := hp.nodup_iff
  rcases hc with ⟨hn, rfl⟩ | ⟨g, zs, h1, rfl, h2, h3⟩
  · have hks : ks = [] := by simpa using hn
    subst hks
    have hl0 : k0 = [] := List.length_eq_zero_iff.1 (by simpa using hlen.symm)
    subst hl0
    simp -implicitDefEqProofs
    refine ACall.eq c_compactNil ?_
    simp -implicitDefEqProofs
    subst hR
    exact AFin.intro _ _ (wk_refl _) (HWk.refl _) ⟨by simp, hK.trans hK2⟩
  · have e1 : (nuK ks).length = ks.length := by simp
    rw [e1] at h3 ⊢
    have h2' : K2 g = some (rowC 28 ks.toArray zs) := by rw [st_row, h2, nuK_arr]
    simp -implicitDefEqProofs
    refine ACall.intro (c_compact (n := ks.length) (cap := ks.length + zs.length) (by simp) (by omega) (by omega) h2') fun v K3 hv => ?_
    obtain ⟨k, cs, rfl, hk, _, hkn, rfl⟩ := hv
    rw [← sorted_nodup hs, hnd] at hkn
    simp -implicitDefEqProofs
    subst hR
    refine AFin.intro _ _ (wk_refl _) (HWk.refl _) ⟨?_, HLe.set_new (hK.trans hK2) (hK.none h1)⟩
    rw [← hlen]
    by_cases hk2 : k < ks.length
    · simp [hk2, hkn.1 hk2]
    · have : k0.Nodup := Classical.byContradiction fun h => hk2 (hkn.2 h)
      simp [hk2, this]
end Go.Proofs.YtlhgpodfhdddkaaGreatDoor
namespace Go.Proofs.YtlhgpodfhdddkaaGreatDoor
open Rg Go Go.RowKit
variable {H : Heap}
abbrev rME (r : Nd × Nat) : ME := (r.1.1, .sl (nuAV r.1.2) .no, r.2)
structure MapR (m : Nat) (R : List (Nd × Nat)) (ck : Nat) (K : Heap) : Prop where
  at_ : K m = some (.map ((R.map rME).map meAV) ck)
  lt : ∀ r ∈ R, r.2 < ck
  nb : (R.map fun r => r.2).Nodup
  nk : (R.map fun r => r.1.1).Nodup
theorem MapR.born {m ck : Nat} {R : List (Nd × Nat)} {K : Heap} (h : MapR m R ck K) : (∀ e ∈ R.map rME, e.2.2 < ck) ∧ ((R.map rME).map fun e => e.2.2).Nodup ∧ ((R.map rME).map fun e => e.1).Nodup := by
  refine ⟨fun e he => ?_, ?_, ?_⟩
  · obtain ⟨r, hr, rfl⟩ := List.mem_map.1 he
    exact h.lt r hr
  · rw [List.map_map]; exact h.nb
  · rw [List.map_map]; exact h.nk
theorem erase_split {α : Type} {R : List α} {j : Nat} {r : α} (h : R[j]? = some r) : R = R.take j ++ r :: R.drop (j + 1) := by
  obtain ⟨h1, h2⟩ := List.getElem?_eq_some_iff.1 h
  conv => lhs; rw [← List.take_append_drop j R, List.drop_eq_getElem_cons h1, h2]
theorem map_erase {α β : Type} (f : α → β) : ∀ (l : List α) (j : Nat), (l.map f).eraseIdx j = (l.eraseIdx j).map f
  | [], _ => rfl
  | a :: l, 0 => rfl
  | a :: l, j + 1 => by simp [map_erase f l j]
theorem MapR.erase {m ck j : Nat} {R : List (Nd × Nat)} {K K' : Heap} (h : MapR m R ck K) (hk : K' m = some (.map (((R.map rME).map meAV).eraseIdx j) ck)) : MapR m (R.eraseIdx j) ck K' := by
  have hs : (R.eraseIdx j).Sublist R := List.eraseIdx_sublist _ _
  refine ⟨?_, fun r hr => h.lt r (hs.subset hr), h.nb.sublist (hs.map _), h.nk.sublist (hs.map _)⟩
  rw [hk, map_erase, map_erase]
set_option maxHeartbeats 4000000 in
theorem c_order (l : List Nd) (t : Rg.Tok) (hn : (idsN l).Nodup) (hl : l.length < 50) (h8 : ∀ n ∈ l, n.2.length ≤ 8) :
    ACalls Tryz.prog 49 [.sl (ndsAV l) t] H (fun v K => ∃ out, v = .sl (nuK out) .no ∧ OrdOk l out ∧ (∀ n ∈ l, n.1 ∉ out → ∃ d ∈ n.2, d ∉ out) ∧ HLe H K) := by
  generalize hR : (fun (v : AV) (K : Heap) => ∃ out, v = .sl (nuK out) .no ∧ OrdOk l out ∧ (∀ n ∈ l, n.1 ∉ out → ∃ d ∈ n.2, d ∉ out) ∧ HLe H K) = R0
  obtain ⟨dk, hdk⟩ := ty_of (P := Tryz.prog) (T := 28) (by kernel_rfl)
  refine ACalls.into Tryz.func49 rfl Tryz.ntmps49 Tryz.results49 (by simp) ?_
  simp -implicitDefEqProofs [st_make]
  refine ACall.intro (c_makeMap 94) fun v K hv => ?_
  obtain ⟨m, hm0, rfl, rfl⟩ := hv
  simp -implicitDefEqProofs
  refine AGo.rounds (fun μ ρ K => ∃ (i : Nat) (R : List (Nd × Nat)) (ck : Nat), μ = l.length - i ∧ i ≤ l.length ∧ R.map (fun r => r.1) = l.take i ∧ MapR m R ck K ∧ HLe H K ∧ ρ 3 = .sc (.map (some m)) ∧ ρ 10 = .sl (ndsAV l) t ∧ ρ 11 = .sc (.int .i64 (l.length : Int)) ∧ ρ 12 = .sc (.int .i64 (i : Int))) ?_ (m := l.length) (HLe.refl _)
    ⟨0, [], 0, rfl, by omega, by simp, ⟨by simp [Heap.set], by simp, by simp, by simp⟩, HLe.set_fresh hm0, by simp, by simp, by simp, by simp⟩
  rintro μ ρ K ih ⟨i, R, ck, rfl, hi, hRl, hMR, hK, r3, r10, r11, r12⟩
  by_cases hlt : i < l.length
  · have hlt' : (i : Int) < (l.length : Int) := by omega
    obtain ⟨y, hyj, hy⟩ := getAt hlt
    have w1 : IntKind.i64.wrap ((i : Int) + 1) = ((i + 1 : Nat) : Int) := by rw [wrap_i64 (by omega) (by omega)]; omega
    have hpp := place_pre (hn.sublist ((List.take_sublist i l).map _)) hy
    have hyn : y.1 ∉ idsN (l.take i) := hpp.1 (hn.sublist ((List.take_sublist (i + 1) l).map _))
    have hmiss : ∀ e ∈ R.map rME, e.1 ≠ y.1 := fun e he h => by
      obtain ⟨r, hr, rfl⟩ := List.mem_map.1 he
      refine hyn (List.mem_map.2 ⟨r.1, ?_, h⟩)
      rw [← hRl]
      exact List.mem_map_of_mem hr
    simp -implicitDefEqProofs [r3, r10, r11, r12, hlt, hlt', hyj, AV.cells]
    refine AAlloc.intro fun b5 h5 => ?_
    have hmb : m ≠ b5 := by rintro rfl; rw [hMR.at_] at h5; cases h5
    simp -implicitDefEqProofs [r3, st_update]
    have hm1 : (K.set b5 (.cells [.sc (.int .u64 (y.1 : Int)), .sl (nuAV y.2) .no] 76)) m = some (.map ((R.map rME).map meAV) ck) := by simp [Heap.set, hmb, hMR.at_]
    refine ACall.eq (c_insert m_deps hdk hm1 (acheck_n y.1) (miss_me hmiss) (.sl (nuAV y.2) .no)) ?_
    simp -implicitDefEqProofs [r12, w1]
    refine AGo.again ih (m' := l.length - (i + 1)) (by omega) (HLe.refl _) ⟨i + 1, R ++ [(y, ck)], ck + 1, rfl, by omega, by rw [List.map_append, hRl, List.take_add_one, hy]; rfl, ⟨by simp [Heap.set], fun r hr => ?_, ?_, ?_⟩, HLe.set_new (HLe.set_new hK (hK.none h5)) hm0, by simp [r3], by simp [r10], by simp [r11], by simp⟩
    · rcases List.mem_append.1 hr with hr | hr
      · have := hMR.lt r hr; omega
      · rw [List.mem_singleton.1 hr]; simp
    · rw [List.map_append, List.nodup_append]
      refine ⟨hMR.nb, by simp, fun a ha b hb => ?_⟩
      simp at hb
      subst hb
      obtain ⟨r, hr, rfl⟩ := List.mem_map.1 ha
      have := hMR.lt r hr
      omega
    · rw [List.map_append, List.nodup_append]
      refine ⟨hMR.nk, by simp, fun a ha b hb => ?_⟩
      simp at hb
      subst hb
      obtain ⟨r, hr, rfl⟩ := List.mem_map.1 ha
      exact hmiss (rME r) (List.mem_map_of_mem hr)
  · have hlt' : ¬ (i : Int) < (l.length : Int) := by omega
    rw [List.take_of_length_le (by omega)] at hRl
    simp -implicitDefEqProofs [r3, r10, r11, r12, hlt, hlt']
    refine AAlloc.intro fun b6 h6 => ?_
    have hmb : m ≠ b6 := by rintro rfl; rw [hMR.at_] at h6; cases h6
    simp -implicitDefEqProofs
    generalize hK6 : Heap.set K b6 _ = K6
    have row6 : RowZ 1 28 31 H b6 (nuK []).length (fun t => [.sl (nuK []) t]) K6 := by
      rw [← hK6]
      exact ⟨HLe.set_new hK (hK.none h6), hK.none h6, .nil, by simp [Heap.set], .inl ⟨rfl, rfl⟩⟩
    have hMR6 : MapR m R ck K6 := by rw [← hK6]; exact ⟨by simp [Heap.set, hmb, hMR.at_], hMR.lt, hMR.nb, hMR.nk⟩
    have hRlen : R.length ≤ l.length := by rw [← hRl, List.length_map]; exact Nat.le_refl _
    clear hK6 h6 hMR hK ih hlt hlt'
    refine AGo.rounds (fun μ ρ K => ∃ (R : List (Nd × Nat)) (ck : Nat) (out : List Nat), μ = R.length ∧ R.length ≤ l.length ∧ MapR m R ck K ∧ OrdOk l out ∧ (∀ r ∈ R, r.1 ∈ l ∧ r.1.1 ∉ out) ∧ (∀ n ∈ l, n.1 ∈ out ∨ ∃ r ∈ R, r.1 = n) ∧ RowZ 1 28 31 H b6 (nuK out).length (fun t => [.sl (nuK out) t]) K ∧ ρ 3 = .sc (.map (some m)) ∧ ρ 6 = ptr b6) ?_ (m := R.length) (HLe.refl _)
      ⟨R, ck, [], rfl, hRlen, hMR6, ⟨by simp, by simp, by simp⟩, fun r hr => ⟨by rw [← hRl]; exact List.mem_map_of_mem hr, by simp⟩, fun n hn' => .inr (by rw [← hRl] at hn'; obtain ⟨r, hr, e⟩ := List.mem_map.1 hn'; exact ⟨r, hr, e⟩), row6, by simp [r3], by simp⟩
    clear row6 hMR6 hRlen r3 r10 r11 r12 hRl
    rintro μ ρ K ih ⟨R, ck, out, rfl, hRlen, hMR, hO, hR1, hR2, row, r3, r6⟩
    have hol : out.length ≤ l.length := by
      have := nodup_len _ _ hO.nd hO.sub
      rwa [ids_len] at this
    simp -implicitDefEqProofs [r3, r6]
    refine ACall.intro (c_keys2 (m := m)) fun v K1 hv => ?_
    obtain ⟨c1, rfl, hK1, kc1⟩ := hv
    simp -implicitDefEqProofs
    obtain ⟨hb1, hb2, hb3⟩ := hMR.born
    refine ACall.intro (c_sortedF (lb := #[.pointer (some ⟨c1, 0, none⟩)]) (by simp; omega) (iter_keys2 hb1 hb2 (hK1 _ _ hMR.at_) kc1) (fun ks e => by rw [e.length_eq]; simp; omega)) fun v K2 hv => ?_
    obtain ⟨ks, ⟨k0, hp0, hp⟩, _, rfl, hK2⟩ := hv
    have hks : ks.Perm (R.map fun r => r.1.1) := by
      have := hp.trans hp0
      rwa [List.map_map] at this
    have hMR2 : MapR m R ck K2 := ⟨hK2 _ _ (hK1 _ _ hMR.at_), hMR.lt, hMR.nb, hMR.nk⟩
    have row2 := (row.up hK1).up hK2
    clear hMR row hp hp0 hK1 hK2 kc1
    have hkl : ks.length = R.length := by rw [hks.length_eq, List.length_map]
    simp -implicitDefEqProofs
    refine AGo.rounds (fun μ ρ K' => ∃ i : Nat, μ = ks.length - i ∧ i ≤ ks.length ∧ (∀ a ∈ ks.take i, ∃ r ∈ R, r.1.1 = a ∧ ∃ d ∈ r.1.2, d ∉ out) ∧ ρ 3 = .sc (.map (some m)) ∧ ρ 6 = ptr b6 ∧ ρ 24 = .sl (nuK ks) .no ∧ ρ 25 = .sc (.int .i64 (ks.length : Int)) ∧ ρ 26 = .sc (.int .i64 (i : Int)) ∧ K' = K2) ?_ (m := ks.length) (HLe.refl _)
      ⟨0, rfl, by omega, by simp, by simp [r3], by simp [r6], by simp, by simp, by simp, rfl⟩
    clear r3 r6
    rintro μ ρ K' ih2 ⟨i, rfl, hi2, hdone, r3, r6, r24, r25, r26, rfl⟩
    obtain ⟨tk, kb6, _⟩ := row2.row
    by_cases hlt : i < ks.length
    · have hlt' : (i : Int) < (ks.length : Int) := by omega
      obtain ⟨y, hyj, hy⟩ := getAt hlt
      have w1 : IntKind.i64.wrap ((i : Int) + 1) = ((i + 1 : Nat) : Int) := by rw [wrap_i64 (by omega) (by omega)]; omega
      obtain ⟨r, hr, hry⟩ := List.mem_map.1 (hks.subset (List.mem_of_getElem? hy))
      obtain ⟨j, hj, hje⟩ := List.getElem_of_mem hr
      have hj' : R[j]? = some r := by rw [List.getElem?_eq_getElem hj, hje]
      have hj2 : (R.map rME)[j]? = some (rME r) := by rw [List.getElem?_map, hj']; rfl
      have hhit := hit_me hb3 hj2
      have hkey : uAV (rME r).1 = uAV y := by rw [← hry]
      rw [hkey] at hhit
      have hr8 := h8 _ (hR1 r hr).1
      simp -implicitDefEqProofs [r3, r6, r24, r25, r26, hlt, hlt', hyj, st_lookup]
      refine ACall.eq (c_lookup1 m_deps hdk hMR2.at_ (acheck_n y) hhit) ?_
      simp -implicitDefEqProofs [r6]
      refine ACall.intro (c_containsF r.1.2 out .no tk b6 (by omega) (by omega) kb6) fun v K3 hv => ?_
      obtain ⟨res, rfl, hres, rfl⟩ := hv
      cases res with
      | true =>
        simp -implicitDefEqProofs [r26, w1]
        exact AGo.again ih2 (m' := ks.length - (i + 1)) (by omega) (HLe.refl _) ⟨i + 1, rfl, by omega, fun a ha => by
          rw [List.take_add_one, hy] at ha
          rcases List.mem_append.1 ha with ha | ha
          · exact hdone a ha
          · simp at ha; subst ha; exact ⟨r, hr, hry, hres.1 rfl⟩, by simp [r3], by simp [r6], by simp [r24], by simp [r25], by simp, rfl⟩
      | false =>
        have hall : ∀ d ∈ r.1.2, d ∈ out := fun d hd => Classical.byContradiction fun h => by
          have := hres.2 ⟨d, hd, h⟩
          cases this
        simp -implicitDefEqProofs [r3, r6]
        refine ACall.eq (c_delete m_deps hdk hMR2.at_ (acheck_n y) hhit) ?_
        have hmb' : m ≠ b6 := hmb
        have row3 := row2.setO (o' := .map (((R.map rME).map meAV).eraseIdx j) ck) hm0 hmb hMR2.at_ (fun _ _ _ _ h => by cases h)
        have hMR3 : MapR m (R.eraseIdx j) ck (K3.set m (.map (((R.map rME).map meAV).eraseIdx j) ck)) := hMR2.erase (by simp [Heap.set])
        generalize K3.set m _ = K4 at *
        obtain ⟨tk4, kb4, _⟩ := row3.row
        have hd : nuK out ++ [(.sc (.int .u64 (y : Int)) : AV)] = nuK (out ++ [y]) := by simp
        have hxl : (nuK out).length = out.length := by simp
        have hsz : szs 1 (nuK out) = true := by simp [szs, AV.cells]
        obtain ⟨tk', G0, G', g1, g2, g3, g4, g5, g6⟩ := row3.grows'
        obtain rfl : tk4 = tk' := by rw [kb4] at g1; simpa using g1
        simp -implicitDefEqProofs [r3, r6, kb4]
        refine AApp.grows el_31 g2 g3 (by simp) hsz (by simp [szs, AV.cells]) (by simp; omega) (by simp [maxLen]; omega) fun t' K5 Hn hg' hl' => ?_
        obtain ⟨ys, hys⟩ : ∃ ys, nuK (out ++ [y]) = ys := ⟨_, rfl⟩
        rw [hd, hys] at hg' ⊢
        have hn5 := hl' _ _ (hg'.le _ _ g5)
        have kp : ∀ {p : Nat} {o : AObj}, K4 p = some o → (∀ n cap sz e, o ≠ .open n cap sz e) → Hn p = some o := fun {p o} hp ho => hl' _ _ (hg'.le _ _ (g6 p o hp ho))
        have hsd := RowZ.stored (T := 31) (F := fun t' => [.sl ys t']) g4 row3.no g5 hg' hl'
        simp -implicitDefEqProofs [r6, hn5]
        have hsp := erase_split hj'
        have hR' : R.eraseIdx j = R.take j ++ R.drop (j + 1) := List.eraseIdx_eq_take_drop_succ _ _
        have hnk := hMR2.nk
        have hsub : ∀ r' ∈ R.eraseIdx j, r' ∈ R ∧ r'.1.1 ≠ y := fun r' hr' => by
          refine ⟨(List.eraseIdx_sublist R j).subset hr', fun e => ?_⟩
          rw [hsp, List.map_append, List.map_cons, List.nodup_append, List.nodup_cons] at hnk
          rw [hR'] at hr'
          rcases List.mem_append.1 hr' with h | h
          · exact hnk.2.2 _ (List.mem_map_of_mem h) _ (List.mem_cons_self) (by rw [e, hry])
          · exact hnk.2.1.1 (by rw [hry, ← e]; exact List.mem_map_of_mem h)
        have hlen2 : (R.eraseIdx j).length < R.length := by rw [List.length_eraseIdx_of_lt hj]; omega
        refine AGo.again ih (m' := (R.eraseIdx j).length) hlen2 (HLe.refl _) ⟨R.eraseIdx j, ck, out ++ [y], rfl, by omega, ⟨by simp only [Heap.set, if_neg hmb]; exact kp hMR3.at_ (fun _ _ _ _ h => by cases h), hMR3.lt, hMR3.nb, hMR3.nk⟩, ?_, fun r' hr' => ?_, fun n hn' => ?_, by rw [hys]; exact hsd, by simp [r3], by simp [r6]⟩
        · rw [← hry]
          exact hO.app (hR1 r hr).1 (hR1 r hr).2 hall
        · obtain ⟨h1, h2⟩ := hsub r' hr'
          refine ⟨(hR1 r' h1).1, fun h => ?_⟩
          rcases List.mem_append.1 h with h | h
          · exact (hR1 r' h1).2 h
          · exact h2 (List.mem_singleton.1 h)
        · rcases hR2 n hn' with h | ⟨r', hr', e⟩
          · exact .inl (List.mem_append.2 (.inl h))
          · rw [hsp] at hr'
            rw [hR']
            rcases List.mem_append.1 hr' with h | h
            · exact .inr ⟨r', List.mem_append.2 (.inl h), e⟩
            · rcases List.mem_cons.1 h with rfl | h
              · exact .inl (List.mem_append.2 (.inr (by rw [← e, hry]; simp)))
              · exact .inr ⟨r', List.mem_append.2 (.inr h), e⟩
    · have hlt' : ¬ (i : Int) < (ks.length : Int) := by omega
      rw [List.take_of_length_le (by omega)] at hdone
      simp -implicitDefEqProofs [r3, r6, r24, r25, r26, hlt, hlt', kb6]
      subst hR
      refine AFin.intro (.sl (nuK out) .no) _ (by simp [wk]) (HWk.refl _) ⟨out, rfl, hO, fun n hn' hno => ?_, row2.le⟩
      rcases hR2 n hn' with h | ⟨r, hr, e⟩
      · exact absurd h hno
      · obtain ⟨r', hr', e2, d, hd1, hd2⟩ := hdone n.1 (hks.symm.subset (List.mem_map.2 ⟨r, hr, by rw [e]⟩))
        have : r'.1 = n := map_inj (f := fun n : Nd => n.1) hn (hR1 r' hr').1 hn' e2
        rw [this] at hd1
        exact ⟨d, hd1, hd2⟩
end Go.Proofs.YtlhgpodfhdddkaaGreatDoor
namespace Go.Proofs.YtlhgpodfhdddkaaGreatDoor
open Rg Go Go.RowKit
variable {H : Heap}
theorem raw_up {H0 K K' : Heap} {e : TypeId} {xs : List AV} {v : AV} (h : RawRow H0 e xs v K) (hl : HLe K K') : RawRow H0 e xs v K' :=
  ⟨h.1.trans hl, h.2.imp id fun ⟨g, zs, h1, h2, h3, h4⟩ => ⟨g, zs, h1, h2, hl _ _ h3, h4⟩⟩
set_option maxHeartbeats 4000000 in
theorem c_graphMay (l : List Nd) (t : Rg.Tok) (hl : l.length < 50) (hdl : ∀ n ∈ l, n.2.length ≤ 1000000) :
    ACalls Tryz.prog 24 [.sl (ndsAV l) t] H (fun v K => v = .sc (.int .i64 (mayN l)) ∧ HLe H K) := by
  obtain ⟨res, hres⟩ : ∃ r, mayN l = r := ⟨_, rfl⟩
  rw [hres]
  generalize hR : (fun (v : AV) (K : Heap) => v = .sc (.int .i64 res) ∧ HLe H K) = R
  unfold mayN at hres
  have h64' : ¬ 64 < (l.length : Int) := by omega
  refine ACalls.into Tryz.func24 rfl Tryz.ntmps24 Tryz.results24 (by simp) ?_
  simp -implicitDefEqProofs [h64']
  refine AGo.rounds (fun μ ρ K => ∃ (i : Nat) (tk : Rg.Tok) (xs : List AV), μ = l.length - i ∧ i ≤ l.length ∧ (∀ n ∈ l.take i, n.2.length ≤ 8) ∧ HLe H K ∧ xs = nuK (idsN (l.take i)) ∧ GrowsK H xs.length 1 28 tk K ∧ ρ 0 = .sl (ndsAV l) t ∧ ρ 3 = .sl xs tk ∧ ρ 15 = .sl (ndsAV l) t ∧ ρ 16 = .sc (.int .i64 (l.length : Int)) ∧ ρ 17 = .sc (.int .i64 (i : Int))) ?_ (m := l.length) (HLe.refl _)
    ⟨0, .nil, [], rfl, by omega, by simp, HLe.refl _, by simp, .inl ⟨rfl, rfl⟩, by simp, by simp, by simp, by simp, by simp⟩
  rintro μ ρ K ih ⟨i, tk, xs, rfl, hi, hno, hK, hxs, hg, r0, r3, r15, r16, r17⟩
  by_cases hlt : i < l.length
  · have hlt' : (i : Int) < (l.length : Int) := by omega
    obtain ⟨y, hyj, hy⟩ := getAt hlt
    have w1 : IntKind.i64.wrap ((i : Int) + 1) = ((i + 1 : Nat) : Int) := by rw [wrap_i64 (by omega) (by omega)]; omega
    have hd : nuK (idsN (l.take i)) ++ [(.sc (.int .u64 (y.1 : Int)) : AV)] = nuK (idsN (l.take (i + 1))) := by rw [List.take_add_one, hy]; simp
    have hxl : (nuK (idsN (l.take i))).length = i := by simp; omega
    have hsz : szs 1 (nuK (idsN (l.take i))) = true := szs_map (f := fun n : Nat => (.sc (.int .u64 (n : Int)) : AV)) (fun _ => rfl) _
    obtain ⟨ys, hys⟩ : ∃ ys, nuK (idsN (l.take (i + 1))) = ys := ⟨_, rfl⟩
    rw [hys] at hd
    rw [← hxs] at hd hxl hsz
    simp -implicitDefEqProofs [r0, r3, r15, r16, r17, hlt, hlt', hyj, AV.cells]
    refine AAlloc.intro fun b5 h5 => ?_
    by_cases h8 : 8 < y.2.length
    · have h8' : 8 < (y.2.length : Int) := by omega
      rw [if_pos (.inr ⟨y, List.mem_of_getElem? hy, h8⟩)] at hres
      simp -implicitDefEqProofs [h8']
      subst hR
      exact AFin.intro _ _ (wk_refl _) (HWk.refl _) ⟨by rw [hres], hK.trans (HLe.set_fresh h5)⟩
    · have h8' : ¬ 8 < (y.2.length : Int) := by omega
      obtain ⟨G0, G, g1, g2, g3, _⟩ := hg.grows hK
      simp -implicitDefEqProofs [h8', r3]
      refine AApp.grows el_31 g1 (g2.trans (HLe.set_fresh h5)) (by simp) hsz (by simp [szs, AV.cells]) (by simp; omega) (by simp [maxLen]; omega) fun t' K4 Hn hg' hl' => ?_
      rw [hd] at hg' ⊢
      obtain ⟨c1, c2⟩ := GrowsK.of g3 hg' hl'
      simp -implicitDefEqProofs [r17, w1]
      exact AGo.again ih (m' := l.length - (i + 1)) (by omega) (HLe.refl _) ⟨i + 1, t', ys, rfl, by omega, fun n hn => by
        rw [List.take_add_one, hy] at hn
        rcases List.mem_append.1 hn with hn | hn
        · exact hno n hn
        · simp at hn; rw [hn]; omega, c2, hys.symm, c1, by simp [r0], by simp, by simp [r15], by simp [r16], by simp⟩
  have hlt' : ¬ (i : Int) < (l.length : Int) := by omega
  rw [List.take_of_length_le (by omega)] at hno hxs
  subst hxs
  have hIl := ids_len l
  have hNI : noneN l ↔ ∃ n ∈ l, ∃ d ∈ n.2, d ∉ idsN l := .rfl
  obtain ⟨I, hI⟩ : ∃ I, idsN l = I := ⟨_, rfl⟩
  rw [hI] at r3 hg hIl hNI
  have hL : ¬ longN l := by
    rintro (h | ⟨n, hn, h⟩)
    · omega
    · have := hno n hn; omega
  rw [if_neg hL] at hres
  simp -implicitDefEqProofs [r0, r3, r15, r16, r17, hlt, hlt']
  clear ih hlt hlt' hg r15 r16 r17
  refine ACall.intro (c_twice I tk (by omega)) fun v K1 hv => ?_
  obtain ⟨rfl, hK1⟩ := hv
  have hK := hK.trans hK1
  by_cases hnd : I.Nodup
  case neg =>
    rw [if_pos (.inl (by rw [hI]; exact hnd))] at hres
    simp -implicitDefEqProofs [hnd]
    subst hR
    exact AFin.intro _ _ (wk_refl _) (HWk.refl _) ⟨by rw [hres], hK⟩
  simp -implicitDefEqProofs [hnd, r0]
  refine AGo.rounds (fun μ ρ K => ∃ i : Nat, μ = l.length - i ∧ i ≤ l.length ∧ (∀ n ∈ l.take i, n.2.Nodup) ∧ HLe H K ∧ ρ 0 = .sl (ndsAV l) t ∧ ρ 3 = .sl (nuK I) tk ∧ ρ 33 = .sl (ndsAV l) t ∧ ρ 34 = .sc (.int .i64 (l.length : Int)) ∧ ρ 35 = .sc (.int .i64 (i : Int))) ?_ (m := l.length) (HLe.refl _)
    ⟨0, rfl, by omega, by simp, hK, by simp [r0], by simp [r3], by simp [r0], by simp, by simp⟩
  clear r0 r3 hK hK1
  rintro μ ρ K ih ⟨i, rfl, hi, hnn, hK, r0, r3, r33, r34, r35⟩
  by_cases hlt : i < l.length
  · have hlt' : (i : Int) < (l.length : Int) := by omega
    obtain ⟨y, hyj, hy⟩ := getAt hlt
    have hyl := List.mem_of_getElem? hy
    have hy8 := hno y hyl
    have w1 : IntKind.i64.wrap ((i : Int) + 1) = ((i + 1 : Nat) : Int) := by rw [wrap_i64 (by omega) (by omega)]; omega
    simp -implicitDefEqProofs [r0, r3, r33, r34, r35, hlt, hlt', hyj, AV.cells]
    refine AAlloc.intro fun b5 h5 => ?_
    simp -implicitDefEqProofs
    refine ACall.intro (c_twice y.2 .no (by omega)) fun v K1 hv => ?_
    obtain ⟨rfl, hK1⟩ := hv
    have hK2 := (hK.trans (HLe.set_fresh h5)).trans hK1
    by_cases hyn : y.2.Nodup
    · simp -implicitDefEqProofs [hyn, r35, w1]
      exact AGo.again ih (m' := l.length - (i + 1)) (by omega) (HLe.refl _) ⟨i + 1, rfl, by omega, fun z hz => by
        rw [List.take_add_one, hy] at hz
        rcases List.mem_append.1 hz with hz | hz
        · exact hnn z hz
        · simp at hz; rw [hz]; exact hyn, hK2, by simp [r0], by simp [r3], by simp [r33], by simp [r34], by simp⟩
    · rw [if_pos (.inr ⟨y, hyl, hyn⟩)] at hres
      simp -implicitDefEqProofs [hyn]
      subst hR
      exact AFin.intro _ _ (wk_refl _) (HWk.refl _) ⟨by rw [hres], hK2⟩
  have hlt' : ¬ (i : Int) < (l.length : Int) := by omega
  rw [List.take_of_length_le (by omega)] at hnn
  have hT : ¬ twiceN l := by
    rintro (h | ⟨n, hn, h⟩)
    · rw [hI] at h; exact h hnd
    · exact h (hnn n hn)
  rw [if_neg hT] at hres
  simp -implicitDefEqProofs [r0, r3, r33, r34, r35, hlt, hlt']
  clear ih hlt hlt' r33 r34 r35
  refine AGo.rounds (fun μ ρ K => ∃ i : Nat, μ = l.length - i ∧ i ≤ l.length ∧ (∀ n ∈ l.take i, ∀ d ∈ n.2, d ∈ I) ∧ HLe H K ∧ ρ 0 = .sl (ndsAV l) t ∧ ρ 3 = .sl (nuK I) tk ∧ ρ 43 = .sl (ndsAV l) t ∧ ρ 44 = .sc (.int .i64 (l.length : Int)) ∧ ρ 45 = .sc (.int .i64 (i : Int))) ?_ (m := l.length) (HLe.refl _)
    ⟨0, rfl, by omega, by simp, hK, by simp [r0], by simp [r3], by simp [r0], by simp, by simp⟩
  clear r0 r3 hK
  rintro μ ρ K ih ⟨i, rfl, hi, hds, hK, r0, r3, r43, r44, r45⟩
  by_cases hlt : i < l.length
  · have hlt' : (i : Int) < (l.length : Int) := by omega
    obtain ⟨y, hyj, hy⟩ := getAt hlt
    have hyl := List.mem_of_getElem? hy
    have hy8 := hno y hyl
    have w1 : IntKind.i64.wrap ((i : Int) + 1) = ((i + 1 : Nat) : Int) := by rw [wrap_i64 (by omega) (by omega)]; omega
    simp -implicitDefEqProofs [r0, r3, r43, r44, r45, hlt, hlt', hyj, AV.cells]
    refine AAlloc.intro fun b5 h5 => ?_
    simp -implicitDefEqProofs
    refine AGo.rounds (fun μ ρ K' => ∃ k : Nat, μ = y.2.length - k ∧ k ≤ y.2.length ∧ (∀ d ∈ y.2.take k, d ∈ I) ∧ HLe H K' ∧ ρ 0 = .sl (ndsAV l) t ∧ ρ 3 = .sl (nuK I) tk ∧ ρ 43 = .sl (ndsAV l) t ∧ ρ 44 = .sc (.int .i64 (l.length : Int)) ∧ ρ 45 = .sc (.int .i64 (i : Int)) ∧ ρ 50 = .sl (nuAV y.2) .no ∧ ρ 51 = .sc (.int .i64 (y.2.length : Int)) ∧ ρ 52 = .sc (.int .i64 (k : Int))) ?_ (m := y.2.length) (HLe.refl _)
      ⟨0, rfl, by omega, by simp, hK.trans (HLe.set_fresh h5), by simp [r0], by simp [r3], by simp [r43], by simp [r44], by simp [r45], by simp, by simp, by simp⟩
    clear r0 r3 r43 r44 r45
    rintro μ ρ K' ih2 ⟨k, rfl, hk, hdk, hK', r0, r3, r43, r44, r45, r50, r51, r52⟩
    by_cases hkt : k < y.2.length
    · have hkt' : (k : Int) < (y.2.length : Int) := by omega
      obtain ⟨z, hzj, hz⟩ := getAt hkt
      have w2 : IntKind.i64.wrap ((k : Int) + 1) = ((k + 1 : Nat) : Int) := by rw [wrap_i64 (by omega) (by omega)]; omega
      simp -implicitDefEqProofs [r0, r3, r43, r44, r45, r50, r51, r52, hkt, hkt', hzj]
      refine ACall.eq (c_containsU I tk z (by omega)) ?_
      by_cases hpm : z ∈ I
      · simp -implicitDefEqProofs [hpm, r52, w2]
        exact AGo.again ih2 (m' := y.2.length - (k + 1)) (by omega) (HLe.refl _) ⟨k + 1, rfl, by omega, fun d hd => by
          rw [List.take_add_one, hz] at hd
          rcases List.mem_append.1 hd with hd | hd
          · exact hdk d hd
          · simp at hd; rw [hd]; exact hpm, hK', by simp [r0], by simp [r3], by simp [r43], by simp [r44], by simp [r45], by simp [r50], by simp [r51], by simp⟩
      · rw [if_pos (hNI.2 ⟨y, hyl, z, List.mem_of_getElem? hz, hpm⟩)] at hres
        simp -implicitDefEqProofs [hpm]
        subst hR
        exact AFin.intro _ _ (wk_refl _) (HWk.refl _) ⟨by rw [hres], hK'⟩
    · have hkt' : ¬ (k : Int) < (y.2.length : Int) := by omega
      rw [List.take_of_length_le (by omega)] at hdk
      simp -implicitDefEqProofs [r0, r3, r43, r44, r45, r50, r51, r52, hkt, hkt', w1]
      exact AGo.again ih (m' := l.length - (i + 1)) (by omega) (HLe.refl _) ⟨i + 1, rfl, by omega, fun n hn => by
        rw [List.take_add_one, hy] at hn
        rcases List.mem_append.1 hn with hn | hn
        · exact hds n hn
        · simp at hn; rw [hn]; exact hdk, hK', by simp [r0], by simp [r3], by simp [r43], by simp [r44], by simp⟩
  have hlt' : ¬ (i : Int) < (l.length : Int) := by omega
  rw [List.take_of_length_le (by omega)] at hds
  have hN : ¬ noneN l := by
    rw [hNI]
    rintro ⟨n, hn, d, hd, h⟩
    exact h (hds n hn d hd)
  rw [if_neg hN] at hres
  simp -implicitDefEqProofs [r0, r3, r43, r44, r45, hlt, hlt']
  rw [← hI] at hnd
  refine ACall.intro (c_order l t hnd hl hno) fun v K1 hv => ?_
  obtain ⟨out, rfl, hO, hs, hK1⟩ := hv
  have hcirc := ord_circ hO hnd hN hs
  by_cases hlo : out.length < l.length
  · have hlo' : (out.length : Int) < (l.length : Int) := by omega
    rw [if_pos (hcirc.1 hlo)] at hres
    simp -implicitDefEqProofs [r0, hlo, hlo']
    subst hR
    exact AFin.intro _ _ (wk_refl _) (HWk.refl _) ⟨by rw [hres], hK.trans hK1⟩
  · have hlo' : ¬ (out.length : Int) < (l.length : Int) := by omega
    rw [if_neg (fun h => hlo (hcirc.2 h))] at hres
    simp -implicitDefEqProofs [r0, hlo, hlo']
    subst hR
    exact AFin.intro _ _ (wk_refl _) (HWk.refl _) ⟨by rw [hres], hK.trans hK1⟩
set_option maxHeartbeats 2000000 in
theorem c_users (l : List Nd) (t : Rg.Tok) (x : Nat) (hl : l.length < 50) (hdl : ∀ n ∈ l, n.2.length ≤ 1000000) :
    ACalls Tryz.prog 39 [.sl (ndsAV l) t, .sc (.int .u64 (x : Int))] H (fun v K => ∃ (A : Option Addr) (k cap : Nat), v = .sc (.slice A k cap) ∧ (0 < k ↔ ∃ n ∈ l, x ∈ n.2) ∧ HLe H K) := by
  generalize hR : (fun (v : AV) (K : Heap) => ∃ (A : Option Addr) (k cap : Nat), v = .sc (.slice A k cap) ∧ (0 < k ↔ ∃ n ∈ l, x ∈ n.2) ∧ HLe H K) = R
  have h64' : ¬ 64 < (l.length : Int) := by omega
  refine ACalls.into Tryz.func39 rfl Tryz.ntmps39 Tryz.results39 (by simp) ?_
  simp -implicitDefEqProofs [h64']
  refine AGo.roundsB 5 (fun μ ρ K => ∃ (i : Nat) (us : List Nat) (v : AV), μ = l.length - i ∧ i ≤ l.length ∧ us.length ≤ i ∧ (us ≠ [] ↔ ∃ n ∈ l.take i, x ∈ n.2) ∧ RawRow H 28 (nuK us) v K ∧ ρ 1 = .sc (.int .u64 (x : Int)) ∧ ρ 5 = v ∧ ρ 11 = .sl (ndsAV l) t ∧ ρ 12 = .sc (.int .i64 (l.length : Int)) ∧ ρ 13 = .sc (.int .i64 (i : Int))) ?_ (m := l.length) (by simp)
    ⟨0, [], _, rfl, by omega, by simp, by simp, .none, by simp, by simp, by simp, by simp, by simp⟩
  rintro μ ρ K ih ⟨i, us, v, rfl, hi, hul, hus, hraw, r1, r5, r11, r12, r13⟩
  by_cases hlt : i < l.length
  · have hlt' : (i : Int) < (l.length : Int) := by omega
    obtain ⟨y, hyj, hy⟩ := getAt hlt
    have hyl := List.mem_of_getElem? hy
    have hy8 := hdl y hyl
    have w1 : IntKind.i64.wrap ((i : Int) + 1) = ((i + 1 : Nat) : Int) := by rw [wrap_i64 (by omega) (by omega)]; omega
    have htk : ∀ n, n ∈ l.take (i + 1) ↔ n ∈ l.take i ∨ n = y := fun n => by rw [List.take_add_one, hy]; simp
    simp -implicitDefEqProofs [r1, r5, r11, r12, r13, hlt, hlt', hyj, AV.cells]
    refine AAlloc.intro fun b7 h7 => ?_
    simp -implicitDefEqProofs [r1]
    refine ACall.eq (c_containsU y.2 .no x hy8) ?_
    have hraw2 := raw_up hraw (HLe.set_fresh (o := .cells [.sc (.int .u64 (y.1 : Int)), .sl (nuAV y.2) .no] 76) h7)
    by_cases hx : x ∈ y.2
    · have hd : nuK us ++ [uAV y.1] = nuK (us ++ [y.1]) := by simp
      obtain ⟨A, cap, rfl⟩ := hraw2.form
      have hul' : (nuK us).length = us.length := by simp
      have hul2 : (nuK (us ++ [y.1])).length = us.length + 1 := by simp
      generalize nuK us = xs at *
      obtain ⟨ys, hys⟩ : ∃ ys, nuK (us ++ [y.1]) = ys := ⟨_, rfl⟩
      rw [hys] at hd hul2
      simp -implicitDefEqProofs [hx, r5]
      refine ACall.intro (app_rawF hraw2 rfl (by omega)) fun v' K' hv' => ?_
      rw [hd] at hv'
      obtain ⟨A', cap', rfl⟩ := hv'.form
      simp -implicitDefEqProofs [r13, w1]
      exact AGo.again ih (m' := l.length - (i + 1)) (by omega) (HLe.refl _) ⟨i + 1, us ++ [y.1], _, rfl, by omega, by simp; omega, ⟨fun _ => ⟨y, (htk y).2 (.inr rfl), hx⟩, fun _ => by simp⟩, by rw [hys]; exact hv', by simp [r1], by simp, by simp [r11], by simp [r12], by simp⟩
    · simp -implicitDefEqProofs [hx, r13, w1]
      exact AGo.again ih (m' := l.length - (i + 1)) (by omega) (HLe.refl _) ⟨i + 1, us, v, rfl, by omega, by omega, by
        rw [hus]
        exact ⟨fun ⟨n, hn, h⟩ => ⟨n, (htk n).2 (.inl hn), h⟩, fun ⟨n, hn, h⟩ => by
          rcases (htk n).1 hn with hn | rfl
          · exact ⟨n, hn, h⟩
          · exact absurd h hx⟩, hraw2, by simp [r1], by simp [r5], by simp [r11], by simp [r12], by simp⟩
  · have hlt' : ¬ (i : Int) < (l.length : Int) := by omega
    rw [List.take_of_length_le (by omega)] at hus
    simp -implicitDefEqProofs [r1, r5, r11, r12, r13, hlt, hlt']
    obtain ⟨hK, hc⟩ := hraw
    rcases hc with ⟨hn, rfl⟩ | ⟨g, zs, h1, rfl, h2, h3⟩
    · have hus0 : us = [] := by simpa using hn
      subst hus0
      refine ACall.intro (ACalls.bareNil c_sortNil) fun v K2 hv => ?_
      obtain ⟨rfl, rfl⟩ := hv
      simp -implicitDefEqProofs [r5]
      refine ACall.eq c_compactNil ?_
      simp -implicitDefEqProofs
      subst hR
      exact AFin.intro _ _ (wk_refl _) (HWk.refl _) ⟨none, 0, 0, rfl, ⟨fun h => by omega, fun h => absurd rfl (hus.2 h)⟩, hK⟩
    · have e1 : (nuK us).length = us.length := by simp
      rw [e1] at h3 r5
      have h2' : K g = some (rowC 28 us.toArray zs) := by rw [st_row, h2, nuK_arr]
      rw [e1]
      refine ACall.intro (c_sort (n := us.length) (cap := us.length + zs.length) (by simp) (by omega) h2') fun v K2 hv => ?_
      obtain ⟨rfl, d, d1, d2, d3, d4⟩ := hv
      have kd : K2 g = some (rowC 28 d zs) := d4 _ _ (by simp [Heap.set])
      simp -implicitDefEqProofs [r5]
      refine ACall.intro (c_compact (n := us.length) (cap := us.length + zs.length) d1 (by omega) (by omega) kd) fun v K3 hv => ?_
      obtain ⟨k, cs, rfl, hk, hk0, _, rfl⟩ := hv
      simp -implicitDefEqProofs
      subst hR
      refine AFin.intro _ _ (wk_refl _) (HWk.refl _) ⟨_, k, _, rfl, ?_, HLe.set_new ((HLe.set_new hK h1).trans d4) h1⟩
      rw [← hus]
      constructor
      · intro h e
        rw [e] at hk
        simp at hk
        omega
      · intro h
        exact hk0 (List.length_pos_iff.2 h)
end Go.Proofs.YtlhgpodfhdddkaaGreatDoor
