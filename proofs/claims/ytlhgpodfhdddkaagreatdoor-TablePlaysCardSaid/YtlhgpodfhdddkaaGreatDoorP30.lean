/- A table of jobs: it plays as the document's: the law's walk. What a law's row lists of package variables, as the start heap of its run; a world that meets it. -/
import Derived.Test.YtlhgpodfhdddkaaGreatDoorP29
import Derived.Test.YtlhgpodfhdddkaaGreatDoorP14
import Derived.Test.YtlhgpodfhdddkaaGreatDoorP08
import Derived.Lib.LaidU8
set_option linter.unusedSimpArgs false
set_option linter.unusedVariables false
set_option linter.unnecessarySimpa false
namespace Go.Proofs.YtlhgpodfhdddkaaGreatDoor
open Rg Go Go.RowKit
variable {H : Heap}
def one8 (b8 : Nat) (o : AObj) : Heap := fun p => if p = b8 then some o else none
theorem hc_one {b8 : Nat} {o : AObj} {K : Heap} (h : K b8 = some o) : HC (one8 b8 o) K := fun b cs hb => by
  by_cases hb8 : b = b8
  · subst hb8
    unfold one8 at hb
    rw [if_pos rfl] at hb
    rw [h]; exact hb
  · unfold one8 at hb
    rw [if_neg hb8] at hb
    cases hb
structure Both (b m rb : Nat) (T : Tb) (K : Heap) : Prop where
  tab : ∃ ck R, R.map (fun r => r.1) = T.L ∧ TabAt b m ck R T.last K
  ref : RefAt rb T.L T.last K
theorem Both.ne {b m rb : Nat} {T : Tb} {K : Heap} (h : Both b m rb T K) : b ≠ rb ∧ m ≠ rb := by
  obtain ⟨ck, R, _, h1⟩ := h.tab
  obtain ⟨t, h2⟩ := h.ref
  constructor
  · rintro rfl
    rw [h1.bl] at h2
    simp at h2
  · rintro rfl
    rw [h1.at_] at h2
    cases h2
theorem Both.up {b m rb : Nat} {T : Tb} {K K' : Heap} (h : Both b m rb T K) (hl : HLe K K') : Both b m rb T K' := by
  obtain ⟨ck, R, h0, h1⟩ := h.tab
  exact ⟨⟨ck, R, h0, h1.up hl⟩, h.ref.up hl⟩
theorem RefAt.upd {b m rb last : Nat} {L : List Jb} {K K' : Heap} (h : RefAt rb L last K) (hu : Upd b m K K') (h1 : b ≠ rb) (h2 : m ≠ rb) : RefAt rb L last K' := h.imp fun _ h => hu _ _ h h1.symm h2.symm
theorem TabAt.upd {b m ck last c d : Nat} {R : List (Jb × Nat)} {K K' : Heap} (h : TabAt b m ck R last K) (hu : Upd c d K K') (h1 : b ≠ c) (h2 : b ≠ d) (h3 : m ≠ c) (h4 : m ≠ d) : TabAt b m ck R last K' :=
  ⟨hu _ _ h.bl h1 h2, hu _ _ h.at_ h3 h4, h.lt, h.nb, h.nk⟩
theorem both_of {b m rb : Nat} {T T' : Tb} {K K1 K2 : Heap} (h : Both b m rb T K) (hA : After b m T' K K1) (hr : RAfter rb T' K1 K2) : Both b m rb T' K2 := by
  obtain ⟨n1, n2⟩ := h.ne
  obtain ⟨R, last, ck, rfl, h1, _⟩ := hA
  exact ⟨⟨ck, R, rfl, h1.upd hr.2 n1 n1 n2 n2⟩, hr.1⟩
structure PSt (l : List Op15) (nm : List UInt8) (i : Nat) (b m rb : Nat) (T : Tb) (H K : Heap) : Prop where
  both : Both b m rb T K
  ok : TbOk T i
  le : HLe H K
  eb : H b = none
  em : H m = none
theorem le_upd {H K K' : Heap} {b m : Nat} (h : HLe H K) (hu : Upd b m K K') (eb : H b = none) (em : H m = none) : HLe H K' := fun p o hp => hu p o (h p o hp) (by rintro rfl; rw [eb] at hp; cases hp) (by rintro rfl; rw [em] at hp; cases hp)
set_option maxHeartbeats 8000000 in
theorem tablePlays_walk (hG : Glob H) (l : List Op15) (hx : ∀ o ∈ l, o.job.ex.length ≤ 9223372036854775807) (nm : List UInt8) (hnm : nm.length ≤ 9223372036854775807) : AOk Tryz.prog 3 [.sl (opsAV l) .no, str nm] H (.sc (.bool true)) H := by
  refine ACalls.into Tryz.func3 rfl Tryz.ntmps3 Tryz.results3 (by simp) ?_
  generalize hR : ROk _ _ = Q
  have fin : ∀ {K}, HLe H K → AFin Q (.sc (.bool true)) K := fun h => by rw [← hR]; exact AFin.intro _ _ (wk_refl _) h.wk ⟨rfl, rfl⟩
  simp -implicitDefEqProofs
  refine ACall.intro (c_known15 hG) fun v K0 hv => ?_
  obtain ⟨rfl, l0⟩ := hv
  by_cases h60 : 60 < l.length
  · have h60' : 60 < (l.length : Int) := by omega
    simp -implicitDefEqProofs [h60']
    exact fin l0
  have h60' : ¬ 60 < (l.length : Int) := by omega
  by_cases h100 : 100 < nm.length
  · have h100' : 100 < (nm.length : Int) := by omega
    simp -implicitDefEqProofs [h60', h100, h100']
    exact fin l0
  have h100' : ¬ 100 < (nm.length : Int) := by omega
  simp -implicitDefEqProofs [h60', h100, h100']
  refine ACall.intro c_tNew fun v K1 hv => ?_
  obtain ⟨b, m, eb0, em0, rfl, hT, l1⟩ := hv
  have eb : H b = none := l0.none eb0
  have em : H m = none := l0.none em0
  simp -implicitDefEqProofs [AV.cells]
  refine AAlloc.intro fun rb hrb => ?_
  have er : H rb = none := (l0.trans l1).none hrb
  simp -implicitDefEqProofs
  generalize hK2 : Heap.set K1 rb _ = K2
  have l2 : HLe K1 K2 := by rw [← hK2]; exact HLe.set_fresh hrb
  have hr2 : RefAt rb [] 0 K2 := by rw [← hK2]; exact ⟨.nil, by simp [Heap.set]⟩
  clear hK2 hrb
  have hP0 : PSt l nm 0 b m rb ⟨[], 0⟩ H K2 := ⟨⟨⟨0, [], rfl, hT.up l2⟩, hr2⟩, tb0_ok, l0.trans (l1.trans l2), eb, em⟩
  refine AGo.rounds (fun μ ρ K => ∃ (i b m : Nat) (T : Tb), μ = l.length - i ∧ i ≤ l.length ∧ PSt l nm i b m rb T H K ∧ ρ 0 = .sl (opsAV l) .no ∧ ρ 1 = str nm ∧ ρ 5 = ptr b ∧ ρ 6 = ptr rb ∧ ρ 7 = .sc (.int .i64 (i : Int))) ?_ (m := l.length) (HLe.refl _)
    ⟨0, b, m, ⟨[], 0⟩, rfl, by omega, hP0, by simp, by simp, by simp, by simp, by simp⟩
  clear hP0 hr2 hT l0 l1 l2 eb0 em0 eb em
  rintro μ ρ K ih ⟨i, b, m, T, rfl, hi, hP, r0, r1, r5, r6, r7⟩
  by_cases hlt : i < l.length
  case neg =>
    have hlt' : ¬ (i : Int) < (l.length : Int) := by omega
    simp -implicitDefEqProofs [r0, r7, hlt, hlt']
    exact fin hP.le
  have hlt' : (i : Int) < (l.length : Int) := by omega
  obtain ⟨o, hoj, ho⟩ := getAt hlt
  have hol := List.mem_of_getElem? ho
  have hox := hx o hol
  have w1 : IntKind.i64.wrap ((i : Int) + 1) = ((i + 1 : Nat) : Int) := by rw [wrap_i64 (by omega) (by omega)]; omega
  simp -implicitDefEqProofs [r0, r7, hlt, hlt', hoj, AV.cells]
  refine AAlloc.intro fun b8 h8 => ?_
  have n8 : b8 ≠ b ∧ b8 ≠ m ∧ b8 ≠ rb := by
    obtain ⟨ck, R, _, h1⟩ := hP.both.tab
    obtain ⟨t, h2⟩ := hP.both.ref
    refine ⟨?_, ?_, ?_⟩
    · rintro rfl; rw [h1.bl] at h8; cases h8
    · rintro rfl; rw [h1.at_] at h8; cases h8
    · rintro rfl; rw [h2] at h8; cases h8
  obtain ⟨n8b, n8m, n8r⟩ := n8
  simp -implicitDefEqProofs
  generalize hK5 : Heap.set K b8 _ = K5
  have l5 : HLe K K5 := by rw [← hK5]; exact HLe.set_fresh h8
  have k8 : K5 b8 = some (.cells (opC o) 35) := by rw [← hK5]; simp [Heap.set]
  clear hK5 h8
  refine ACall.intro (c_great o.job) fun v K6 hv => ?_
  obtain ⟨rfl, l6⟩ := hv
  have l56 := l5.trans l6
  have lK6 := hP.le.trans l56
  cases hgr : greatJ o.job with
  | true =>
    simp -implicitDefEqProofs
    exact fin lK6
  | false =>
  have hB := hP.both.up l56
  have k8 := l6 _ _ k8
  obtain ⟨eb, em, hok⟩ := (⟨hP.eb, hP.em, hP.ok⟩ : H b = none ∧ H m = none ∧ TbOk T i)
  clear hP l5 l6 l56
  simp -implicitDefEqProofs [k8]
  refine ABr.join (fun ρ' K' => ∃ (b' m' : Nat) (T' : Tb) (nn : Nat) (ee : Int), PSt l nm (i + 1) b' m' rb T' H K' ∧ K' b8 = some (.cells (opC o) 35) ∧
    ρ' 0 = .sl (opsAV l) .no ∧ ρ' 1 = str nm ∧ ρ' 5 = ptr b' ∧ ρ' 6 = ptr rb ∧ ρ' 7 = .sc (.int .i64 (i : Int)) ∧ ρ' 8 = ptr b8 ∧ ρ' 9 = .sc (.int .u64 (nn : Int)) ∧ ρ' 10 = .sc (.int .u64 (nn : Int)) ∧ ρ' 11 = .sc (.int .i64 ee) ∧ ρ' 12 = .sc (.int .i64 ee)) (fun k' hk' => ?_) ?_
  · obtain ⟨L, last⟩ := T
    obtain ⟨ck, R, hRL, hT⟩ := hB.tab
    have hr := hB.ref
    obtain ⟨nbr, nmr⟩ := hB.ne
    simp only at hRL hT hr
    have hTT : tbOf R last = ⟨L, last⟩ := by rw [tbOf, hRL]
    have hokR : TbOk (tbOf R last) i := by rw [hTT]; exact hok
    have hG6 := hG.le lK6
    by_cases hk0 : o.kind = 0
    · simp -implicitDefEqProofs [hk0, r5, k8]
      refine ACall.intro (c_tAdd hG6 hT hokR (by omega) o.job hox) fun v K7 hv => ?_
      rw [hTT] at hv
      obtain ⟨rfl, hA⟩ := hv
      have hu : Upd b m K6 K7 := by obtain ⟨_, _, _, _, _, hu⟩ := hA; exact hu
      have k87 := hu _ _ k8 n8b n8m
      have hr7 := hr.upd hu nbr nmr
      simp -implicitDefEqProofs [r6, k87]
      refine ACall.intro (c_rAdd hr7 hok (by omega) o.job hox) fun v K8 hv => ?_
      obtain ⟨rfl, hRA⟩ := hv
      have k88 := hRA.2 _ _ k87 n8r n8r
      have lK8 := le_upd (le_upd lK6 hu eb em) hRA.2 er er
      simp -implicitDefEqProofs
      exact hk' _ _ ⟨b, m, _, (addT ⟨L, last⟩ o.job).1, (addT ⟨L, last⟩ o.job).2.1, ⟨both_of hB hA hRA, add_ok hok o.job, lK8, eb, em⟩, k88, by simp [r0], by simp [r1], by simp [r5], by simp [r6], by simp [r7], by simp, by simp, by simp, by simp, by simp⟩
    by_cases hk1 : o.kind = 1
    · simp -implicitDefEqProofs [hk0, hk1, r5, r6, k8]
      refine go_draw2 14 [0, 1, 2, 3, 4, 6, 7, 8, 9, 10] [5, 11, 12, 13] (one8 b8 (.cells (opC o) 35)) f_mixed (by decide +kernel) (hc_one k8) ?_
      simp -implicitDefEqProofs [one8, r5, r6]
      refine AES.call (c_tChange hG6 hT hokR (by omega) o.id o.job hox) fun v K7 hv => ?_
      rw [hTT] at hv
      obtain ⟨rfl, hA⟩ := hv
      have hu : Upd b m K6 K7 := by obtain ⟨_, _, _, _, _, hu⟩ := hA; exact hu
      have k87 := hu _ _ k8 n8b n8m
      have hr7 := hr.upd hu nbr nmr
      refine ⟨hc_one k87, ?_⟩
      simp -implicitDefEqProofs
      refine AES.call (c_rChange hr7 hok (by omega) o.id o.job hox) fun v K8 hv => ?_
      obtain ⟨rfl, hRA⟩ := hv
      have k88 := hRA.2 _ _ k87 n8r n8r
      have lK8 := le_upd (le_upd lK6 hu eb em) hRA.2 er er
      refine ⟨hc_one k88, ?_⟩
      simp -implicitDefEqProofs
      exact hk' _ _ ⟨b, m, _, 0, (changeT ⟨L, last⟩ o.id o.job).1, ⟨both_of hB hA hRA, change_ok hok o.id o.job, lK8, eb, em⟩, k88, by simp [r0], by simp [r1], by simp [r5], by simp [r6], by simp [r7], by simp, by simp, by simp, by simp, by simp⟩
    by_cases hk2 : o.kind = 2
    · simp -implicitDefEqProofs [hk0, hk1, hk2, r5, r6, k8]
      refine go_draw2 10 [0, 1, 2, 4, 5, 6] [3, 7, 8, 9] (one8 b8 (.cells (opC o) 35)) f_mixed (by decide +kernel) (hc_one k8) ?_
      simp -implicitDefEqProofs [one8, r5, r6]
      refine AES.call (c_tRemove hT hokR o.id) fun v K7 hv => ?_
      rw [hTT] at hv
      obtain ⟨rfl, hA⟩ := hv
      have hu : Upd b m K6 K7 := by obtain ⟨_, _, _, _, _, hu⟩ := hA; exact hu
      have k87 := hu _ _ k8 n8b n8m
      have hr7 := hr.upd hu nbr nmr
      refine ⟨hc_one k87, ?_⟩
      simp -implicitDefEqProofs
      refine AES.call (c_rRemove hr7 hok o.id) fun v K8 hv => ?_
      obtain ⟨rfl, hRA⟩ := hv
      have k88 := hRA.2 _ _ k87 n8r n8r
      have lK8 := le_upd (le_upd lK6 hu eb em) hRA.2 er er
      refine ⟨hc_one k88, ?_⟩
      simp -implicitDefEqProofs
      exact hk' _ _ ⟨b, m, _, 0, (removeT ⟨L, last⟩ o.id).1, ⟨both_of hB hA hRA, remove_ok hok o.id, lK8, eb, em⟩, k88, by simp [r0], by simp [r1], by simp [r5], by simp [r6], by simp [r7], by simp, by simp, by simp, by simp, by simp⟩
    by_cases hk3 : o.kind = 3
    · simp -implicitDefEqProofs [hk0, hk1, hk2, hk3, r5, r6, k8]
      refine go_draw2 18 [0, 1, 2, 3, 4, 5, 6, 8, 9, 10, 11, 12, 13, 14] [7, 15, 16, 17] (one8 b8 (.cells (opC o) 35)) f_mixed (by decide +kernel) (hc_one k8) ?_
      simp -implicitDefEqProofs [one8, r5, r6]
      refine AES.call (c_tPause hT hokR o.id o.pau o.seen) fun v K7 hv => ?_
      rw [hTT] at hv
      obtain ⟨rfl, hA⟩ := hv
      have hu : Upd b m K6 K7 := by obtain ⟨_, _, _, _, _, hu⟩ := hA; exact hu
      have k87 := hu _ _ k8 n8b n8m
      have hr7 := hr.upd hu nbr nmr
      refine ⟨hc_one k87, ?_⟩
      simp -implicitDefEqProofs
      refine AES.call (c_rPause hr7 hok o.id o.pau o.seen) fun v K8 hv => ?_
      obtain ⟨rfl, hRA⟩ := hv
      have k88 := hRA.2 _ _ k87 n8r n8r
      have lK8 := le_upd (le_upd lK6 hu eb em) hRA.2 er er
      refine ⟨hc_one k88, ?_⟩
      simp -implicitDefEqProofs
      exact hk' _ _ ⟨b, m, _, 0, (pauseT ⟨L, last⟩ o.id o.pau o.seen).1, ⟨both_of hB hA hRA, pause_ok hok o.id o.pau o.seen, lK8, eb, em⟩, k88, by simp [r0], by simp [r1], by simp [r5], by simp [r6], by simp [r7], by simp, by simp, by simp, by simp, by simp⟩
    by_cases hk4 : o.kind = 4
    · simp -implicitDefEqProofs [hk0, hk1, hk2, hk3, hk4, r5, r6, k8]
      refine go_draw2 14 [0, 1, 2, 3, 4, 6, 7, 8, 9, 10] [5, 11, 12, 13] (one8 b8 (.cells (opC o) 35)) f_mixed (by decide +kernel) (hc_one k8) ?_
      simp -implicitDefEqProofs [one8, r5, r6]
      refine AES.call (c_tSee hT hokR o.id o.seen) fun v K7 hv => ?_
      rw [hTT] at hv
      obtain ⟨rfl, hA⟩ := hv
      have hu : Upd b m K6 K7 := by obtain ⟨_, _, _, _, _, hu⟩ := hA; exact hu
      have k87 := hu _ _ k8 n8b n8m
      have hr7 := hr.upd hu nbr nmr
      refine ⟨hc_one k87, ?_⟩
      simp -implicitDefEqProofs
      refine AES.call (c_rSee hr7 hok o.id o.seen) fun v K8 hv => ?_
      obtain ⟨rfl, hRA⟩ := hv
      have k88 := hRA.2 _ _ k87 n8r n8r
      have lK8 := le_upd (le_upd lK6 hu eb em) hRA.2 er er
      refine ⟨hc_one k88, ?_⟩
      simp -implicitDefEqProofs
      exact hk' _ _ ⟨b, m, _, 0, (seeT ⟨L, last⟩ o.id o.seen).1, ⟨both_of hB hA hRA, see_ok hok o.id o.seen, lK8, eb, em⟩, k88, by simp [r0], by simp [r1], by simp [r5], by simp [r6], by simp [r7], by simp, by simp, by simp, by simp, by simp⟩
    by_cases hk5 : o.kind = 5
    · simp -implicitDefEqProofs [hk0, hk1, hk2, hk3, hk4, hk5, r5]
      refine ACall.intro (c_tCopy hT) fun v K7 hv => ?_
      obtain ⟨b2, m2, eb2, em2, rfl, hT2, l7⟩ := hv
      have eb2H := lK6.none eb2
      have em2H := lK6.none em2
      have k87 := l7 _ _ k8
      have hT7 := hT.up l7
      have hr7 := hr.up l7
      have nb2b : b2 ≠ b := by rintro rfl; rw [hT.bl] at eb2; cases eb2
      have nb2m : b2 ≠ m := by rintro rfl; rw [hT.at_] at eb2; cases eb2
      have nm2b : m2 ≠ b := by rintro rfl; rw [hT.bl] at em2; cases em2
      have nm2m : m2 ≠ m := by rintro rfl; rw [hT.at_] at em2; cases em2
      have lK7 := lK6.trans l7
      simp -implicitDefEqProofs [r5, k87]
      refine ACall.intro (c_tSee hT7 hokR o.id 13569465599) fun v K8 hv => ?_
      obtain ⟨rfl, R8, last8, ck8, hA8, hT8, hu8⟩ := hv
      have hok8 := see_ok hokR o.id 13569465599
      rw [hA8] at hok8
      have k88 := hu8 _ _ k87 n8b n8m
      have lK8 := le_upd lK7 hu8 eb em
      simp -implicitDefEqProofs [r5, k88]
      refine ACall.intro (c_tAdd (hG.le lK8) hT8 hok8 (by omega) o.job hox) fun v K9 hv => ?_
      obtain ⟨rfl, R9, last9, ck9, hA9, hT9, hu9⟩ := hv
      have hok9 := add_ok hok8 o.job
      rw [hA9] at hok9
      have k89 := hu9 _ _ k88 n8b n8m
      have lK9 := le_upd lK8 hu9 eb em
      simp -implicitDefEqProofs [r5, k89]
      refine ACall.intro (c_tRemove hT9 hok9 o.id) fun v K10 hv => ?_
      obtain ⟨rfl, R10, last10, ck10, hA10, hT10, hu10⟩ := hv
      have k810 := hu10 _ _ k89 n8b n8m
      have lK10 := le_upd lK9 hu10 eb em
      have hua := (hu8.trans hu9).trans hu10
      simp -implicitDefEqProofs
      exact hk' _ _ ⟨b2, m2, ⟨L, last⟩, 0, 0, ⟨⟨⟨ck, R, hRL, hT2.upd hua nb2b nb2m nm2b nm2m⟩, hr7.upd hua nbr nmr⟩, hok.up, lK10, eb2H, em2H⟩, k810, by simp [r0], by simp [r1], by simp, by simp [r6], by simp [r7], by simp, by simp, by simp, by simp, by simp⟩
    simp -implicitDefEqProofs [hk0, hk1, hk2, hk3, hk4, hk5]
    exact hk' _ _ ⟨b, m, ⟨L, last⟩, 0, 0, ⟨hB, hok.up, lK6, eb, em⟩, k8, by simp [r0], by simp [r1], by simp [r5], by simp [r6], by simp [r7], by simp, by simp, by simp, by simp, by simp⟩
  · clear hB k8 lK6 r0 r1 r5 r6 r7 hok eb em
    rintro ρ K ⟨b, m, T, nn, ee, hP, k8, r0, r1, r5, r6, r7, r8, r9, r10, r11, r12⟩
    obtain ⟨L, last⟩ := T
    obtain ⟨ck, R, hRL, hT⟩ := hP.both.tab
    refine AGo.blk ?_
    simp -implicitDefEqProofs [r5, r6, r8, r9, r10, r11, r12, r1, k8]
    refine ACall.intro (c_alike hT hRL hP.both.ref hP.ok o.id nm) fun v K7 hv => ?_
    obtain ⟨rfl, l7⟩ := hv
    simp -implicitDefEqProofs [r7, w1]
    exact AGo.again ih (m' := l.length - (i + 1)) (by omega) (HLe.refl _) ⟨i + 1, b, m, ⟨L, last⟩, rfl, by omega, ⟨hP.both.up l7, hP.ok, hP.le.trans l7, hP.eb, hP.em⟩, by simp [r0], by simp [r1], by simp [r5], by simp [r6], by simp⟩
end Go.Proofs.YtlhgpodfhdddkaaGreatDoor
namespace Go.Proofs.YtlhgpodfhdddkaaGreatDoor
open Rg Go Go.RowKit
theorem eq_ctz : (Rows.laid_math_bits_deBruijn64tab : DataW Unit) = Lib.tabData .u8 (Lib.deBruijn64tab.map fun n : Nat => (n : Int)) := by kernel_rfl
theorem eq_first : Rows.laid_unicode_utf8_first = Lib.firstData := by kernel_rfl
theorem eq_accept : (Rows.laid_unicode_utf8_acceptRanges : DataW Unit) = Lib.acceptData := by kernel_rfl
theorem u8extra : U8Extra Tryz.prog Tryz.lays260_ren := ⟨by kernel_rfl, by kernel_rfl, by kernel_rfl, by kernel_rfl, by kernel_rfl, by kernel_rfl, by kernel_rfl⟩
def ctzUs : List Value := Lib.deBruijn64tab.map fun n : Nat => .int .u8 n
def firstUs : List Value := (List.range 256).map fun c => .int .u8 (Lib.firstT c)
def acceptUs : List Value := (List.range 16).flatMap fun i => [.int .u8 (Lib.accLo i), .int .u8 (Lib.accHi i)]
def gro (m : Int) : Heap := fun b =>
  if b = 7 then some (.ro ctzUs) else if b = 0 then some (.ro [.int .i64 m]) else
  if b = 1 then some (.ro firstUs) else if b = 2 then some (.ro acceptUs) else none
theorem acceptUs_at : ∀ i, i < 16 → acceptUs[2 * i]? = some (.int .u8 (Lib.accLo i)) ∧ acceptUs[2 * i + 1]? = some (.int .u8 (Lib.accHi i)) := fun i hi => by
  have h : i = 0 ∨ i = 1 ∨ i = 2 ∨ i = 3 ∨ i = 4 ∨ i = 5 ∨ i = 6 ∨ i = 7 ∨ i = 8 ∨ i = 9 ∨ i = 10 ∨ i = 11 ∨ i = 12 ∨ i = 13 ∨ i = 14 ∨ i = 15 := by omega
  rcases h with rfl | rfl | rfl | rfl | rfl | rfl | rfl | rfl | rfl | rfl | rfl | rfl | rfl | rfl | rfl | rfl <;> exact ⟨by kernel_rfl, by kernel_rfl⟩
theorem glob_gro (m : Int) : Glob (gro m) := by
  refine ⟨⟨m, rfl⟩, ⟨ctzUs, rfl, fun j hj => ?_⟩, ⟨firstUs, rfl, fun c hc => ?_⟩, ⟨acceptUs, rfl, acceptUs_at⟩⟩
  · simp only [ctzUs, List.getElem?_map, List.getD_eq_getElem?_getD, List.getElem?_eq_getElem hj]
    rfl
  · simp only [firstUs, List.getElem?_map, List.getElem?_range hc]
    rfl
theorem ctz_reads {W : World} {l : List (String × DataW Unit)} (hL : laidMet Tryz.prog l W) (h1 : ("math/bits.deBruijn64tab", Rows.laid_math_bits_deBruijn64tab) ∈ l) (j : Nat) (u : Value) (hu : ctzUs[j]? = some u) : W.cell? ⟨7, j, none⟩ = some u := by
  obtain ⟨g, t, cs, fuel, p, hg, hty, hvar, hd⟩ := Lib.laidMet.reads hL h1
  obtain rfl : 7 = g := Option.some.inj ((show Tryz.prog.globalNamed "math/bits.deBruijn64tab" = some 7 by kernel_rfl).symm.trans hg)
  obtain rfl : 220 = t := Option.some.inj ((show (Tryz.prog.globals[7]?).map (·.type) = some 220 by kernel_rfl).symm.trans hty)
  rw [eq_ctz] at hd
  have hcs := Lib.cells_of_tab (e := 5) (n := 64) (by kernel_rfl) (by kernel_rfl) (by kernel_rfl) (by kernel_rfl) hd
  rw [World.var?_cell hg hvar j, ← Array.getElem?_toList, hcs, ← hu]
  unfold ctzUs
  simp [Function.comp_def]
theorem gro_reads {W : World} {l : List (String × DataW Unit)} (hL : laidMet Tryz.prog l W) (hsh : W.ShapedOpen Tryz.prog) (h1 : ("math/bits.deBruijn64tab", Rows.laid_math_bits_deBruijn64tab) ∈ l)
    (h3 : ("unicode/utf8.first", Rows.laid_unicode_utf8_first) ∈ l) (h4 : ("unicode/utf8.acceptRanges", Rows.laid_unicode_utf8_acceptRanges) ∈ l) : ∃ m, Reads W (gro m) := by
  obtain ⟨m, hm⟩ : ∃ m, W.cell? ⟨0, 0, none⟩ = some (.int .i64 m) := Tryz.laysM145.s1_3 W hsh
  obtain ⟨t3, t4⟩ : Lib.Utf8Tabs 1 2 W := utf8Tabs_of_reads Tryz.lays260 u8extra (eq_first ▸ Lib.laidMet.reads hL h3) (eq_accept ▸ Lib.laidMet.reads hL h4)
  refine ⟨m, fun b ob e => ?_⟩
  unfold gro at e
  split at e
  · rename_i hb
    subst hb; cases e
    exact ⟨ctzUs, rfl, by decide +kernel, by decide +kernel, ctz_reads hL h1, fun h => absurd h (by decide +kernel)⟩
  · split at e
    · rename_i hb
      subst hb; cases e
      refine ⟨_, rfl, by simp, by simp [Value.oneCell'], fun j u hu => ?_, fun h => by simp at h⟩
      cases j with
      | zero => simp at hu; subst hu; exact hm
      | succ j => simp at hu
    · split at e
      · rename_i hb
        subst hb; cases e
        refine ⟨firstUs, rfl, by decide +kernel, by decide +kernel, fun j u hu => ?_, fun h => absurd h (by decide +kernel)⟩
        have hj : j < 256 := by have := (List.getElem?_eq_some_iff.1 hu).1; simpa [firstUs] using this
        rw [t3 j hj, ← hu]
        simp only [firstUs, List.getElem?_map, List.getElem?_range hj]
        rfl
      · split at e
        · rename_i hb
          subst hb; cases e
          refine ⟨acceptUs, rfl, by decide +kernel, by decide +kernel, fun j u hu => ?_, fun h => absurd h (by decide +kernel)⟩
          have hj : j < 32 := by have := (List.getElem?_eq_some_iff.1 hu).1; rwa [show acceptUs.length = 32 by kernel_rfl] at this
          rcases Nat.mod_two_eq_zero_or_one j with h | h
          · obtain ⟨i, rfl⟩ : ∃ i, j = 2 * i := ⟨j / 2, by omega⟩
            rw [(t4 i (by omega)).1, ← hu, (acceptUs_at i (by omega)).1]
          · obtain ⟨i, rfl⟩ : ∃ i, j = 2 * i + 1 := ⟨j / 2, by omega⟩
            rw [(t4 i (by omega)).2, ← hu, (acceptUs_at i (by omega)).2]
        · cases e
def setCells (cs : Array Value) : Obj → Obj
  | .cells _ t fr => .cells cs t fr
  | o => o
noncomputable def low : Nat := (World.holding Tryz.prog default ⟨#[], #[], []⟩).heap.size
noncomputable def laidWorld (os : Os) : World :=
  let w0 := World.holding Tryz.prog os ⟨#[.cells #[.string ⟨#[105, 110, 118, 97, 108, 105, 100, 32, 115, 121, 110, 116, 97, 120]⟩] 210, .cells #[.string ⟨#[118, 97, 108, 117, 101, 32, 111, 117, 116, 32, 111, 102, 32, 114, 97, 110, 103, 101]⟩] 210], #[], []⟩
  { w0 with heap := ((((((w0.heap.modify 7 (setCells ctzUs.toArray)).modify 6 (setCells (Lib.deBruijn32tab.map fun n : Nat => Value.int .u8 n).toArray)).modify 1 (setCells firstUs.toArray)).modify 2 (setCells acceptUs.toArray)).modify 5
    (setCells ((List.range 20).map fun n => Value.int .u64 (10 ^ n)).toArray)).modify 3 (setCells #[.iface 208 (.pointer (some ⟨low, 0, none⟩))])).modify 4 (setCells #[.iface 208 (.pointer (some ⟨low + 1, 0, none⟩))]) }
theorem own : ownKnob Tryz.prog.godebug = none := by kernel_rfl
end Go.Proofs.YtlhgpodfhdddkaaGreatDoor
