/- A table of jobs: whatever is called, its row may be, and so on: the law's walk. What a law's row lists of package variables, as the start heap of its run; a world that meets it. -/
import Derived.Test.YtlhgpodfhdddkaaGreatDoorP24
import Derived.Test.YtlhgpodfhdddkaaGreatDoorP14
import Derived.Test.YtlhgpodfhdddkaaGreatDoorP08
import Derived.Lib.LaidU8
set_option linter.unusedSimpArgs false
set_option linter.unusedVariables false
set_option linter.unnecessarySimpa false
namespace Go.Proofs.YtlhgpodfhdddkaaGreatDoor
open Rg Go Go.RowKit
variable {H : Heap}
theorem AGo.join {P : Program} {n : Nat} {Q : Post} {ρ : Nat → AV} {k : List AItem} {i : AItem} (J : (Nat → AV) → Heap → Prop) (h : ∀ k' : List AItem, (∀ ρ' H', J ρ' H' → AGo P n Q k' ρ' H') → AGo P n Q (i :: k') ρ H)
    (hk : ∀ ρ' H', J ρ' H' → AGo P n Q k ρ' H') : AGo P n Q (i :: k) ρ H := h k hk
theorem cut3 {P : Program} {n : Nat} {Q : Post} {ρ : Nat → AV} {k : List AItem} {r1 r2 r3 r4 : Code} (h : ∀ X, X = Code.seq r3 r4 → AGo P n Q (.code (.seq r1 (.seq r2 X)) :: k) ρ H) : AGo P n Q (.code (.seq r1 (.seq r2 (.seq r3 r4))) :: k) ρ H := h _ rfl
theorem ans_eq (w : Option Jb) : ansJ w = .tup [jbAV (w.getD jbZ) .no, .sc (.bool w.isSome)] := by cases w <;> rfl
theorem may_ex {j : Jb} (h : mayJ j = 0) : j.ex.length ≤ 400 := by
  unfold mayJ at h
  by_cases h8 : 400 < j.ex.length
  · have : (cronK j.ex).2 = 3 := by unfold cronK; rw [if_pos h8]
    rw [this] at h
    repeat first | split at h | omega
  · omega
set_option maxHeartbeats 8000000 in
theorem tableKeeps_walk (hG : Glob H) (l : List Op15) (hx : ∀ o ∈ l, o.job.ex.length ≤ 9223372036854775807) : AOk Tryz.prog 4 [.sl (opsAV l) .no] H (.sc (.bool true)) H := by
  refine ACalls.into Tryz.func4 rfl Tryz.ntmps4 Tryz.results4 (by simp) ?_
  generalize hR : ROk _ _ = Q
  have fin : ∀ {K}, HLe H K → AFin Q (.sc (.bool true)) K := fun h => by rw [← hR]; exact AFin.intro _ _ (wk_refl _) h.wk ⟨rfl, rfl⟩
  simp -implicitDefEqProofs
  refine ACall.intro (c_known15 hG) fun v K0 hv => ?_
  obtain ⟨rfl, l0⟩ := hv
  by_cases h60 : 60 < l.length
  · have h60' : 60 < (l.length : Int) := by omega
    simp -implicitDefEqProofs [h60']
    exact fin l0
  have h60' : ¬ 60 < (l.length : Int) := by omega
  simp -implicitDefEqProofs [h60']
  refine ACall.intro c_tNew fun v K1 hv => ?_
  obtain ⟨b, m, eb0, em0, rfl, hT, l1⟩ := hv
  have eb : H b = none := l0.none eb0
  have em : H m = none := l0.none em0
  have hup : ∀ {K K' : Heap}, HLe H K → Upd b m K K' → HLe H K' := fun h1 h2 p o hp => h2 p o (h1 p o hp) (by rintro rfl; rw [eb] at hp; cases hp) (by rintro rfl; rw [em] at hp; cases hp)
  simp -implicitDefEqProofs
  refine AGo.rounds (fun μ ρ K => ∃ (i : Nat) (R : List (Jb × Nat)) (last ck : Nat), μ = l.length - i ∧ i ≤ l.length ∧ TabAt b m ck R last K ∧ TbOk (tbOf R last) i ∧ HLe H K ∧ ρ 0 = .sl (opsAV l) .no ∧ ρ 3 = ptr b ∧ ρ 4 = .sc (.int .i64 (i : Int))) ?_ (m := l.length) (HLe.refl _)
    ⟨0, [], 0, 0, rfl, by omega, hT, tb0_ok, l0.trans l1, by simp, by simp, by simp⟩
  clear hT l0 l1 eb0 em0 K0 K1
  rintro μ ρ K ih ⟨i, R, last, ck, rfl, hi, hT, hok, lK, r0, r3, r4⟩
  by_cases hlt : i < l.length
  case neg =>
    have hlt' : ¬ (i : Int) < (l.length : Int) := by omega
    simp -implicitDefEqProofs [r0, r3, r4, hlt, hlt']
    exact fin lK
  have hlt' : (i : Int) < (l.length : Int) := by omega
  obtain ⟨o, hoj, ho⟩ := getAt hlt
  have hol := List.mem_of_getElem? ho
  have hox := hx o hol
  have w1 : IntKind.i64.wrap ((i : Int) + 1) = ((i + 1 : Nat) : Int) := by rw [wrap_i64 (by omega) (by omega)]; omega
  have hRl := len_of hok
  have hdl := deps_of hok
  simp -implicitDefEqProofs [r0, r3, r4, hlt, hlt', hoj, AV.cells]
  refine AAlloc.intro fun b5 h5 => ?_
  have n5b : b5 ≠ b := by rintro rfl; rw [hT.bl] at h5; cases h5
  have n5m : b5 ≠ m := by rintro rfl; rw [hT.at_] at h5; cases h5
  simp -implicitDefEqProofs
  generalize hK5 : Heap.set K b5 _ = K5
  have l5 : HLe K K5 := by rw [← hK5]; exact HLe.set_fresh h5
  have k5 : K5 b5 = some (.cells (opC o) 35) := by rw [← hK5]; simp [Heap.set]
  clear hK5
  refine ACall.intro (c_great o.job) fun v K6 hv => ?_
  obtain ⟨rfl, l6⟩ := hv
  have lK6 := lK.trans (l5.trans l6)
  cases hgr : greatJ o.job with
  | true =>
    simp -implicitDefEqProofs
    exact fin lK6
  | false =>
  have hT6 := hT.up (l5.trans l6)
  have k5 := l6 _ _ k5
  clear l5 l6 hT
  simp -implicitDefEqProofs [r3]
  refine ACall.intro (c_tList hT6 hdl hok.asc (by omega)) fun v K7 hv => ?_
  obtain ⟨rfl, l7⟩ := hv
  have hT7 := hT6.up l7
  have k5 := l7 _ _ k5
  obtain ⟨L, hL⟩ : ∃ L, R.map (fun r => r.1) = L := ⟨_, rfl⟩
  rw [hL]
  simp -implicitDefEqProofs [r3]
  refine ACall.eq (c_tLast hT7) ?_
  simp -implicitDefEqProofs [k5, r3]
  refine ACall.intro (c_tFind hT7 hdl o.id) fun v K8 hv => ?_
  obtain ⟨rfl, l8⟩ := hv
  have hT8 := hT7.up l8
  have k5 := l8 _ _ k5
  rw [ans_eq]
  simp -implicitDefEqProofs [AV.cells]
  refine AAlloc.intro fun b8 h8 => ?_
  have n58 : b5 ≠ b8 := by rintro rfl; rw [k5] at h8; cases h8
  have n8b : b8 ≠ b := by rintro rfl; rw [hT8.bl] at h8; cases h8
  have n8m : b8 ≠ m := by rintro rfl; rw [hT8.at_] at h8; cases h8
  obtain ⟨T, hTT⟩ : ∃ T, tbOf R last = T := ⟨_, rfl⟩
  have hTL : T.L = L := by rw [← hTT, ← hL]
  have hTlst : T.last = last := by rw [← hTT]
  obtain ⟨w, hw⟩ : ∃ w, foundT T o.id = w := ⟨_, rfl⟩
  rw [hTT, hw]
  simp -implicitDefEqProofs [n58, k5]
  generalize hK9 : Heap.set K8 b8 _ = K9
  have l9 : HLe K8 K9 := by rw [← hK9]; exact HLe.set_fresh h8
  have k8 : K9 b8 = some (.cells (jbC (w.getD jbZ) .no) 33) := by rw [← hK9]; simp [Heap.set]
  clear hK9 h8 h5
  have hT9 := hT8.up l9
  have k5 := l9 _ _ k5
  have lK9 := (lK6.trans l7).trans (l8.trans l9)
  have step : ∀ {K K' : Heap} {T' : Tb} {e : Int}, HLe K9 K → After b m T' K K' → StepOk T o e T' → TbOk T' (i + 1) → (∃ R' last' ck', T' = tbOf R' last' ∧ TabAt b m ck' R' last' K') ∧ HLe H K' ∧ K' b5 = some (.cells (opC o) 35) ∧ K' b8 = some (.cells (jbC (w.getD jbZ) .no) 33) := fun h1 h2 _ _ => by
    obtain ⟨R', last', ck', e1, e2, e3⟩ := h2
    exact ⟨⟨R', last', ck', e1, e2⟩, hup (lK9.trans h1) e3, e3 _ _ (h1 _ _ k5) n5b n5m, e3 _ _ (h1 _ _ k8) n8b n8m⟩
  have hLe9 := HLe.refl K9
  refine ABr.join (fun ρ' K' => ∃ (e : Int) (T' : Tb), (∃ R' last' ck', T' = tbOf R' last' ∧ TabAt b m ck' R' last' K') ∧ HLe H K' ∧ K' b5 = some (.cells (opC o) 35) ∧ K' b8 = some (.cells (jbC (w.getD jbZ) .no) 33) ∧ StepOk T o e T' ∧ TbOk T' (i + 1) ∧
    ρ' 0 = .sl (opsAV l) .no ∧ ρ' 3 = ptr b ∧ ρ' 4 = .sc (.int .i64 (i : Int)) ∧ ρ' 5 = ptr b5 ∧ ρ' 6 = .sl (jbsAV L) .no ∧ ρ' 7 = .sc (.int .u64 (last : Int)) ∧ ρ' 8 = ptr b8 ∧ ρ' 9 = .sc (.bool w.isSome) ∧ ρ' 10 = .sc (.int .i64 e)) (fun k' hk' => ?_) ?_
  · have hokT : TbOk T i := by rw [← hTT]; exact hok
    have hTl : T.last = last := by rw [← hTT]
    have hTi := hokT.lst
    have w2 : IntKind.u64.wrap ((last : Int) + 1) = ((last + 1 : Nat) : Int) := by rw [wrap_u64 (by omega) (by omega)]; omega
    by_cases hk0 : o.kind = 0
    · obtain ⟨hs1, hs2, hs3⟩ := add_step T o hk0
      have hok' := add_ok hokT o.job
      simp -implicitDefEqProofs [hk0, r3, k5]
      refine ACall.intro (c_tAdd (hG.le lK9) hT9 hok (by omega) o.job hox) fun v K10 hv => ?_
      obtain ⟨rfl, hA⟩ := hv
      rw [hTT] at hA ⊢
      obtain ⟨q1, q2, q3, q4⟩ := step hLe9 hA hs1 hok'
      obtain ⟨res, hres⟩ : ∃ r, addT T o.job = r := ⟨_, rfl⟩
      rw [hres] at q1 hs1 hs2 hs3 hok' ⊢
      obtain ⟨L1, hL1⟩ : ∃ L1, last + 1 = L1 := ⟨_, rfl⟩
      rw [hL1] at w2
      by_cases he : res.2.1 = 0
      · have hid : res.1 = L1 := by rw [hs2 he, hTl, hL1]
        simp -implicitDefEqProofs [he, hid, w2]
        exact hk' _ _ ⟨0, res.2.2, q1, q2, q3, q4, by rw [← he]; exact hs1, hok', by simp [r0], by simp [r3], by simp [r4], by simp, by simp, by simp, by simp, by simp, by simp⟩
      · have hid : res.1 = 0 := hs3 he
        simp -implicitDefEqProofs [he, hid, w2]
        exact hk' _ _ ⟨res.2.1, res.2.2, q1, q2, q3, q4, hs1, hok', by simp [r0], by simp [r3], by simp [r4], by simp, by simp, by simp, by simp, by simp, by simp⟩
    by_cases hk1 : o.kind = 1
    · have hs1 := change_step T o hk1
      have hok' := change_ok hokT o.id o.job
      simp -implicitDefEqProofs [hk0, hk1, r3, k5]
      refine ACall.intro (c_tChange (hG.le lK9) hT9 hok (by omega) o.id o.job hox) fun v K10 hv => ?_
      obtain ⟨rfl, hA⟩ := hv
      rw [hTT] at hA ⊢
      obtain ⟨q1, q2, q3, q4⟩ := step hLe9 hA hs1 hok'
      simp -implicitDefEqProofs
      exact hk' _ _ ⟨_, _, q1, q2, q3, q4, hs1, hok', by simp [r0], by simp [r3], by simp [r4], by simp, by simp, by simp, by simp, by simp, by simp⟩
    by_cases hk2 : o.kind = 2
    · have hs1 := remove_step T o
      have hok' := remove_ok hokT o.id
      simp -implicitDefEqProofs [hk0, hk1, hk2, r3, k5]
      refine ACall.intro (c_tRemove hT9 hok o.id) fun v K10 hv => ?_
      obtain ⟨rfl, hA⟩ := hv
      rw [hTT] at hA ⊢
      obtain ⟨q1, q2, q3, q4⟩ := step hLe9 hA hs1 hok'
      simp -implicitDefEqProofs
      exact hk' _ _ ⟨_, _, q1, q2, q3, q4, hs1, hok', by simp [r0], by simp [r3], by simp [r4], by simp, by simp, by simp, by simp, by simp, by simp⟩
    by_cases hk3 : o.kind = 3
    · have hs1 := pause_step T o
      have hok' := pause_ok hokT o.id o.pau o.seen
      simp -implicitDefEqProofs [hk0, hk1, hk2, hk3, r3, k5]
      refine ACall.intro (c_tPause hT9 hok o.id o.pau o.seen) fun v K10 hv => ?_
      obtain ⟨rfl, hA⟩ := hv
      rw [hTT] at hA ⊢
      obtain ⟨q1, q2, q3, q4⟩ := step hLe9 hA hs1 hok'
      simp -implicitDefEqProofs
      exact hk' _ _ ⟨_, _, q1, q2, q3, q4, hs1, hok', by simp [r0], by simp [r3], by simp [r4], by simp, by simp, by simp, by simp, by simp, by simp⟩
    by_cases hk4 : o.kind = 4
    · have hs1 := see_step T o
      have hok' := see_ok hokT o.id o.seen
      simp -implicitDefEqProofs [hk0, hk1, hk2, hk3, hk4, r3, k5]
      refine ACall.intro (c_tSee hT9 hok o.id o.seen) fun v K10 hv => ?_
      obtain ⟨rfl, hA⟩ := hv
      rw [hTT] at hA ⊢
      obtain ⟨q1, q2, q3, q4⟩ := step hLe9 hA hs1 hok'
      simp -implicitDefEqProofs
      exact hk' _ _ ⟨_, _, q1, q2, q3, q4, hs1, hok', by simp [r0], by simp [r3], by simp [r4], by simp, by simp, by simp, by simp, by simp, by simp⟩
    simp -implicitDefEqProofs [hk0, hk1, hk2, hk3, hk4]
    exact hk' _ _ ⟨0, T, ⟨R, last, ck, hTT.symm, hT9⟩, lK9, k5, k8, same_step T o 0 (fun _ _ _ => by omega), hokT.up, by simp [r0], by simp [r3], by simp [r4], by simp, by simp, by simp, by simp, by simp, by simp⟩
  · clear hT9 k5 k8 lK9 hLe9 step
    rintro ρ' K' ⟨e, T', ⟨R', last', ck', hTe, hT'⟩, lK', k5, k8, hst, hok', r0, r3, r4, r5, r6, r7, r8, r9, r10⟩
    subst hTe
    have hRl' := len_of hok'
    have hdl' := deps_of hok'
    refine AGo.blk ?_
    refine cut3 fun X hX => ?_
    simp -implicitDefEqProofs [r3]
    refine ACall.intro (c_tList hT' hdl' hok'.asc (by omega)) fun v K1 hv => ?_
    obtain ⟨rfl, l1⟩ := hv
    have hT1 := hT'.up l1
    have k5 := l1 _ _ k5
    obtain ⟨L', hL'⟩ : ∃ L', R'.map (fun r => r.1) = L' := ⟨_, rfl⟩
    have hLl' : L'.length = R'.length := by rw [← hL', List.length_map]
    rw [hL']
    simp -implicitDefEqProofs [r3, r5, k5]
    refine ACall.intro (c_tFind hT1 hdl' o.id) fun v K2 hv => ?_
    obtain ⟨rfl, l2⟩ := hv
    have hT2 := hT1.up l2
    have k5 := l2 _ _ k5
    have k8 := l2 _ _ (l1 _ _ k8)
    rw [ans_eq]
    simp -implicitDefEqProofs [AV.cells]
    refine AAlloc.intro fun b14 h14 => ?_
    have n514 : b5 ≠ b14 := by rintro rfl; rw [k5] at h14; cases h14
    have n814 : b8 ≠ b14 := by rintro rfl; rw [k8] at h14; cases h14
    obtain ⟨w', hw'⟩ : ∃ w', foundT (tbOf R' last') o.id = w' := ⟨_, rfl⟩
    rw [hw']
    simp -implicitDefEqProofs
    generalize hK3 : Heap.set K2 b14 _ = K3
    have l3 : HLe K2 K3 := by rw [← hK3]; exact HLe.set_fresh h14
    have k14 : K3 b14 = some (.cells (jbC (w'.getD jbZ) .no) 33) := by rw [← hK3]; simp [Heap.set]
    clear hK3
    have hT3 := hT2.up l3
    have k5 := l3 _ _ k5
    have k8 := l3 _ _ k8
    have l03 := l1.trans (l2.trans l3)
    have lK3 := lK'.trans l03
    rw [hX]
    refine AGo.seq ?_
    refine AGo.join (fun ρ' K' => HLe K3 K' ∧ ρ' 0 = .sl (opsAV l) .no ∧ ρ' 3 = ptr b ∧ ρ' 4 = .sc (.int .i64 (i : Int)) ∧ ρ' 5 = ptr b5 ∧ ρ' 8 = ptr b8 ∧ ρ' 9 = .sc (.bool w.isSome) ∧ ρ' 10 = .sc (.int .i64 e) ∧ ρ' 13 = .sl (jbsAV L') .no ∧ ρ' 14 = ptr b14 ∧ ρ' 15 = .sc (.bool w'.isSome)) (fun k' hk' => ?_) ?_
    · have hdL : ∀ j ∈ L, j.deps.length ≤ 1000000 := fun j hj => by
        rw [← hL] at hj
        obtain ⟨r, hr, rfl⟩ := List.mem_map.1 hj
        exact hdl r hr
      have hLl : L.length = R.length := by rw [← hL, List.length_map]
      have nodes : ∀ {ρ : Nat → AV} {K4 : Heap}, HLe K3 K4 → ACalls Tryz.prog 25 [ptr b] K4 (fun v K => v = .sl (ndsAV (ndsOf L')) .no ∧ HLe K4 K) := fun h4 => by
        have := c_tNodes (hT3.up h4) hdl' hok'.asc (by omega)
        rwa [hL'] at this
      obtain ⟨N, hN⟩ : ∃ N, ndsOf L' = N := ⟨_, rfl⟩
      have hNl : N.length = L'.length := by rw [← hN]; simp
      have hrow : mayN N = 0 := by
        have := hok'.row
        simp only at this
        rwa [hL', hN] at this
      have hNd : ∀ n ∈ N, n.2.length ≤ 1000000 := fun n hn => by
        rw [← hN, ← hL'] at hn
        obtain ⟨k, hk, rfl⟩ := List.mem_map.1 hn
        obtain ⟨r, hr, rfl⟩ := List.mem_map.1 hk
        exact hdl' r hr
      rw [hN] at nodes
      have c32 : ¬ 32 < (L'.length : Int) := by omega
      have hll : ¬ (last' : Int) < (last : Int) := by have := hst.last; simp only [hTlst] at this; omega
      by_cases he : e = 0
      · simp -implicitDefEqProofs [r3, r10, he]
        refine ACall.intro (nodes (ρ := ρ') (HLe.refl _)) fun v K4 hv => ?_
        obtain ⟨rfl, l4⟩ := hv
        simp -implicitDefEqProofs
        refine ACall.intro (c_graphMay N .no (by omega) hNd) fun v K5 hv => ?_
        obtain ⟨rfl, l5⟩ := hv
        simp -implicitDefEqProofs [hrow, r3]
        refine ACall.eq (c_tLast (hT3.up (l4.trans l5))) ?_
        simp -implicitDefEqProofs [r7, hll, c32]
        exact hk' _ _ ⟨l4.trans l5, by simp [r0], by simp [r3], by simp [r4], by simp [r5], by simp [r8], by simp [r9], by simp [r10, he], by simp, by simp, by simp⟩
      · have hLL : L' = L := by
          have := hst.same he
          simp only at this
          rw [hL', hTL] at this
          exact this
        simp -implicitDefEqProofs [r3, r6, r10, he]
        refine ACall.eq (c_ref15Jobs L L' .no .no (by omega) hdL) ?_
        rw [show sameJs L L' = true from sameJs_iff.2 hLL.symm]
        simp -implicitDefEqProofs [r3]
        refine ACall.intro (nodes (ρ := ρ') (HLe.refl _)) fun v K4 hv => ?_
        obtain ⟨rfl, l4⟩ := hv
        simp -implicitDefEqProofs
        refine ACall.intro (c_graphMay N .no (by omega) hNd) fun v K5 hv => ?_
        obtain ⟨rfl, l5⟩ := hv
        simp -implicitDefEqProofs [hrow, r3]
        refine ACall.eq (c_tLast (hT3.up (l4.trans l5))) ?_
        simp -implicitDefEqProofs [r7, hll, c32]
        exact hk' _ _ ⟨l4.trans l5, by simp [r0], by simp [r3], by simp [r4], by simp [r5], by simp [r8], by simp [r9], by simp [r10], by simp, by simp, by simp⟩
    · clear r0 r3 r4 r5 r6 r7 r8 r9 r10
      rintro ρ K ⟨l4, r0, r3, r4, r5, r8, r9, r10, r13, r14, r15⟩
      have hT4 := hT3.up l4
      have k5 := l4 _ _ k5
      have k8 := l4 _ _ k8
      have k14 := l4 _ _ k14
      have lK4 := lK3.trans l4
      refine AGo.seq ?_
      refine AGo.join (fun ρ' K' => K' = K ∧ ρ' 0 = .sl (opsAV l) .no ∧ ρ' 3 = ptr b ∧ ρ' 4 = .sc (.int .i64 (i : Int)) ∧ ρ' 13 = .sl (jbsAV L') .no) (fun k' hk' => ?_) ?_
      · cases hww : w with
        | none =>
          rw [hww] at r9
          by_cases he : e = 0
          · by_cases h0 : 0 < o.kind
            · by_cases h5 : o.kind < 5
              · have := hst.had he h0 h5
                rw [hw, hww] at this
                cases this
              · simp -implicitDefEqProofs [r5, r8, r9, r10, r14, r15, k5, he, h0, h5]
                exact hk' _ _ ⟨rfl, by simp [r0], by simp [r3], by simp [r4], by simp [r13]⟩
            · simp -implicitDefEqProofs [r5, r8, r9, r10, r14, r15, k5, he, h0]
              exact hk' _ _ ⟨rfl, by simp [r0], by simp [r3], by simp [r4], by simp [r13]⟩
          · simp -implicitDefEqProofs [r5, r8, r9, r10, r14, r15, k5, he]
            exact hk' _ _ ⟨rfl, by simp [r0], by simp [r3], by simp [r4], by simp [r13]⟩
        | some x =>
          rw [hww] at r9 k8
          have rest : ∀ (ρ2 : Nat → AV), True := fun _ => trivial
          cases hw2 : w' with
          | none =>
            rw [hw2] at r15
            by_cases he : e = 0
            · by_cases h0 : 0 < o.kind
              · by_cases h5 : o.kind < 5
                · simp -implicitDefEqProofs [r5, r8, r9, r10, r14, r15, k5, he, h0, h5]
                  exact hk' _ _ ⟨rfl, by simp [r0], by simp [r3], by simp [r4], by simp [r13]⟩
                · simp -implicitDefEqProofs [r5, r8, r9, r10, r14, r15, k5, he, h0, h5]
                  exact hk' _ _ ⟨rfl, by simp [r0], by simp [r3], by simp [r4], by simp [r13]⟩
              · simp -implicitDefEqProofs [r5, r8, r9, r10, r14, r15, k5, he, h0]
                exact hk' _ _ ⟨rfl, by simp [r0], by simp [r3], by simp [r4], by simp [r13]⟩
            · simp -implicitDefEqProofs [r5, r8, r9, r10, r14, r15, k5, he]
              exact hk' _ _ ⟨rfl, by simp [r0], by simp [r3], by simp [r4], by simp [r13]⟩
          | some y =>
            rw [hw2] at r15 k14
            simp only [Option.getD_some] at k8 k14
            obtain ⟨hk1, hk2⟩ := hst.keep x y (by rw [hw, hww]) (by rw [hw', hw2])
            have hsn : ¬ y.seen < x.seen := by omega
            have hxv : x.ver ≤ i := by
              have h1 := found_some (show foundT T o.id = some x by rw [hw, hww])
              rw [← hTT] at h1
              exact hok.ver x h1.1
            obtain ⟨V1, hV1⟩ : ∃ V, x.ver + 1 = V := ⟨_, rfl⟩
            have w3 : IntKind.u64.wrap ((x.ver : Int) + 1) = (V1 : Int) := by rw [wrap_u64 (by omega) (by omega)]; omega
            rcases hk2 with hv | ⟨hkk, hv⟩
            · have hv' : (y.ver : Int) = (x.ver : Int) := by omega
              by_cases he : e = 0
              · by_cases h0 : 0 < o.kind
                · by_cases h5 : o.kind < 5
                  · simp -implicitDefEqProofs [r5, r8, r9, r10, r14, r15, k5, k8, k14, hsn, hv', he, h0, h5]
                    exact hk' _ _ ⟨rfl, by simp [r0], by simp [r3], by simp [r4], by simp [r13]⟩
                  · simp -implicitDefEqProofs [r5, r8, r9, r10, r14, r15, k5, k8, k14, hsn, hv', he, h0, h5]
                    exact hk' _ _ ⟨rfl, by simp [r0], by simp [r3], by simp [r4], by simp [r13]⟩
                · simp -implicitDefEqProofs [r5, r8, r9, r10, r14, r15, k5, k8, k14, hsn, hv', he, h0]
                  exact hk' _ _ ⟨rfl, by simp [r0], by simp [r3], by simp [r4], by simp [r13]⟩
              · simp -implicitDefEqProofs [r5, r8, r9, r10, r14, r15, k5, k8, k14, hsn, hv', he]
                exact hk' _ _ ⟨rfl, by simp [r0], by simp [r3], by simp [r4], by simp [r13]⟩
            · have hv' : (y.ver : Int) = (V1 : Int) := by omega
              have hne : ¬ (V1 : Int) = (x.ver : Int) := by omega
              by_cases he : e = 0
              · simp -implicitDefEqProofs [r5, r8, r9, r10, r14, r15, k5, k8, k14, hsn, hv', hne, hkk, w3, he]
                exact hk' _ _ ⟨rfl, by simp [r0], by simp [r3], by simp [r4], by simp [r13]⟩
              · simp -implicitDefEqProofs [r5, r8, r9, r10, r14, r15, k5, k8, k14, hsn, hv', hne, hkk, w3, he]
                exact hk' _ _ ⟨rfl, by simp [r0], by simp [r3], by simp [r4], by simp [r13]⟩
      · clear r0 r3 r4 r5 r8 r9 r10 r13 r14 r15 k5 k8 k14
        rintro ρ K' ⟨rfl, r0, r3, r4, r13⟩
        have hasc : L'.Pairwise fun a b => a.id < b.id := by have := hok'.asc; simp only at this; rwa [hL'] at this
        have hnam : (L'.map fun j => j.name).Nodup := by have := hok'.nam; simp only at this; rwa [hL'] at this
        have hpos : ∀ j ∈ L', 1 ≤ j.id ∧ j.id ≤ last' := by have := hok'.pos; simp only at this; rwa [hL'] at this
        have hmayL : ∀ j ∈ L', mayJ j = 0 := by have := hok'.may; simp only at this; rwa [hL'] at this
        simp -implicitDefEqProofs [r3, r13]
        refine AGo.rounds (fun μ ρ K => ∃ k : Nat, μ = L'.length - k ∧ 1 ≤ k ∧ k ≤ L'.length + 1 ∧ ρ 0 = .sl (opsAV l) .no ∧ ρ 3 = ptr b ∧ ρ 4 = .sc (.int .i64 (i : Int)) ∧ ρ 13 = .sl (jbsAV L') .no ∧ ρ 16 = .sc (.int .i64 (k : Int)) ∧ K = K') ?_ (m := L'.length - 1) (HLe.refl _)
          ⟨1, rfl, by omega, by omega, by simp [r0], by simp [r3], by simp [r4], by simp [r13], by simp, rfl⟩
        clear r0 r3 r4 r13
        rintro μ ρ K ih2 ⟨k, rfl, hk1, hk2, r0, r3, r4, r13, r16, rfl⟩
        by_cases hkt : k < L'.length
        · obtain ⟨q, rfl⟩ : ∃ q, k = q + 1 := ⟨k - 1, by omega⟩
          have hkt' : (q : Int) + 1 < (L'.length : Int) := by omega
          have hqt : q < L'.length := by omega
          obtain ⟨y1, hy1j, hy1⟩ := getAt hkt
          obtain ⟨y0, hy0j, hy0⟩ := getAt hqt
          have hlt01 : y0.id < y1.id := by
            have := List.pairwise_iff_getElem.1 hasc q (q + 1) hqt hkt (by omega)
            rwa [hy0j, hy1j] at this
          have hy1p := (hpos y1 (List.mem_of_getElem? hy1)).2
          have c1 : ¬ (y1.id : Int) ≤ (y0.id : Int) := by omega
          have c2 : ¬ (last' : Int) < (y1.id : Int) := by omega
          have w0 : IntKind.i64.wrap (q : Int) = (q : Int) := wrap_i64 (by omega) (by omega)
          have w4 : IntKind.i64.wrap ((q : Int) + 1 + 1) = ((q + 1 + 1 : Nat) : Int) := by rw [wrap_i64 (by omega) (by omega)]; omega
          have tq : ((q : Int) + 1).toNat = q + 1 := by omega
          have nq : ¬ (q : Int) + 1 < 0 := by omega
          simp -implicitDefEqProofs [r0, r3, r4, r13, r16, hkt, hkt']
          first | refine go_draw 22 f_mixed (by decide +kernel) ?_ | refine go_draw 11 f_mixed (by decide +kernel) ?_
          simp -implicitDefEqProofs [r0, r3, r4, r13, r16, hkt, hkt', hqt, w0, tq, nq, hy1j, hy0j, c1, c2]
          refine AQS.eq (c_tLast hT4) ?_
          simp -implicitDefEqProofs [c1, c2]
          refine AGo.rounds (fun μ ρ K' => ∃ j : Nat, μ = q + 1 - j ∧ j ≤ q + 1 ∧ ρ 0 = .sl (opsAV l) .no ∧ ρ 3 = ptr b ∧ ρ 4 = .sc (.int .i64 (i : Int)) ∧ ρ 13 = .sl (jbsAV L') .no ∧ ρ 16 = .sc (.int .i64 ((q : Int) + 1)) ∧ ρ 17 = .sc (.int .i64 (j : Int)) ∧ K' = K) ?_ (m := q + 1) (HLe.refl _)
            ⟨0, rfl, by omega, by simp [r0], by simp [r3], by simp [r4], by simp [r13], by simp [r16], by simp, rfl⟩
          clear r0 r3 r4 r13 r16
          rintro μ ρ K' ih3 ⟨j, rfl, hj, r0, r3, r4, r13, r16, r17, rfl⟩
          by_cases hjt : j < q + 1
          · have hjt' : (j : Int) < (q : Int) + 1 := by omega
            have hjl : j < L'.length := by omega
            obtain ⟨z, hzj, hz⟩ := getAt hjl
            have hzn : z.name ≠ y1.name := fun e => by
              have := List.pairwise_iff_getElem.1 hnam j (q + 1) (by simpa using hjl) (by simpa using hkt) (by omega)
              simp only [List.getElem_map, hzj, hy1j] at this
              exact this e
            have hzb : (z.name == y1.name) = false := by simpa using hzn
            have w5 : IntKind.i64.wrap ((j : Int) + 1) = ((j + 1 : Nat) : Int) := by rw [wrap_i64 (by omega) (by omega)]; omega
            simp -implicitDefEqProofs [r0, r3, r4, r13, r16, r17, hjt, hjt']
            first | refine go_draw 22 f_mixed (by decide +kernel) ?_ | refine go_draw 11 f_mixed (by decide +kernel) ?_
            simp -implicitDefEqProofs [r0, r3, r4, r13, r16, r17, hjt, hjt', hjl, hkt, hkt', tq, nq, hzj, hy1j, hzn, hzb, w5]
            exact AGo.again ih3 (m' := q + 1 - (j + 1)) (by omega) (HLe.refl _) ⟨j + 1, rfl, by omega, by simp [r0], by simp [r3], by simp [r4], by simp [r13], by simp [r16], by simp, rfl⟩
          · have hjt' : ¬ (j : Int) < (q : Int) + 1 := by omega
            simp -implicitDefEqProofs [r0, r3, r4, r13, r16, r17, hjt, hjt', w4]
            exact AGo.again ih2 (m' := L'.length - (q + 1 + 1)) (by omega) (HLe.refl _) ⟨q + 1 + 1, rfl, by omega, by omega, by simp [r0], by simp [r3], by simp [r4], by simp [r13], by simp, rfl⟩
        · have hkt' : ¬ (k : Int) < (L'.length : Int) := by omega
          simp -implicitDefEqProofs [r0, r3, r4, r13, r16, hkt, hkt']
          refine ACall.eq (c_tLast hT4) ?_
          have hok2 : TbOk ⟨L', last'⟩ (i + 1) := by have := hok'; rw [tbOf, hL'] at this; exact this
          have hdL' : ∀ j ∈ L', j.deps.length ≤ 1000000 := fun j hj => by have := may_deps (hmayL j hj); omega
          simp -implicitDefEqProofs
          refine ACall.intro (c_tOf (hG.le lK4) hok2 .no (fun j hj => by have := may_ex (hmayL j hj); omega)) fun v K5 hv => ?_
          obtain ⟨b', m', ck2, R2, rfl, hR2, hTo, l5⟩ := hv
          have hR2l : R2.length = L'.length := by rw [← hR2, List.length_map]
          simp -implicitDefEqProofs
          refine ACall.intro (c_tList hTo (fun r hr => hdL' r.1 (by rw [← hR2]; exact List.mem_map_of_mem hr)) (by rw [hR2]; exact hasc) (by omega)) fun v K6 hv => ?_
          obtain ⟨rfl, l6⟩ := hv
          rw [hR2]
          simp -implicitDefEqProofs [r13]
          refine ACall.eq (c_ref15Jobs L' L' .no .no (by omega) hdL') ?_
          rw [show sameJs L' L' = true from sameJs_iff.2 rfl]
          simp -implicitDefEqProofs
          refine ACall.eq (c_tLast (hTo.up l6)) ?_
          simp -implicitDefEqProofs [r3]
          refine ACall.eq (c_tLast (hT4.up (l5.trans l6))) ?_
          simp -implicitDefEqProofs [r4, w1]
          exact AGo.again ih (m' := l.length - (i + 1)) (by omega) (HLe.refl _) ⟨i + 1, R', last', ck', rfl, by omega, hT4.up (l5.trans l6), hok', lK4.trans (l5.trans l6), by simp [r0], by simp [r3], by simp⟩
end Go.Proofs.YtlhgpodfhdddkaaGreatDoor
namespace Go.Proofs.YtlhgpodfhdddkaaGreatDoor
open Rg Go Go.RowKit
theorem eq_ctz : (Rows.laid_math_bits_deBruijn64tab : DataW Unit) = Lib.tabData .u8 (Lib.deBruijn64tab.map fun n : Nat => (n : Int)) := by kernel_rfl
theorem eq_first : Rows.laid_unicode_utf8_first = Lib.firstData := by kernel_rfl
theorem eq_accept : (Rows.laid_unicode_utf8_acceptRanges : DataW Unit) = Lib.acceptData := by kernel_rfl
theorem u8extra : U8Extra Tryz.prog Tryz.lays260_ren := ⟨by kernel_rfl, by kernel_rfl, by kernel_rfl, by kernel_rfl, by kernel_rfl, by kernel_rfl, by kernel_rfl⟩
def ctzUs : List Value := Lib.deBruijn64tab.map fun n : Nat => .int .u8 n
def firstUs : List Value := (List.range 256).map fun c => .int .u8 (Lib.firstT c)
def acceptUs : List Value := (List.range 16).flatMap fun i => [.int .u8 (Lib.accLo i), .int .u8 (Lib.accHi i)]
def gro (m : Int) : Heap := fun b =>
  if b = 7 then some (.ro ctzUs) else if b = 0 then some (.ro [.int .i64 m]) else
  if b = 1 then some (.ro firstUs) else if b = 2 then some (.ro acceptUs) else none
theorem acceptUs_at : ∀ i, i < 16 → acceptUs[2 * i]? = some (.int .u8 (Lib.accLo i)) ∧ acceptUs[2 * i + 1]? = some (.int .u8 (Lib.accHi i)) := fun i hi => by
  have h : i = 0 ∨ i = 1 ∨ i = 2 ∨ i = 3 ∨ i = 4 ∨ i = 5 ∨ i = 6 ∨ i = 7 ∨ i = 8 ∨ i = 9 ∨ i = 10 ∨ i = 11 ∨ i = 12 ∨ i = 13 ∨ i = 14 ∨ i = 15 := by omega
  rcases h with rfl | rfl | rfl | rfl | rfl | rfl | rfl | rfl | rfl | rfl | rfl | rfl | rfl | rfl | rfl | rfl <;> exact ⟨by kernel_rfl, by kernel_rfl⟩
theorem glob_gro (m : Int) : Glob (gro m) := by
  refine ⟨⟨m, rfl⟩, ⟨ctzUs, rfl, fun j hj => ?_⟩, ⟨firstUs, rfl, fun c hc => ?_⟩, ⟨acceptUs, rfl, acceptUs_at⟩⟩
  · simp only [ctzUs, List.getElem?_map, List.getD_eq_getElem?_getD, List.getElem?_eq_getElem hj]
    rfl
  · simp only [firstUs, List.getElem?_map, List.getElem?_range hc]
    rfl
theorem ctz_reads {W : World} {l : List (String × DataW Unit)} (hL : laidMet Tryz.prog l W) (h1 : ("math/bits.deBruijn64tab", Rows.laid_math_bits_deBruijn64tab) ∈ l) (j : Nat) (u : Value) (hu : ctzUs[j]? = some u) : W.cell? ⟨7, j, none⟩ = some u := by
  obtain ⟨g, t, cs, fuel, p, hg, hty, hvar, hd⟩ := Lib.laidMet.reads hL h1
  obtain rfl : 7 = g := Option.some.inj ((show Tryz.prog.globalNamed "math/bits.deBruijn64tab" = some 7 by kernel_rfl).symm.trans hg)
  obtain rfl : 220 = t := Option.some.inj ((show (Tryz.prog.globals[7]?).map (·.type) = some 220 by kernel_rfl).symm.trans hty)
  rw [eq_ctz] at hd
  have hcs := Lib.cells_of_tab (e := 5) (n := 64) (by kernel_rfl) (by kernel_rfl) (by kernel_rfl) (by kernel_rfl) hd
  rw [World.var?_cell hg hvar j, ← Array.getElem?_toList, hcs, ← hu]
  unfold ctzUs
  simp [Function.comp_def]
theorem gro_reads {W : World} {l : List (String × DataW Unit)} (hL : laidMet Tryz.prog l W) (hsh : W.ShapedOpen Tryz.prog) (h1 : ("math/bits.deBruijn64tab", Rows.laid_math_bits_deBruijn64tab) ∈ l)
    (h3 : ("unicode/utf8.first", Rows.laid_unicode_utf8_first) ∈ l) (h4 : ("unicode/utf8.acceptRanges", Rows.laid_unicode_utf8_acceptRanges) ∈ l) : ∃ m, Reads W (gro m) := by
  obtain ⟨m, hm⟩ : ∃ m, W.cell? ⟨0, 0, none⟩ = some (.int .i64 m) := Tryz.laysM145.s1_3 W hsh
  obtain ⟨t3, t4⟩ : Lib.Utf8Tabs 1 2 W := utf8Tabs_of_reads Tryz.lays260 u8extra (eq_first ▸ Lib.laidMet.reads hL h3) (eq_accept ▸ Lib.laidMet.reads hL h4)
  refine ⟨m, fun b ob e => ?_⟩
  unfold gro at e
  split at e
  · rename_i hb
    subst hb; cases e
    exact ⟨ctzUs, rfl, by decide +kernel, by decide +kernel, ctz_reads hL h1, fun h => absurd h (by decide +kernel)⟩
  · split at e
    · rename_i hb
      subst hb; cases e
      refine ⟨_, rfl, by simp, by simp [Value.oneCell'], fun j u hu => ?_, fun h => by simp at h⟩
      cases j with
      | zero => simp at hu; subst hu; exact hm
      | succ j => simp at hu
    · split at e
      · rename_i hb
        subst hb; cases e
        refine ⟨firstUs, rfl, by decide +kernel, by decide +kernel, fun j u hu => ?_, fun h => absurd h (by decide +kernel)⟩
        have hj : j < 256 := by have := (List.getElem?_eq_some_iff.1 hu).1; simpa [firstUs] using this
        rw [t3 j hj, ← hu]
        simp only [firstUs, List.getElem?_map, List.getElem?_range hj]
        rfl
      · split at e
        · rename_i hb
          subst hb; cases e
          refine ⟨acceptUs, rfl, by decide +kernel, by decide +kernel, fun j u hu => ?_, fun h => absurd h (by decide +kernel)⟩
          have hj : j < 32 := by have := (List.getElem?_eq_some_iff.1 hu).1; rwa [show acceptUs.length = 32 by kernel_rfl] at this
          rcases Nat.mod_two_eq_zero_or_one j with h | h
          · obtain ⟨i, rfl⟩ : ∃ i, j = 2 * i := ⟨j / 2, by omega⟩
            rw [(t4 i (by omega)).1, ← hu, (acceptUs_at i (by omega)).1]
          · obtain ⟨i, rfl⟩ : ∃ i, j = 2 * i + 1 := ⟨j / 2, by omega⟩
            rw [(t4 i (by omega)).2, ← hu, (acceptUs_at i (by omega)).2]
        · cases e
def setCells (cs : Array Value) : Obj → Obj
  | .cells _ t fr => .cells cs t fr
  | o => o
noncomputable def low : Nat := (World.holding Tryz.prog default ⟨#[], #[], []⟩).heap.size
noncomputable def laidWorld (os : Os) : World :=
  let w0 := World.holding Tryz.prog os ⟨#[.cells #[.string ⟨#[105, 110, 118, 97, 108, 105, 100, 32, 115, 121, 110, 116, 97, 120]⟩] 210, .cells #[.string ⟨#[118, 97, 108, 117, 101, 32, 111, 117, 116, 32, 111, 102, 32, 114, 97, 110, 103, 101]⟩] 210], #[], []⟩
  { w0 with heap := ((((((w0.heap.modify 7 (setCells ctzUs.toArray)).modify 6 (setCells (Lib.deBruijn32tab.map fun n : Nat => Value.int .u8 n).toArray)).modify 1 (setCells firstUs.toArray)).modify 2 (setCells acceptUs.toArray)).modify 5
    (setCells ((List.range 20).map fun n => Value.int .u64 (10 ^ n)).toArray)).modify 3 (setCells #[.iface 208 (.pointer (some ⟨low, 0, none⟩))])).modify 4 (setCells #[.iface 208 (.pointer (some ⟨low + 1, 0, none⟩))]) }
theorem own : ownKnob Tryz.prog.godebug = none := by kernel_rfl
end Go.Proofs.YtlhgpodfhdddkaaGreatDoor
