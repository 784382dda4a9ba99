/- A table of jobs: New, Last, Copy, Remove. A table of jobs: Change. A table of jobs: the table of a table's own jobs. A table of jobs: the chapter's rows. A table of jobs: what a call does, plainly; the calls of the law. The document's table: a row that is changed in place, laid into a cell; Place, named; a row of jobs that is bare. The document's table: See, Pause. -/
import Derived.Test.YtlhgpodfhdddkaaGreatDoorP27
set_option linter.unusedSimpArgs false
set_option linter.unusedVariables false
set_option linter.unnecessarySimpa false
namespace Go.Proofs.YtlhgpodfhdddkaaGreatDoor
open Rg Go Go.RowKit
variable {H : Heap}
theorem c_tNew : ACalls Tryz.prog 6 [] H (fun v K => ∃ b m, H b = none ∧ H m = none ∧ v = ptr b ∧ TabAt b m 0 [] 0 K ∧ HLe H K) := by
  generalize hR : (fun (v : AV) (K : Heap) => ∃ b m, H b = none ∧ H m = none ∧ v = ptr b ∧ TabAt b m 0 [] 0 K ∧ HLe H K) = Q
  refine ACalls.into Tryz.func6 rfl Tryz.ntmps6 Tryz.results6 (by simp) ?_
  simp -implicitDefEqProofs [st_make]
  refine ACall.intro (c_makeMap 58) fun v K hv => ?_
  obtain ⟨m, hm0, rfl, rfl⟩ := hv
  simp -implicitDefEqProofs [AV.cells]
  refine AAlloc.intro fun b hb => ?_
  have nmb : m ≠ b := by rintro rfl; simp [Heap.set] at hb
  have eb : H b = none := by simpa [Heap.set, nmb.symm] using hb
  simp -implicitDefEqProofs
  subst hR
  exact AFin.intro _ _ (wk_refl _) (HWk.refl _) ⟨b, m, eb, hm0, rfl, ⟨by simp [Heap.set], by simp [Heap.set, nmb], by simp, by simp, by simp⟩, (HLe.set_fresh hm0).trans (HLe.set_fresh hb)⟩
theorem c_tLast {b m ck last : Nat} {R : List (Jb × Nat)} (h : TabAt b m ck R last H) : AOk Tryz.prog 21 [ptr b] H (.sc (.int .u64 (last : Int))) H := by
  have kb := h.bl
  refine ACalls.into Tryz.func21 rfl Tryz.ntmps21 Tryz.results21 (by simp) ?_
  simp -implicitDefEqProofs
  refine ACall.eq (c_there h) ?_
  simp -implicitDefEqProofs [kb]
theorem c_tCopy {b m ck last : Nat} {R : List (Jb × Nat)} (h : TabAt b m ck R last H) : ACalls Tryz.prog 18 [ptr b] H (fun v K => ∃ b' m', H b' = none ∧ H m' = none ∧ v = ptr b' ∧ TabAt b' m' ck R last K ∧ HLe H K) := by
  generalize hR : (fun (v : AV) (K : Heap) => ∃ b' m', H b' = none ∧ H m' = none ∧ v = ptr b' ∧ TabAt b' m' ck R last K ∧ HLe H K) = Q
  have kb := h.bl
  refine ACalls.into Tryz.func18 rfl Tryz.ntmps18 Tryz.results18 (by simp) ?_
  simp -implicitDefEqProofs
  refine ACall.eq (c_there h) ?_
  simp -implicitDefEqProofs
  refine go_draw2 12 [0, 1, 2, 3, 5, 6, 7, 8] [4, 9, 10, 11] H f_mixed (by decide +kernel) (HC.refl _) ?_
  simp -implicitDefEqProofs [kb]
  refine AES.call (c_mapsClone h.at_) fun v K4 hv => ?_
  obtain ⟨m', hm', rfl, rfl⟩ := hv
  refine ⟨hc_le (HLe.set_fresh hm'), ?_⟩
  simp -implicitDefEqProofs
  refine AES.alloc fun b' hb' => ?_
  have nmb : m' ≠ b' := by rintro rfl; simp [Heap.set] at hb'
  have eb : H b' = none := by simpa [Heap.set, nmb.symm] using hb'
  simp -implicitDefEqProofs
  subst hR
  exact AFin.intro _ _ (wk_refl _) (HWk.refl _) ⟨b', m', eb, hm', rfl, ⟨by simp [Heap.set], by simp [Heap.set, nmb], h.lt, h.nb, h.nk⟩, (HLe.set_fresh hm').trans (HLe.set_fresh hb')⟩
theorem erase_filter {R : List (Jb × Nat)} (hk : (R.map fun r => r.1.id).Nodup) {i : Nat} {r : Jb × Nat} (hr : R[i]? = some r) : (R.eraseIdx i).map (fun r => r.1) = (R.map fun r => r.1).filter fun k => decide (k.id ≠ r.1.id) := by
  have hsp := erase_split hr
  rw [List.eraseIdx_eq_take_drop_succ]
  conv => rhs; rw [hsp]
  rw [hsp] at hk
  rw [List.map_append, List.map_cons, List.nodup_append, List.nodup_cons] at hk
  rw [List.map_append, List.map_append, List.map_cons, List.filter_append, List.filter_cons_of_neg (by simp)]
  congr 1
  · rw [List.filter_eq_self.2]
    intro k hk'
    obtain ⟨q, hq, rfl⟩ := List.mem_map.1 hk'
    have := hk.2.2 _ (List.mem_map_of_mem hq) r.1.id (List.mem_cons_self)
    simpa using this
  · rw [List.filter_eq_self.2]
    intro k hk'
    obtain ⟨q, hq, rfl⟩ := List.mem_map.1 hk'
    have : q.1.id ≠ r.1.id := fun e => hk.2.1.1 (by rw [← e]; exact List.mem_map_of_mem hq)
    simpa using this
set_option maxHeartbeats 2000000 in
theorem c_tRemove {b m ck last n : Nat} {R : List (Jb × Nat)} (h : TabAt b m ck R last H) (hok : TbOk (tbOf R last) n) (id : Nat) :
    ACalls Tryz.prog 12 [ptr b, .sc (.int .u64 (id : Int))] H (fun v K => v = .sc (.int .i64 (removeT (tbOf R last) id).1) ∧ After b m (removeT (tbOf R last) id).2 H K) := by
  obtain ⟨res, hres⟩ : ∃ r, removeT (tbOf R last) id = r := ⟨_, rfl⟩
  rw [hres]
  generalize hR : (fun (v : AV) (K : Heap) => v = .sc (.int .i64 res.1) ∧ After b m res.2 H K) = Q
  unfold removeT at hres
  have hRl := len_of hok
  have hdl := deps_of hok
  obtain ⟨dk, hdk⟩ := ty_of (P := Tryz.prog) (T := 28) (by kernel_rfl)
  have same : ∀ {K}, HLe H K → After b m (tbOf R last) H K := fun hK => ⟨R, last, ck, rfl, h.up hK, Upd.le hK⟩
  refine ACalls.into Tryz.func12 rfl Tryz.ntmps12 Tryz.results12 (by simp) ?_
  simp -implicitDefEqProofs
  refine ACall.intro (c_tHas h id) fun v K1 hv => ?_
  obtain ⟨rfl, l1⟩ := hv
  cases hf : foundT (tbOf R last) id with
  | none =>
    rw [hf] at hres
    simp -implicitDefEqProofs
    subst hR
    subst hres
    exact AFin.intro _ _ (wk_refl _) (HWk.refl _) ⟨rfl, same l1⟩
  | some w =>
    obtain ⟨i, r, hr, rfl, hwi⟩ := found_ix hf
    rw [hf] at hres
    simp only at hres
    have hhit := h.hit hr
    rw [hwi] at hhit
    simp -implicitDefEqProofs
    refine ACall.intro (c_tNodes (h.up l1) hdl hok.asc (by omega)) fun v K2 hv => ?_
    obtain ⟨rfl, hK2⟩ := hv
    have l2 := l1.trans hK2
    obtain ⟨N, hN⟩ : ∃ N, ndsOf (R.map fun r => r.1) = N := ⟨_, rfl⟩
    have hNl : N.length = R.length := by rw [← hN]; simp
    have hNd : ∀ n ∈ N, n.2.length ≤ 1000000 := fun n hn => by
      rw [← hN] at hn
      obtain ⟨k, hk, rfl⟩ := List.mem_map.1 hn
      obtain ⟨q, hq, rfl⟩ := List.mem_map.1 hk
      exact hdl q hq
    have hNe : (∃ n ∈ N, id ∈ n.2) ↔ ∃ k ∈ R.map (fun r => r.1), id ∈ k.deps := by
      rw [← hN]
      constructor
      · rintro ⟨n, hn, hx⟩
        obtain ⟨k, hk, rfl⟩ := List.mem_map.1 hn
        exact ⟨k, hk, hx⟩
      · rintro ⟨k, hk, hx⟩
        exact ⟨ndOf k, List.mem_map_of_mem hk, hx⟩
    rw [hN]
    simp -implicitDefEqProofs
    refine ACall.intro (c_users N .no id (by omega) hNd) fun v K3 hv => ?_
    obtain ⟨A, k, cap, rfl, hk, hK3⟩ := hv
    rw [hNe] at hk
    have l3 := l2.trans hK3
    by_cases hk0 : 0 < k
    · have hk0' : 0 < (k : Int) := by omega
      rw [if_pos (hk.1 hk0)] at hres
      simp -implicitDefEqProofs [hk0, hk0']
      subst hR
      subst hres
      exact AFin.intro _ _ (wk_refl _) (HWk.refl _) ⟨rfl, same l3⟩
    · have hk0' : ¬ 0 < (k : Int) := by omega
      rw [if_neg (fun h => hk0 (hk.2 h))] at hres
      have kb := (h.up l3).bl
      have km := (h.up l3).at_
      have hes : ((R.map jME).map meAV).eraseIdx i = ((R.eraseIdx i).map jME).map meAV := by rw [map_erase, map_erase]
      have hfl := erase_filter h.nk hr
      rw [hwi] at hfl
      have hdel := c_delete m_jobs hdk km (acheck_n id) hhit
      rw [hes] at hdel
      have hs : (R.eraseIdx i).Sublist R := List.eraseIdx_sublist _ _
      have hT : TabAt b m ck (R.eraseIdx i) last (K3.set m (.map (((R.eraseIdx i).map jME).map meAV) ck)) := ⟨by simp [Heap.set, h.ne, kb], by simp [Heap.set], fun q hq => h.lt q (hs.subset hq), h.nb.sublist (hs.map _), h.nk.sublist (hs.map _)⟩
      obtain ⟨es, hes2⟩ : ∃ es, ((R.eraseIdx i).map jME).map meAV = es := ⟨_, rfl⟩
      rw [hes2] at hdel hT
      simp -implicitDefEqProofs [hk0, hk0', kb]
      refine ACall.eq hdel ?_
      simp -implicitDefEqProofs
      subst hR
      subst hres
      exact AFin.intro _ _ (wk_refl _) (HWk.refl _) ⟨rfl, R.eraseIdx i, last, ck, by rw [tbOf, hfl], hT, (Upd.le l3).set (.inr rfl)⟩
end Go.Proofs.YtlhgpodfhdddkaaGreatDoor
namespace Go.Proofs.YtlhgpodfhdddkaaGreatDoor
open Rg Go Go.RowKit
variable {H : Heap}
set_option maxHeartbeats 4000000 in
theorem c_tChange {b m ck last n : Nat} {R : List (Jb × Nat)} (hG : Glob H) (h : TabAt b m ck R last H) (hok : TbOk (tbOf R last) n) (hn : n ≤ 1000) (id : Nat) (j : Jb) (hs : j.ex.length ≤ 9223372036854775807) :
    ACalls Tryz.prog 10 [ptr b, .sc (.int .u64 (id : Int)), jbAV j .no] H (fun v K => v = .sc (.int .i64 (changeT (tbOf R last) id j).1) ∧ After b m (changeT (tbOf R last) id j).2 H K) := by
  obtain ⟨res, hres⟩ : ∃ r, changeT (tbOf R last) id j = r := ⟨_, rfl⟩
  rw [hres]
  generalize hR : (fun (v : AV) (K : Heap) => v = .sc (.int .i64 res.1) ∧ After b m res.2 H K) = Q
  unfold changeT at hres
  have hRl := len_of hok
  have hdl := deps_of hok
  obtain ⟨dk, hdk⟩ := ty_of (P := Tryz.prog) (T := 28) (by kernel_rfl)
  have same : ∀ {K}, HLe H K → After b m (tbOf R last) H K := fun hK => ⟨R, last, ck, rfl, h.up hK, Upd.le hK⟩
  refine ACalls.into Tryz.func10 rfl Tryz.ntmps10 Tryz.results10 (by simp) ?_
  simp -implicitDefEqProofs [AV.cells]
  refine AAlloc.intro fun b5 h5 => ?_
  have nb5 : b ≠ b5 := by rintro rfl; rw [h.bl] at h5; cases h5
  have nm5 : m ≠ b5 := by rintro rfl; rw [h.at_] at h5; cases h5
  simp -implicitDefEqProofs
  generalize hK5 : Heap.set H b5 _ = K5
  have l5 : HLe H K5 := by rw [← hK5]; exact HLe.set_fresh h5
  have k5 : K5 b5 = some (.cells (jbC j .no) 33) := by rw [← hK5]; simp [Heap.set]
  clear hK5
  refine ACall.intro (c_tHas (h.up l5) id) fun v K1 hv => ?_
  obtain ⟨rfl, hK1⟩ := hv
  have l1 := l5.trans hK1
  have k15 := hK1 _ _ k5
  cases hf : foundT (tbOf R last) id with
  | none =>
    rw [hf] at hres
    simp -implicitDefEqProofs
    subst hR
    subst hres
    exact AFin.intro _ _ (wk_refl _) (HWk.refl _) ⟨rfl, same l1⟩
  | some w =>
    obtain ⟨i, r, hr, rfl, hwi⟩ := found_ix hf
    rw [hf] at hres
    simp only at hres
    have hhit := h.hit hr
    rw [hwi] at hhit
    have hrm := List.mem_of_getElem? hr
    have hver := hok.ver r.1 (List.mem_map_of_mem hrm)
    simp -implicitDefEqProofs [k15]
    refine ACall.eq (c_jobMay (hG.le l1) j .no hs) ?_
    by_cases hm : mayJ j ≠ 0
    · rw [if_pos hm] at hres
      simp -implicitDefEqProofs [hm]
      subst hR
      subst hres
      exact AFin.intro _ _ (wk_refl _) (HWk.refl _) ⟨by simp, same l1⟩
    rw [if_neg hm] at hres
    have hm0 : mayJ j = 0 := by simpa using hm
    have hj8 := may_deps hm0
    simp -implicitDefEqProofs [hm0, k15]
    refine ACall.intro (c_tNamed (h.up l1) hdl (nams_of R hok) j.name) fun v K2 hv => ?_
    obtain ⟨rfl, hK2⟩ := hv
    have l2 := l1.trans hK2
    have k25 := hK2 _ _ k15
    obtain ⟨nm, hnm⟩ : ∃ x, namedT (tbOf R last) j.name = x := ⟨_, rfl⟩
    rw [hnm] at hres ⊢
    cases nm with
    | some x =>
      simp -implicitDefEqProofs [ans_some, AV.cells]
      refine AAlloc.intro fun b9 h9 => ?_
      by_cases hx : x.id = id
      · have hx' : (x.id : Int) = (id : Int) := by omega
        rw [if_neg (show ¬ decide (x.id ≠ id) = true by simp [hx])] at hres
        have nb9 : b ≠ b9 := by rintro rfl; rw [(h.up l2).bl] at h9; cases h9
        have n59 : b5 ≠ b9 := by rintro rfl; rw [k25] at h9; cases h9
        have kb := (h.up l2).bl
        simp -implicitDefEqProofs [hx, hx', nb9, kb, st_lookup]
        generalize hK3 : Heap.set K2 b9 _ = K3
        have l23 : HLe K2 K3 := by rw [← hK3]; exact HLe.set_fresh h9
        clear hK3
        have l3 := l2.trans l23
        have k35 := l23 _ _ k25
        refine ACall.eq (c_lookup1 m_jobs hdk (h.up l3).at_ (acheck_n id) hhit) ?_
        simp -implicitDefEqProofs [AV.cells]
        refine AAlloc.intro fun b11 h11 => ?_
        have n511 : b5 ≠ b11 := by rintro rfl; rw [k35] at h11; cases h11
        simp -implicitDefEqProofs [n511, k35]
        generalize hK4 : Heap.set K3 b11 _ = K4
        have l34 : HLe K3 K4 := by rw [← hK4]; exact HLe.set_fresh h11
        have k411 : K4 b11 = some (.cells (jbC r.1 .no) 33) := by rw [← hK4]; simp [Heap.set]
        clear hK4
        have l4 := l3.trans l34
        have k45 := l34 _ _ k35
        refine ACall.intro (c_tclone j (by omega)) fun v K6 hv => ?_
        obtain ⟨rfl, hK6⟩ := hv
        have l6 := l4.trans hK6
        have k611 := hK6 _ _ k411
        have k65 := hK6 _ _ k45
        simp -implicitDefEqProofs [k65]
        generalize hK7 : Heap.set K6 b5 _ = K7
        have k75 : K7 b5 = some (.cells (jbC j .no) 33) := by rw [← hK7]; simp [Heap.set]
        have k711 : K7 b11 = some (.cells (jbC r.1 .no) 33) := by rw [← hK7]; simp [Heap.set, n511.symm, k611]
        have e5 : H b5 = none := h5
        have l7 : HLe H K7 := by rw [← hK7]; exact HLe.set_new l6 e5
        clear hK7
        obtain ⟨V1, hV1⟩ : ∃ V, r.1.ver + 1 = V := ⟨_, rfl⟩
        have w1 : IntKind.u64.wrap ((r.1.ver : Int) + 1) = (V1 : Int) := by rw [wrap_u64 (by omega) (by omega)]; omega
        obtain ⟨J, hJ⟩ : ∃ J : Jb, { j with id := id, pau := r.1.pau, seen := r.1.seen, ver := V1 } = J := ⟨_, rfl⟩
        have hJc : chgJ r.1 j = J := by rw [← hJ, ← hV1, ← hwi]
        rw [hJc] at hres
        have hJi : J.id = r.1.id := by rw [← hJ, hwi]
        have hJii : J.id = id := by rw [← hJ]
        have hJd : J.deps.length ≤ 8 := by rw [← hJ]; exact hj8
        have hJC : jbC J .no = [.sc (.int .u64 (id : Int)), str j.name, str j.ex, .sc (.int .i64 j.pol), .sc (.int .i64 j.gr), .sc (.int .i64 j.lim), .sc (.int .i64 j.ret), .sc (.int .i64 j.tim), .sl (nuAV j.deps) .no, .sc (.bool r.1.pau), .sc (.int .u64 (V1 : Int)), .sc (.int .i64 r.1.seen)] := by rw [← hJ]
        have hJA : AV.agg [.sc (.int .u64 (id : Int)), str j.name, str j.ex, .sc (.int .i64 j.pol), .sc (.int .i64 j.gr), .sc (.int .i64 j.lim), .sc (.int .i64 j.ret), .sc (.int .i64 j.tim), .sl (nuAV j.deps) .no, .sc (.bool r.1.pau), .sc (.int .u64 (V1 : Int)), .sc (.int .i64 r.1.seen)] = jbAV J .no := by rw [← hJC]
        have d11 : (K7.del b5) b11 = some (.cells (jbC r.1 .no) 33) := by simp [Heap.del, n511.symm, k711]
        refine go_draw2 16 [0, 1, 2, 3, 4, 5, 6, 7, 8] [9, 10, 11, 12, 13, 14, 15] (K7.del b5) f_mixed (by decide +kernel) HC.del ?_
        have hcs : ∀ o, HC (K7.del b5) (K7.set b5 o) := fun o c cs hc => by
          have hcb : c ≠ b5 := by rintro rfl; simp [Heap.del, rd] at hc
          simpa [Heap.set, Heap.del, hcb] using hc
        simp -implicitDefEqProofs [Heap.del, n511, n511.symm, k711, w1, k75]
        refine AES.store k75 (hcs _) ?_
        simp -implicitDefEqProofs [lset]
        refine AES.store (by simp [Heap.set]; exact ⟨rfl, rfl⟩) (by simp only [Heap.set_set]; exact hcs _) ?_
        simp -implicitDefEqProofs [lset]
        refine AES.store (by simp [Heap.set]; exact ⟨rfl, rfl⟩) (by simp only [Heap.set_set]; exact hcs _) ?_
        simp -implicitDefEqProofs [lset]
        refine AES.store (by simp [Heap.set]; exact ⟨rfl, rfl⟩) (by simp only [Heap.set_set]; exact hcs _) ?_
        simp -implicitDefEqProofs [lset]
        generalize hK8 : Heap.set K7 b5 _ = K8
        have k85 : K8 b5 = some (.cells (jbC J .no) 33) := by rw [← hK8, hJC]; simp [Heap.set]
        have l8 : HLe H K8 := by rw [← hK8]; exact HLe.set_new l7 e5
        clear hK8
        rw [hJA]
        have hse := set_ent (R := R) (i := i) hJi
        rw [hwi] at hse
        have hpe := put_ent h.nk hr J
        rw [hwi] at hpe
        have he : ((R.map jME).map meAV)[i]? = some (uAV id, jbAV r.1 .no, r.2) := by rw [List.getElem?_map, List.getElem?_map, hr, ← hwi]; rfl
        have hpu := fun hK => h.put hr hJi (K := K8) hK
        refine ACall.intro (c_tRowG (h.up l8) (R' := R.set i (J, r.2)) (ck' := ck) (fun K m' hm' => by rw [← hse, hJii]; exact c_update m_jobs hdk hm' (acheck_n id) hhit he (jbAV J .no)) (hpu l8).lt (hpu l8).nb ?_ ?_ (by rw [List.length_set]; omega)) fun v K9 hv => ?_
        · intro q hq
          rcases List.mem_or_eq_of_mem_set hq with hq | hq
          · exact hdl q hq
          · rw [hq]; simp only; omega
        · rw [hpe]; exact put_asc hJii hok.asc
        obtain ⟨rfl, hK9⟩ := hv
        have l9 := l8.trans hK9
        have k95 := hK9 _ _ k85
        rw [hpe]
        obtain ⟨e, hee⟩ : ∃ e, mayN (ndsOf (putT (R.map fun r => r.1) id J)) = e := ⟨_, rfl⟩
        rw [hee] at hres ⊢
        by_cases h0 : e ≠ 0
        · rw [if_pos h0] at hres
          simp -implicitDefEqProofs [h0]
          subst hR
          subst hres
          exact AFin.intro _ _ (wk_refl _) (HWk.refl _) ⟨by simp, same l9⟩
        rw [if_neg h0] at hres
        have h00 : e = 0 := by simpa using h0
        have kb := (h.up l9).bl
        have km := (h.up l9).at_
        have hA := h.putAfter hr hJi l9
        rw [← set_ent (R := R) (i := i) hJi, hwi] at hA
        obtain ⟨es, hes⟩ : ∃ es, ((R.map jME).map meAV).set i (uAV id, jbAV J .no, r.2) = es := ⟨_, rfl⟩
        rw [hes] at hA
        simp -implicitDefEqProofs [h00]
        refine go_draw2 7 [0, 1, 2, 3, 4, 5] [6] K9 f_mixed (by decide +kernel) (HC.refl _) ?_
        simp -implicitDefEqProofs [kb, k95, st_update]
        refine AES.call (c_update m_jobs hdk km (acheck_n id) hhit he (jbAV J .no)) fun v K hv => ?_
        obtain ⟨rfl, rfl⟩ := hv
        refine ⟨hc_map (HC.refl _) (by rw [km]; rfl), ?_⟩
        rw [hes]
        simp -implicitDefEqProofs
        subst hR
        subst hres
        exact AFin.intro _ _ (wk_refl _) (HWk.refl _) ⟨rfl, hA⟩
      · have hx' : ¬ (x.id : Int) = (id : Int) := by omega
        rw [if_pos (show decide (x.id ≠ id) = true by simp [hx])] at hres
        simp -implicitDefEqProofs [hx, hx']
        subst hR
        subst hres
        exact AFin.intro _ _ (wk_refl _) (HWk.refl _) ⟨by simp, same (l2.trans (HLe.set_fresh h9))⟩
    | none =>
      rw [if_neg (by simp)] at hres
      simp -implicitDefEqProofs [ans_none, AV.cells]
      refine AAlloc.intro fun b9 h9 => ?_
      have nb9 : b ≠ b9 := by rintro rfl; rw [(h.up l2).bl] at h9; cases h9
      have n59 : b5 ≠ b9 := by rintro rfl; rw [k25] at h9; cases h9
      have kb := (h.up l2).bl
      simp -implicitDefEqProofs [nb9, kb, st_lookup]
      generalize hK3 : Heap.set K2 b9 _ = K3
      have l23 : HLe K2 K3 := by rw [← hK3]; exact HLe.set_fresh h9
      clear hK3
      have l3 := l2.trans l23
      have k35 := l23 _ _ k25
      refine ACall.eq (c_lookup1 m_jobs hdk (h.up l3).at_ (acheck_n id) hhit) ?_
      simp -implicitDefEqProofs [AV.cells]
      refine AAlloc.intro fun b11 h11 => ?_
      have n511 : b5 ≠ b11 := by rintro rfl; rw [k35] at h11; cases h11
      simp -implicitDefEqProofs [n511, k35]
      generalize hK4 : Heap.set K3 b11 _ = K4
      have l34 : HLe K3 K4 := by rw [← hK4]; exact HLe.set_fresh h11
      have k411 : K4 b11 = some (.cells (jbC r.1 .no) 33) := by rw [← hK4]; simp [Heap.set]
      clear hK4
      have l4 := l3.trans l34
      have k45 := l34 _ _ k35
      refine ACall.intro (c_tclone j (by omega)) fun v K6 hv => ?_
      obtain ⟨rfl, hK6⟩ := hv
      have l6 := l4.trans hK6
      have k611 := hK6 _ _ k411
      have k65 := hK6 _ _ k45
      simp -implicitDefEqProofs [k65]
      generalize hK7 : Heap.set K6 b5 _ = K7
      have k75 : K7 b5 = some (.cells (jbC j .no) 33) := by rw [← hK7]; simp [Heap.set]
      have k711 : K7 b11 = some (.cells (jbC r.1 .no) 33) := by rw [← hK7]; simp [Heap.set, n511.symm, k611]
      have e5 : H b5 = none := h5
      have l7 : HLe H K7 := by rw [← hK7]; exact HLe.set_new l6 e5
      clear hK7
      obtain ⟨V1, hV1⟩ : ∃ V, r.1.ver + 1 = V := ⟨_, rfl⟩
      have w1 : IntKind.u64.wrap ((r.1.ver : Int) + 1) = (V1 : Int) := by rw [wrap_u64 (by omega) (by omega)]; omega
      obtain ⟨J, hJ⟩ : ∃ J : Jb, { j with id := id, pau := r.1.pau, seen := r.1.seen, ver := V1 } = J := ⟨_, rfl⟩
      have hJc : chgJ r.1 j = J := by rw [← hJ, ← hV1, ← hwi]
      rw [hJc] at hres
      have hJi : J.id = r.1.id := by rw [← hJ, hwi]
      have hJii : J.id = id := by rw [← hJ]
      have hJd : J.deps.length ≤ 8 := by rw [← hJ]; exact hj8
      have hJC : jbC J .no = [.sc (.int .u64 (id : Int)), str j.name, str j.ex, .sc (.int .i64 j.pol), .sc (.int .i64 j.gr), .sc (.int .i64 j.lim), .sc (.int .i64 j.ret), .sc (.int .i64 j.tim), .sl (nuAV j.deps) .no, .sc (.bool r.1.pau), .sc (.int .u64 (V1 : Int)), .sc (.int .i64 r.1.seen)] := by rw [← hJ]
      have hJA : AV.agg [.sc (.int .u64 (id : Int)), str j.name, str j.ex, .sc (.int .i64 j.pol), .sc (.int .i64 j.gr), .sc (.int .i64 j.lim), .sc (.int .i64 j.ret), .sc (.int .i64 j.tim), .sl (nuAV j.deps) .no, .sc (.bool r.1.pau), .sc (.int .u64 (V1 : Int)), .sc (.int .i64 r.1.seen)] = jbAV J .no := by rw [← hJC]
      have d11 : (K7.del b5) b11 = some (.cells (jbC r.1 .no) 33) := by simp [Heap.del, n511.symm, k711]
      refine go_draw2 16 [0, 1, 2, 3, 4, 5, 6, 7, 8] [9, 10, 11, 12, 13, 14, 15] (K7.del b5) f_mixed (by decide +kernel) HC.del ?_
      have hcs : ∀ o, HC (K7.del b5) (K7.set b5 o) := fun o c cs hc => by
        have hcb : c ≠ b5 := by rintro rfl; simp [Heap.del, rd] at hc
        simpa [Heap.set, Heap.del, hcb] using hc
      simp -implicitDefEqProofs [Heap.del, n511, n511.symm, k711, w1, k75]
      refine AES.store k75 (hcs _) ?_
      simp -implicitDefEqProofs [lset]
      refine AES.store (by simp [Heap.set]; exact ⟨rfl, rfl⟩) (by simp only [Heap.set_set]; exact hcs _) ?_
      simp -implicitDefEqProofs [lset]
      refine AES.store (by simp [Heap.set]; exact ⟨rfl, rfl⟩) (by simp only [Heap.set_set]; exact hcs _) ?_
      simp -implicitDefEqProofs [lset]
      refine AES.store (by simp [Heap.set]; exact ⟨rfl, rfl⟩) (by simp only [Heap.set_set]; exact hcs _) ?_
      simp -implicitDefEqProofs [lset]
      generalize hK8 : Heap.set K7 b5 _ = K8
      have k85 : K8 b5 = some (.cells (jbC J .no) 33) := by rw [← hK8, hJC]; simp [Heap.set]
      have l8 : HLe H K8 := by rw [← hK8]; exact HLe.set_new l7 e5
      clear hK8
      rw [hJA]
      have hse := set_ent (R := R) (i := i) hJi
      rw [hwi] at hse
      have hpe := put_ent h.nk hr J
      rw [hwi] at hpe
      have he : ((R.map jME).map meAV)[i]? = some (uAV id, jbAV r.1 .no, r.2) := by rw [List.getElem?_map, List.getElem?_map, hr, ← hwi]; rfl
      have hpu := fun hK => h.put hr hJi (K := K8) hK
      refine ACall.intro (c_tRowG (h.up l8) (R' := R.set i (J, r.2)) (ck' := ck) (fun K m' hm' => by rw [← hse, hJii]; exact c_update m_jobs hdk hm' (acheck_n id) hhit he (jbAV J .no)) (hpu l8).lt (hpu l8).nb ?_ ?_ (by rw [List.length_set]; omega)) fun v K9 hv => ?_
      · intro q hq
        rcases List.mem_or_eq_of_mem_set hq with hq | hq
        · exact hdl q hq
        · rw [hq]; simp only; omega
      · rw [hpe]; exact put_asc hJii hok.asc
      obtain ⟨rfl, hK9⟩ := hv
      have l9 := l8.trans hK9
      have k95 := hK9 _ _ k85
      rw [hpe]
      obtain ⟨e, hee⟩ : ∃ e, mayN (ndsOf (putT (R.map fun r => r.1) id J)) = e := ⟨_, rfl⟩
      rw [hee] at hres ⊢
      by_cases h0 : e ≠ 0
      · rw [if_pos h0] at hres
        simp -implicitDefEqProofs [h0]
        subst hR
        subst hres
        exact AFin.intro _ _ (wk_refl _) (HWk.refl _) ⟨by simp, same l9⟩
      rw [if_neg h0] at hres
      have h00 : e = 0 := by simpa using h0
      have kb := (h.up l9).bl
      have km := (h.up l9).at_
      have hA := h.putAfter hr hJi l9
      rw [← set_ent (R := R) (i := i) hJi, hwi] at hA
      obtain ⟨es, hes⟩ : ∃ es, ((R.map jME).map meAV).set i (uAV id, jbAV J .no, r.2) = es := ⟨_, rfl⟩
      rw [hes] at hA
      simp -implicitDefEqProofs [h00]
      refine go_draw2 7 [0, 1, 2, 3, 4, 5] [6] K9 f_mixed (by decide +kernel) (HC.refl _) ?_
      simp -implicitDefEqProofs [kb, k95, st_update]
      refine AES.call (c_update m_jobs hdk km (acheck_n id) hhit he (jbAV J .no)) fun v K hv => ?_
      obtain ⟨rfl, rfl⟩ := hv
      refine ⟨hc_map (HC.refl _) (by rw [km]; rfl), ?_⟩
      rw [hes]
      simp -implicitDefEqProofs
      subst hR
      subst hres
      exact AFin.intro _ _ (wk_refl _) (HWk.refl _) ⟨rfl, hA⟩
end Go.Proofs.YtlhgpodfhdddkaaGreatDoor
namespace Go.Proofs.YtlhgpodfhdddkaaGreatDoor
open Rg Go Go.RowKit
variable {H : Heap}
end Go.Proofs.YtlhgpodfhdddkaaGreatDoor
namespace Go.Proofs.YtlhgpodfhdddkaaGreatDoor
open Rg Go Go.RowKit
variable {H : Heap}
theorem mayN_ord {l : List Nd} {out : List Nat} (h1 : l.length ≤ 64) (h2 : ∀ n ∈ l, n.2.length ≤ 8) (h3 : (idsN l).Nodup) (h4 : ∀ n ∈ l, n.2.Nodup) (h5 : ∀ n ∈ l, ∀ d ∈ n.2, d ∈ idsN l) (h6 : OrdOk l out) (h7 : ∀ a ∈ idsN l, a ∈ out) : mayN l = 0 := by
  have hN : ¬ noneN l := by
    rintro ⟨n, hn, d, hd, h⟩
    exact h (h5 n hn d hd)
  rw [mayN_zero]
  refine ⟨?_, ?_, hN, fun hc => ?_⟩
  · rintro (h | ⟨n, hn, h⟩)
    · omega
    · have := h2 n hn; omega
  · rintro (h | ⟨n, hn, h⟩)
    · exact h h3
    · exact h (h4 n hn)
  · have := (ord_circ h6 h3 hN (fun n hn h => absurd (h7 _ (List.mem_map_of_mem hn)) h)).2 hc
    have h8 := nodup_len _ _ h3 h7
    rw [ids_len] at h8
    omega
abbrev daily : List UInt8 := [64, 100, 97, 105, 108, 121]
abbrev plJ (n : UInt8) (deps : List Nat) : Jb := ⟨0, [n], daily, 1, 0, 1, 0, 1, deps, false, 0, 0⟩
theorem daily_ok : (cronK daily).2 = 0 := by decide +kernel
theorem plJ_may (n : UInt8) (deps : List Nat) (h : deps.length ≤ 8) : mayJ (plJ n deps) = 0 := by
  unfold mayJ
  have h8 : ¬ 8 < deps.length := by omega
  simp [daily_ok, h8, badJ]
abbrev jA : Jb := ⟨1, [97], daily, 1, 0, 1, 0, 1, [], false, 1, 0⟩
abbrev jB : Jb := ⟨2, [98], daily, 1, 0, 1, 0, 1, [1], false, 1, 0⟩
abbrev jC : Jb := ⟨3, [99], daily, 1, 0, 1, 0, 1, [], false, 1, 0⟩
theorem row1 (i : Nat) : mayN [(i, [])] = 0 := by
  refine mayN_ord (out := [i]) (by simp) (by simp) (by simp [idsN]) (by simp) (by simp) ⟨by simp, by simp [idsN], fun k a h => ?_⟩ (by simp [idsN])
  cases k with
  | zero => simp at h; subst h; exact ⟨[], by simp, by simp⟩
  | succ k => simp at h
theorem row2 : mayN [(1, []), (2, [1])] = 0 := by
  refine mayN_ord (out := [1, 2]) (by simp) (by simp) (by simp [idsN]) (by simp) (by simp [idsN]) ⟨by simp, by simp [idsN], fun k a h => ?_⟩ (by simp [idsN])
  match k with
  | 0 => simp at h; subst h; exact ⟨[], by simp, by simp⟩
  | 1 => simp at h; subst h; exact ⟨[1], by simp, by simp⟩
  | k + 2 => simp at h
theorem row3 : mayN [(1, [2]), (2, [1])] = 131 := by
  classical
  have h1 : ¬ longN [(1, [2]), (2, [1])] := by
    rintro (h | ⟨n, hn, h⟩)
    · simp at h
    · simp at hn; rcases hn with rfl | rfl <;> simp at h
  have h2 : ¬ twiceN [(1, [2]), (2, [1])] := by
    rintro (h | ⟨n, hn, h⟩)
    · simp [idsN] at h
    · simp at hn; rcases hn with rfl | rfl <;> simp at h
  have h3 : ¬ noneN [(1, [2]), (2, [1])] := by
    rintro ⟨n, hn, d, hd, h⟩
    simp at hn
    rcases hn with rfl | rfl <;> simp at hd <;> subst hd <;> simp [idsN] at h
  have h4 : Circ [(1, [2]), (2, [1])] := ⟨1, by simp [idsN], .more (.one ⟨[2], by simp, by simp⟩) (⟨[1], by simp, by simp⟩ : Waits [(1, [2]), (2, [1])] 2 1)⟩
  unfold mayN
  rw [if_neg h1, if_neg h2, if_neg h3, if_pos h4]
theorem kA1 : addT ⟨[], 0⟩ (plJ 97 []) = (1, 0, ⟨[jA], 1⟩) := by
  unfold addT
  rw [if_neg (by simp [plJ_may]), if_neg (by simp [namedT]), if_neg (by simp)]
  have : mayN (ndsOf ([] ++ [newJ ⟨[], 0⟩ (plJ 97 [])])) = 0 := row1 1
  rw [if_neg (by rw [this]; simp)]
  rfl
theorem kA2 : addT ⟨[jA], 1⟩ (plJ 98 [1]) = (2, 0, ⟨[jA, jB], 2⟩) := by
  unfold addT
  rw [if_neg (by simp [plJ_may]), if_neg (by simp [namedT]), if_neg (by simp)]
  have : mayN (ndsOf ([jA] ++ [newJ ⟨[jA], 1⟩ (plJ 98 [1])])) = 0 := row2
  rw [if_neg (by rw [this]; simp)]
  rfl
theorem kA3 : addT ⟨[jA, jB], 2⟩ (plJ 97 []) = (0, 150, ⟨[jA, jB], 2⟩) := by
  unfold addT
  rw [if_neg (by simp [plJ_may]), if_pos (by simp [namedT])]
theorem kR1 : removeT ⟨[jA, jB], 2⟩ 1 = (151, ⟨[jA, jB], 2⟩) := by
  unfold removeT
  rw [show foundT ⟨[jA, jB], 2⟩ 1 = some jA from by simp [foundT]]
  simp
theorem kC1 : changeT ⟨[jA, jB], 2⟩ 1 (plJ 97 [2]) = (131, ⟨[jA, jB], 2⟩) := by
  unfold changeT
  rw [show foundT ⟨[jA, jB], 2⟩ 1 = some jA from by simp [foundT]]
  dsimp only
  rw [if_neg (by simp [plJ_may]), if_neg (by simp [namedT])]
  have : mayN (ndsOf (putT [jA, jB] 1 (chgJ jA (plJ 97 [2])))) = 131 := row3
  rw [this]
  simp
theorem kR2 : removeT ⟨[jA, jB], 2⟩ 2 = (0, ⟨[jA], 2⟩) := by
  unfold removeT
  rw [show foundT ⟨[jA, jB], 2⟩ 2 = some jB from by simp [foundT]]
  simp
theorem kR3 : removeT ⟨[jA], 2⟩ 1 = (0, ⟨[], 2⟩) := by
  unfold removeT
  rw [show foundT ⟨[jA], 2⟩ 1 = some jA from by simp [foundT]]
  simp
theorem kA4 : addT ⟨[], 2⟩ (plJ 99 []) = (3, 0, ⟨[jC], 3⟩) := by
  unfold addT
  rw [if_neg (by simp [plJ_may]), if_neg (by simp [namedT]), if_neg (by simp)]
  have : mayN (ndsOf ([] ++ [newJ ⟨[], 2⟩ (plJ 99 [])])) = 0 := row1 3
  rw [if_neg (by rw [this]; simp)]
  rfl
theorem tb0_ok : TbOk ⟨[], 0⟩ 0 := by
  refine ⟨by simp, by simp, by simp, by simp, by simp, ?_, by simp, by simp⟩
  exact mayN_ord (out := []) (by simp) (by simp) (by simp [idsN]) (by simp) (by simp) ⟨by simp, by simp, by simp⟩ (by simp [idsN])
theorem c_plain (n : UInt8) (deps : List Nat) (t : Rg.Tok) : ACalls Tryz.prog 27 [str [n], .sl (nuAV deps) t] H (fun v K => v = jbAV (plJ n deps) .no ∧ HLe H K) := by
  generalize hR : (fun (v : AV) (K : Heap) => v = jbAV (plJ n deps) .no ∧ HLe H K) = R
  refine ACalls.into Tryz.func27 rfl Tryz.ntmps27 Tryz.results27 (by simp) ?_
  simp -implicitDefEqProofs [AV.cells]
  refine AAlloc.intro fun b4 h4 => ?_
  simp -implicitDefEqProofs
  subst hR
  refine AFin.intro (jbAV (plJ n deps) .no) _ ?_ (HWk.refl _) ⟨rfl, HLe.set_fresh h4⟩
  simp [wk, str, bytes]
set_option maxHeartbeats 4000000 in
theorem c_known15 (hG : Glob H) : ACalls Tryz.prog 5 [] H (fun v K => v = .sc (.bool true) ∧ HLe H K) := by
  generalize hQ : (fun (v : AV) (K : Heap) => v = .sc (.bool true) ∧ HLe H K) = Q
  have hx : ∀ n deps, (plJ n deps).ex.length ≤ 9223372036854775807 := fun _ _ => by simp
  refine ACalls.into Tryz.func5 rfl Tryz.ntmps5 Tryz.results5 (by simp) ?_
  simp -implicitDefEqProofs
  refine ACall.intro c_tNew fun v K1 hv => ?_
  obtain ⟨b, m, eb, em, rfl, hT, l1⟩ := hv
  have hup : ∀ {K K' : Heap}, HLe H K → Upd b m K K' → HLe H K' := fun h1 h2 p o hp => h2 p o (h1 p o hp) (by rintro rfl; rw [eb] at hp; cases hp) (by rintro rfl; rw [em] at hp; cases hp)
  simp -implicitDefEqProofs
  refine ACall.intro (c_plain 97 [] .nil) fun v K2 hv => ?_
  obtain ⟨rfl, l2⟩ := hv
  have lH := l1.trans l2
  have hT := hT.up l2
  simp -implicitDefEqProofs
  refine ACall.intro (c_tAdd (hG.le lH) hT tb0_ok (by omega) (plJ 97 []) (hx _ _)) fun v K3 hv => ?_
  obtain ⟨rfl, R, last, ck, hA, hT, hu⟩ := hv
  have lH := hup lH hu
  rw [show tbOf [] 0 = ⟨[], 0⟩ from rfl, kA1] at hA ⊢
  dsimp only at hA
  have hok : TbOk ⟨[jA], 1⟩ 1 := by have := add_ok tb0_ok (plJ 97 []); rwa [kA1] at this
  rw [hA] at hok
  simp -implicitDefEqProofs
  refine ACall.intro (c_plain 98 [1] .full) fun v K4 hv => ?_
  obtain ⟨rfl, l4⟩ := hv
  have lH := lH.trans l4
  have hT := hT.up l4
  simp -implicitDefEqProofs
  refine ACall.intro (c_tAdd (hG.le lH) hT hok (by omega) (plJ 98 [1]) (hx _ _)) fun v K5 hv => ?_
  rw [← hA] at hv hok
  obtain ⟨rfl, R2, last2, ck2, hA2, hT, hu⟩ := hv
  have lH := hup lH hu
  have hok := add_ok hok (plJ 98 [1])
  rw [kA2] at hA2 hok ⊢
  dsimp only at hA2 hok
  rw [hA2] at hok
  simp -implicitDefEqProofs
  refine ACall.intro (c_plain 97 [] .nil) fun v K6 hv => ?_
  obtain ⟨rfl, l6⟩ := hv
  have lH := lH.trans l6
  have hT := hT.up l6
  simp -implicitDefEqProofs
  refine ACall.intro (c_tAdd (hG.le lH) hT hok (by omega) (plJ 97 []) (hx _ _)) fun v K7 hv => ?_
  rw [← hA2] at hv hok
  obtain ⟨rfl, R3, last3, ck3, hA3, hT, hu⟩ := hv
  have lH := hup lH hu
  have hok := add_ok hok (plJ 97 [])
  rw [kA3] at hA3 hok ⊢
  dsimp only at hA3 hok
  rw [hA3] at hok
  simp -implicitDefEqProofs
  refine ACall.intro (c_tRemove hT hok 1) fun v K8 hv => ?_
  rw [← hA3] at hv hok
  obtain ⟨rfl, R4, last4, ck4, hA4, hT, hu⟩ := hv
  have lH := hup lH hu
  have hok := remove_ok hok 1
  rw [kR1] at hA4 hok ⊢
  dsimp only at hA4 hok
  rw [hA4] at hok
  simp -implicitDefEqProofs
  refine ACall.intro (c_plain 97 [2] .full) fun v K9 hv => ?_
  obtain ⟨rfl, l9⟩ := hv
  have lH := lH.trans l9
  have hT := hT.up l9
  simp -implicitDefEqProofs
  refine ACall.intro (c_tChange (hG.le lH) hT hok (by omega) 1 (plJ 97 [2]) (hx _ _)) fun v K10 hv => ?_
  rw [← hA4] at hv hok
  obtain ⟨rfl, R5, last5, ck5, hA5, hT, hu⟩ := hv
  have lH := hup lH hu
  have hok := change_ok hok 1 (plJ 97 [2])
  rw [kC1] at hA5 hok ⊢
  dsimp only at hA5 hok
  rw [hA5] at hok
  simp -implicitDefEqProofs
  refine ACall.intro (c_tRemove hT hok 2) fun v K11 hv => ?_
  rw [← hA5] at hv hok
  obtain ⟨rfl, R6, last6, ck6, hA6, hT, hu⟩ := hv
  have lH := hup lH hu
  have hok := remove_ok hok 2
  rw [kR2] at hA6 hok ⊢
  dsimp only at hA6 hok
  rw [hA6] at hok
  simp -implicitDefEqProofs
  refine ACall.intro (c_tRemove hT hok 1) fun v K12 hv => ?_
  rw [← hA6] at hv hok
  obtain ⟨rfl, R7, last7, ck7, hA7, hT, hu⟩ := hv
  have lH := hup lH hu
  have hok := remove_ok hok 1
  rw [kR3] at hA7 hok ⊢
  dsimp only at hA7 hok
  rw [hA7] at hok
  simp -implicitDefEqProofs
  refine ACall.intro (c_plain 99 [] .nil) fun v K13 hv => ?_
  obtain ⟨rfl, l13⟩ := hv
  have lH := lH.trans l13
  have hT := hT.up l13
  simp -implicitDefEqProofs
  refine ACall.intro (c_tAdd (hG.le lH) hT hok (by omega) (plJ 99 []) (hx _ _)) fun v K14 hv => ?_
  rw [← hA7] at hv
  obtain ⟨rfl, R8, last8, ck8, hA8, hT, hu⟩ := hv
  have lH := hup lH hu
  rw [kA4]
  simp -implicitDefEqProofs
  subst hQ
  exact AFin.intro _ _ (wk_refl _) (HWk.refl _) ⟨rfl, lH⟩
end Go.Proofs.YtlhgpodfhdddkaaGreatDoor
namespace Go.Proofs.YtlhgpodfhdddkaaGreatDoor
open Rg Go Go.RowKit
variable {H : Heap}
structure Op15 where
  kind : Int
  id : Nat
  job : Jb
  pau : Bool
  seen : Int
abbrev opC (o : Op15) : List AV := [.sc (.int .i64 o.kind), .sc (.int .u64 (o.id : Nat)), .sc (.int .u64 (o.job.id : Nat)), str o.job.name, str o.job.ex, .sc (.int .i64 o.job.pol), .sc (.int .i64 o.job.gr), .sc (.int .i64 o.job.lim), .sc (.int .i64 o.job.ret), .sc (.int .i64 o.job.tim), .sl (o.job.deps.map fun n : Nat => .sc (.int .u64 n)) .no, .sc (.bool o.job.pau), .sc (.int .u64 (o.job.ver : Nat)), .sc (.int .i64 o.job.seen), .sc (.bool o.pau), .sc (.int .i64 o.seen)]
abbrev opAV (o : Op15) : AV := .agg (opC o)
abbrev opsAV (l : List Op15) : List AV := l.map opAV
def greatJ (j : Jb) : Bool := decide (100 < j.name.length) || decide (600 < j.ex.length) || decide (12 < j.deps.length)
theorem c_great (j : Jb) : ACalls Tryz.prog 7 [jbAV j .no] H (fun v K => v = .sc (.bool (greatJ j)) ∧ HLe H K) := by
  generalize hR : (fun (v : AV) (K : Heap) => v = .sc (.bool (greatJ j)) ∧ HLe H K) = R
  refine ACalls.into Tryz.func7 rfl Tryz.ntmps7 Tryz.results7 (by simp) ?_
  simp -implicitDefEqProofs [AV.cells]
  refine AAlloc.intro fun b1 h1 => ?_
  by_cases c1 : 100 < j.name.length
  · have c1' : 100 < (j.name.length : Int) := by omega
    simp -implicitDefEqProofs [c1, c1']
    subst hR
    exact AFin.intro _ _ (wk_refl _) (HWk.refl _) ⟨by simp [greatJ, c1], HLe.set_fresh h1⟩
  have c1' : ¬ 100 < (j.name.length : Int) := by omega
  by_cases c2 : 600 < j.ex.length
  · have c2' : 600 < (j.ex.length : Int) := by omega
    simp -implicitDefEqProofs [c1, c1', c2, c2']
    subst hR
    exact AFin.intro _ _ (wk_refl _) (HWk.refl _) ⟨by simp [greatJ, c2], HLe.set_fresh h1⟩
  have c2' : ¬ 600 < (j.ex.length : Int) := by omega
  by_cases c3 : 12 < j.deps.length
  · have c3' : 12 < (j.deps.length : Int) := by omega
    simp -implicitDefEqProofs [c1, c1', c2, c2', c3, c3']
    subst hR
    exact AFin.intro _ _ (wk_refl _) (HWk.refl _) ⟨by simp [greatJ, c3], HLe.set_fresh h1⟩
  have c3' : ¬ 12 < (j.deps.length : Int) := by omega
  simp -implicitDefEqProofs [c1, c1', c2, c2', c3, c3']
  subst hR
  exact AFin.intro _ _ (wk_refl _) (HWk.refl _) ⟨by simp [greatJ, c1, c2, c3], HLe.set_fresh h1⟩
end Go.Proofs.YtlhgpodfhdddkaaGreatDoor
namespace Rg
open Go Go.RowKit
variable {P : Program} {H : Heap}
theorem ACalls.freezeCell {f : FuncId} {args : List AV} {R : AV → Heap → Prop} (h : ACalls P f args H (fun v K => R v K ∨ ∃ (b g cap sz : Nat) (e T : TypeId) (xs zs pre post : List AV), K b = some (.cells (pre ++ .sc (.slice (some ⟨g, 0, none⟩) xs.length cap) :: post) T) ∧ K g = some (.cells (xs.flatMap AV.cells ++ zs) e) ∧ szs sz xs = true ∧ xs.length ≤ cap ∧ cap ≤ maxLen ∧ g ≠ b ∧ R v ((K.del g).set b (.cells (pre ++ .sl xs .no :: post) T)))) : ACalls P f args H R := by
  intro W0 C w vs hi ha
  refine (h W0 C w vs hi ha).mono fun e1 w1 ⟨r, H', C', u, he1, hcase, hC, hrel, hI⟩ => ?_
  rcases hcase with hR | ⟨b, g, cap, sz, e, T, xs, zs, pre, post, hKb, hKg, hsz, hcap, hcm, hgb, hR⟩
  · exact ⟨r, H', C', u, he1, hR, hC, hrel, hI⟩
  · obtain ⟨hb, vsb, hvb, hrelb, honeb, hCb⟩ := hI.obj _ _ hKb
    obtain ⟨hg, vs0, hv0, hrel0, hone0, hC0⟩ := hI.obj _ _ hKg
    obtain ⟨o1, o2, rfl, hr1, hr2⟩ := hrel0.split
    have hCC : CLe C' (commit C' g 0 o1) := commit_le fun k _ _ => hC0 k
    obtain ⟨p1, p2, rfl, q1, q2⟩ := hrelb.split
    obtain ⟨x, p3, rfl, q3, q4⟩ := q2.uncons
    obtain rfl := q3.sc_inv
    have hrow : RelL (commit C' g 0 o1) (pre ++ .sl xs .no :: post) (p1 ++ .slice (some ⟨g, 0, none⟩) xs.length cap :: p3) :=
      (q1.mono hCC).append (.sl .no g 0 cap sz (hr1.mono hCC) (szs_spec hsz) (fun q hq => hone0 q (List.mem_append.2 (.inl hq))) (fun j q hq => commit_at hq) hcap hcm trivial (q4.mono hCC))
    refine ⟨r, _, commit C' g 0 o1, u, he1, hR, hC.trans hCC, hrel.mono hCC, hI.below, fun b' o u hc => ?_, fun b' ob hob => ?_⟩
    · rcases commit_inv hc with ⟨rfl, _, hu⟩ | hc
      · rw [cell_of_row w1 b' o _ e _ hv0]
        have hlt := (List.getElem?_eq_some_iff.1 hu).1
        simp only [Nat.sub_zero] at hu hlt
        simp [List.getElem?_append_left hlt, hu]
      · exact hI.com b' o u hc
    · unfold Heap.set at hob
      by_cases hbb : b' = b
      · rw [if_pos hbb] at hob
        cases hob
        subst hbb
        exact ⟨hb, _, hvb, hrow, honeb, fun o => by rw [commit_other hgb.symm]; exact hCb o⟩
      · rw [if_neg hbb] at hob
        unfold Heap.del at hob
        by_cases hbg : b' = g
        · rw [if_pos hbg] at hob; cases hob
        · rw [if_neg hbg] at hob
          exact ⟨(hI.obj b' ob hob).1, (hI.obj b' ob hob).2.com hCC fun o ho => by rw [commit_other hbg]; exact ho⟩
end Rg
namespace Go.Proofs.YtlhgpodfhdddkaaGreatDoor
open Rg Go Go.RowKit
variable {H : Heap}
def idxJ (p : Jb → Bool) : List Jb → Nat → Int
  | [], _ => -1
  | j :: l, i => if p j = true then (i : Int) else idxJ p l (i + 1)
theorem idxJ_spec (p : Jb → Bool) : ∀ (L : List Jb) (k : Nat), (∃ i w, idxJ p L k = ((k + i : Nat) : Int) ∧ L[i]? = some w ∧ L.find? p = some w) ∨ (idxJ p L k = -1 ∧ L.find? p = none)
  | [], _ => .inr ⟨rfl, rfl⟩
  | j :: l, k => by
    unfold idxJ
    by_cases h : p j = true
    · rw [if_pos h]
      exact .inl ⟨0, j, by simp, by simp, by simp [h]⟩
    · rw [if_neg h]
      rcases idxJ_spec p l (k + 1) with ⟨i, w, h1, h2, h3⟩ | ⟨h1, h2⟩
      · exact .inl ⟨i + 1, w, by rw [h1]; omega, by simpa using h2, by simp [h, h3]⟩
      · exact .inr ⟨h1, by simp [h, h2]⟩
def RefAt (rb : Nat) (L : List Jb) (last : Nat) (K : Heap) : Prop := ∃ t, K rb = some (.cells [.sl (jbsAV L) t, .sc (.int .u64 (last : Int))] 30)
theorem RefAt.up {rb last : Nat} {L : List Jb} {K K' : Heap} (h : RefAt rb L last K) (hl : HLe K K') : RefAt rb L last K' := h.imp fun _ h => hl _ _ h
theorem c_rPlace {rb last : Nat} {L : List Jb} (h : RefAt rb L last H) (hl : L.length ≤ 1000000) (id : Nat) : AOk Tryz.prog 38 [ptr rb, .sc (.int .u64 (id : Int))] H (.sc (.int .i64 (idxJ (fun j => decide (j.id = id)) L 0))) H := by
  obtain ⟨t, kr⟩ := h
  obtain ⟨res, hres⟩ : ∃ r, idxJ (fun j => decide (j.id = id)) L 0 = r := ⟨_, rfl⟩
  rw [hres]
  refine ACalls.into Tryz.func38 rfl Tryz.ntmps38 Tryz.results38 (by simp) ?_
  generalize hR : ROk _ _ = R
  simp -implicitDefEqProofs
  refine AGo.rounds (fun m ρ K => ∃ i : Nat, m = L.length - i ∧ i ≤ L.length ∧ idxJ (fun j => decide (j.id = id)) (L.drop i) i = res ∧ ρ 0 = ptr rb ∧ ρ 1 = .sc (.int .u64 (id : Int)) ∧ ρ 5 = .sc (.int .i64 (i : Int)) ∧ K = H) ?_ (m := L.length) (HLe.refl H)
    ⟨0, rfl, by omega, hres, by simp, by simp, by simp, rfl⟩
  clear hres
  rintro m ρ K ih ⟨i, rfl, hi, hno, r0, r1, r5, rfl⟩
  by_cases hlt : i < L.length
  · have hlt' : (i : Int) < (L.length : Int) := by omega
    obtain ⟨y, hyj, hy⟩ := getAt hlt
    have w1 : IntKind.i64.wrap ((i : Int) + 1) = ((i + 1 : Nat) : Int) := by rw [wrap_i64 (by omega) (by omega)]; omega
    rw [List.drop_eq_getElem_cons hlt, hyj] at hno
    unfold idxJ at hno
    by_cases hyx : y.id = id
    · have hyx' : (y.id : Int) = (id : Int) := by omega
      rw [if_pos (by simpa using hyx)] at hno
      simp -implicitDefEqProofs [r0, r1, r5, kr, hlt, hlt', hyj, hyx, hyx']
      subst hR
      exact AFin.intro _ _ (wk_refl _) (HWk.refl _) ⟨by rw [← hno], rfl⟩
    · have hyx' : ¬ (y.id : Int) = (id : Int) := by omega
      rw [if_neg (by simpa using hyx)] at hno
      simp -implicitDefEqProofs [r0, r1, r5, kr, hlt, hlt', hyj, hyx, hyx', w1]
      exact AGo.again ih (m' := L.length - (i + 1)) (by omega) (HLe.refl _) ⟨i + 1, rfl, by omega, hno, by simp [r0], by simp [r1], by simp, rfl⟩
  · have hlt' : ¬ (i : Int) < (L.length : Int) := by omega
    rw [List.drop_of_length_le (by omega)] at hno
    unfold idxJ at hno
    simp -implicitDefEqProofs [r0, r1, r5, kr, hlt, hlt']
    subst hR
    exact AFin.intro _ _ (wk_refl _) (HWk.refl _) ⟨by rw [← hno], rfl⟩
theorem c_rNamed {rb last : Nat} {L : List Jb} (h : RefAt rb L last H) (hl : L.length ≤ 1000000) (nm : List UInt8) : AOk Tryz.prog 34 [ptr rb, str nm] H (.sc (.int .i64 (idxJ (fun j => decide (j.name = nm)) L 0))) H := by
  obtain ⟨t, kr⟩ := h
  obtain ⟨res, hres⟩ : ∃ r, idxJ (fun j => decide (j.name = nm)) L 0 = r := ⟨_, rfl⟩
  rw [hres]
  refine ACalls.into Tryz.func34 rfl Tryz.ntmps34 Tryz.results34 (by simp) ?_
  generalize hR : ROk _ _ = R
  simp -implicitDefEqProofs
  refine AGo.rounds (fun m ρ K => ∃ i : Nat, m = L.length - i ∧ i ≤ L.length ∧ idxJ (fun j => decide (j.name = nm)) (L.drop i) i = res ∧ ρ 0 = ptr rb ∧ ρ 1 = str nm ∧ ρ 5 = .sc (.int .i64 (i : Int)) ∧ K = H) ?_ (m := L.length) (HLe.refl H)
    ⟨0, rfl, by omega, hres, by simp, by simp, by simp, rfl⟩
  clear hres
  rintro m ρ K ih ⟨i, rfl, hi, hno, r0, r1, r5, rfl⟩
  by_cases hlt : i < L.length
  · have hlt' : (i : Int) < (L.length : Int) := by omega
    obtain ⟨y, hyj, hy⟩ := getAt hlt
    have w1 : IntKind.i64.wrap ((i : Int) + 1) = ((i + 1 : Nat) : Int) := by rw [wrap_i64 (by omega) (by omega)]; omega
    rw [List.drop_eq_getElem_cons hlt, hyj] at hno
    unfold idxJ at hno
    by_cases hyx : y.name = nm
    · have hyb : (y.name == nm) = true := by simpa using hyx
      rw [if_pos (by simpa using hyx)] at hno
      simp -implicitDefEqProofs [r0, r1, r5, kr, hlt, hlt', hyj, hyx, hyb]
      subst hR
      exact AFin.intro _ _ (wk_refl _) (HWk.refl _) ⟨by rw [← hno], rfl⟩
    · have hyb : (y.name == nm) = false := by simpa using hyx
      rw [if_neg (by simpa using hyx)] at hno
      simp -implicitDefEqProofs [r0, r1, r5, kr, hlt, hlt', hyj, hyx, hyb, w1]
      exact AGo.again ih (m' := L.length - (i + 1)) (by omega) (HLe.refl _) ⟨i + 1, rfl, by omega, hno, by simp [r0], by simp [r1], by simp, rfl⟩
  · have hlt' : ¬ (i : Int) < (L.length : Int) := by omega
    rw [List.drop_of_length_le (by omega)] at hno
    unfold idxJ at hno
    simp -implicitDefEqProofs [r0, r1, r5, kr, hlt, hlt']
    subst hR
    exact AFin.intro _ _ (wk_refl _) (HWk.refl _) ⟨by rw [← hno], rfl⟩
theorem c_row15R (L : List Jb) {g cap : Nat} {zs : List AV} {e : TypeId} (hl : L.length ≤ 1000000) (kg : H g = some (.cells ((jbsAV L).flatMap AV.cells ++ zs) e)) : ACalls Tryz.prog 36 [.sc (.slice (some ⟨g, 0, none⟩) L.length cap)] H (fun v K => v = .sl (ndsAV (ndsOf L)) .no ∧ HLe H K) := by
  generalize hR : (fun (v : AV) (K : Heap) => v = .sl (ndsAV (ndsOf L)) .no ∧ HLe H K) = R
  refine ACalls.into Tryz.func36 rfl Tryz.ntmps36 Tryz.results36 (by simp) ?_
  simp -implicitDefEqProofs
  refine AGo.rounds (fun m ρ K => ∃ (i : Nat) (tk : Rg.Tok), m = L.length - i ∧ i ≤ L.length ∧ ρ 0 = .sc (.slice (some ⟨g, 0, none⟩) L.length cap) ∧ ρ 3 = .sl (ndsAV (ndsOf (L.take i))) tk ∧ ρ 4 = .sc (.int .i64 (i : Int)) ∧ GrowsF H (ndsAV (ndsOf (L.take i))) 2 76 tk K) ?_ (m := L.length) (HLe.refl _)
    ⟨0, .nil, rfl, by omega, by simp, by simp, by simp, .inl ⟨rfl, .inl rfl, rfl⟩⟩
  rintro m ρ K ih ⟨i, tk, rfl, hi, r0, r3, r4, hg⟩
  by_cases hlt : i < L.length
  · have hlt' : (i : Int) < (L.length : Int) := by omega
    obtain ⟨y, hyj, hy⟩ := getAt hlt
    have w1 : IntKind.i64.wrap ((i : Int) + 1) = ((i + 1 : Nat) : Int) := by rw [wrap_i64 (by omega) (by omega)]; omega
    have hd : ndsAV (ndsOf (L.take i)) ++ [.agg [.sc (.int .u64 (y.id : Int)), .sl (nuAV y.deps) .no]] = ndsAV (ndsOf (L.take (i + 1))) := by
      rw [List.take_add_one, hy]; simp
    have hxl : (ndsAV (ndsOf (L.take i))).length = i := by simp; omega
    have hsz := szs_nds (ndsOf (L.take i))
    generalize ndsAV (ndsOf (L.take i)) = xs at *
    have hxs : (jbsAV L)[i]? = some (jbAV y .no) := by rw [List.getElem?_map, hy]; rfl
    have kK := hg.le _ _ kg
    have hc0 : ((jbsAV L).flatMap AV.cells ++ zs)[i * 12]? = some (.sc (.int .u64 (y.id : Int))) := flat_cell (zs := zs) (k := 0) (szs_jbs L) hxs (by omega)
    have hc8 : ((jbsAV L).flatMap AV.cells ++ zs)[i * 12 + 8]? = some (.sl (nuAV y.deps) .no) := flat_cell (zs := zs) (k := 8) (szs_jbs L) hxs (by omega)
    obtain ⟨F, hF⟩ : ∃ F, (jbsAV L).flatMap AV.cells ++ zs = F := ⟨_, rfl⟩
    rw [hF] at kK hc0 hc8
    simp -implicitDefEqProofs [r0, r3, r4, hlt, hlt']
    refine go_draw2 15 [0, 1, 2, 3, 4, 5, 6, 7, 8, 9, 10, 11, 12] [13, 14] K f_mixed (by decide +kernel) (HC.refl _) ?_
    simp -implicitDefEqProofs [r0, r3, r4, hlt, hlt', kK, hc0, hc8]
    refine aes_growsF el_52 hg hsz (by simp [szs]) (by simp; omega) (by simp [maxLen]; omega) fun t1 G1 hg1 => ?_
    rw [hd] at hg1 ⊢
    simp -implicitDefEqProofs [r4, w1]
    exact AGo.again ih (m' := L.length - (i + 1)) (by omega) (HLe.refl _) ⟨i + 1, t1, rfl, by omega, by simp [r0], by simp, by simp, hg1⟩
  · have hlt' : ¬ (i : Int) < (L.length : Int) := by omega
    rw [List.take_of_length_le (by omega)] at r3
    simp -implicitDefEqProofs [r0, r3, r4, hlt, hlt']
    subst hR
    exact AFin.intro (.sl (ndsAV (ndsOf L)) .no) _ (by simp [wk]) (HWk.refl _) ⟨rfl, hg.le⟩
end Go.Proofs.YtlhgpodfhdddkaaGreatDoor
namespace Go.Proofs.YtlhgpodfhdddkaaGreatDoor
open Rg Go Go.RowKit
variable {H : Heap}
noncomputable def jobZC : Bool := match tzero Tryz.prog 33 with
  | some z => z.cells.toList.all fun q => q.oneCell'
  | none => true
theorem jobZC_ok : jobZC = true := by kernel_rfl
theorem jobZ1 : ∀ z, tzero Tryz.prog 33 = some z → ∀ q ∈ z.cells.toList, q.oneCell' = true := by
  intro z hz q hq
  have h := jobZC_ok
  unfold jobZC at h
  rw [hz] at h
  exact List.all_eq_true.1 h q hq
def RAfter (rb : Nat) (T : Tb) (H K : Heap) : Prop := RefAt rb T.L T.last K ∧ Upd rb rb H K
theorem r_same {rb last : Nat} {L : List Jb} {K : Heap} (h : RefAt rb L last H) (hl : HLe H K) : RAfter rb ⟨L, last⟩ H K := ⟨h.up hl, Upd.le hl⟩
theorem r_aft {rb g last : Nat} {L' : List Jb} {K : Heap} (hg : H g = none) (hK : ∀ p o, H p = some o → p ≠ rb → K p = some o) :
    RAfter rb ⟨L', last⟩ H ((K.del g).set rb (.cells [.sl (jbsAV L') .no, .sc (.int .u64 (last : Int))] 30)) := by
  refine ⟨⟨.no, by simp [Heap.set]⟩, fun p o hp h1 _ => ?_⟩
  have : p ≠ g := by rintro rfl; rw [hg] at hp; cases hp
  simp [Heap.set, Heap.del, h1, this, hK p o hp h1]
theorem put_set {L : List Jb} (hk : (L.map fun j => j.id).Nodup) {i : Nat} {w : Jb} (hr : L[i]? = some w) (x : Jb) : L.set i x = putT L w.id x := by
  unfold putT
  apply List.ext_getElem?
  intro k
  rw [List.getElem?_map, List.getElem?_set]
  by_cases hik : i = k
  · subst hik
    obtain ⟨h1, h2⟩ := List.getElem?_eq_some_iff.1 hr
    rw [if_pos rfl, if_pos h1, hr]
    simp
  · rw [if_neg hik]
    cases hrk : L[k]? with
    | none => rfl
    | some q =>
      have : q.id ≠ w.id := fun e => hik (nodup_idx hk (i := i) (j := k) (a := w.id) (by rw [List.getElem?_map, hr]; rfl) (by rw [List.getElem?_map, hrk, ← e]; rfl))
      simp [this]
theorem jbs_set {L : List Jb} {i : Nat} {x : Jb} : (jbsAV L).set i (jbAV x .no) = jbsAV (L.set i x) := (List.map_set ..).symm
theorem set_id {L : List Jb} {i : Nat} {w : Jb} (h : L[i]? = some w) : L.set i w = L := by
  obtain ⟨q1, q2⟩ := List.getElem?_eq_some_iff.1 h
  rw [← q2, List.set_getElem_self]
theorem r_fin {rb g cap last : Nat} {L L' : List Jb} {zs F : List AV} {K : Heap} {v0 v : AV} (hv : v = v0) (hl : L'.length = L.length) (hF : F = (jbsAV L').flatMap AV.cells ++ zs) (hg : H g = none) (grb : g ≠ rb) (hcap : L.length ≤ cap) (hcm : cap ≤ maxLen)
    (hK : ∀ p o, H p = some o → p ≠ rb → K p = some o) (kg : K g = some (.cells F 33)) (kb : K rb = some (.cells [.sc (.slice (some ⟨g, 0, none⟩) L.length cap), .sc (.int .u64 (last : Int))] 30)) :
    (v = v0 ∧ RAfter rb ⟨L', last⟩ H K) ∨ ∃ (b g cap sz : Nat) (e T : TypeId) (xs zs pre post : List AV), K b = some (.cells (pre ++ .sc (.slice (some ⟨g, 0, none⟩) xs.length cap) :: post) T) ∧ K g = some (.cells (xs.flatMap AV.cells ++ zs) e) ∧ szs sz xs = true ∧ xs.length ≤ cap ∧ cap ≤ maxLen ∧ g ≠ b ∧ (v = v0 ∧ RAfter rb ⟨L', last⟩ H ((K.del g).set b (.cells (pre ++ .sl xs .no :: post) T))) := by
  have hx : (jbsAV L').length = L.length := by rw [List.length_map, hl]
  exact .inr ⟨rb, g, cap, 12, _, _, jbsAV L', zs, [], [.sc (.int .u64 (last : Int))], by rw [hx]; exact kb, by rw [kg, hF], szs_jbs _, by rw [hx]; exact hcap, hcm, grb, hv, r_aft hg hK⟩
set_option maxHeartbeats 2000000 in
theorem c_rSee {rb last n : Nat} {L : List Jb} (h : RefAt rb L last H) (hok : TbOk ⟨L, last⟩ n) (id : Nat) (s : Int) :
    ACalls Tryz.prog 17 [ptr rb, .sc (.int .u64 (id : Int)), .sc (.int .i64 s)] H (fun v K => v = .sc (.int .i64 (seeT ⟨L, last⟩ id s).1) ∧ RAfter rb (seeT ⟨L, last⟩ id s).2 H K) := by
  obtain ⟨res, hres⟩ : ∃ r, seeT ⟨L, last⟩ id s = r := ⟨_, rfl⟩
  rw [hres]
  unfold seeT foundT at hres
  simp only at hres
  have hLl : L.length ≤ 32 := hok.len
  have hid := ids_nodup hok.asc
  simp only at hid
  have hpl := c_rPlace h (by omega) id
  refine ACalls.freezeCell ?_
  generalize hQ : (fun (v : AV) (K : Heap) => (v = .sc (.int .i64 res.1) ∧ RAfter rb res.2 H K) ∨ _) = Q
  refine ACalls.into Tryz.func17 rfl Tryz.ntmps17 Tryz.results17 (by simp) ?_
  simp -implicitDefEqProofs
  refine ACall.eq hpl ?_
  obtain ⟨t, kr⟩ := h
  rcases idxJ_spec (fun j => decide (j.id = id)) L 0 with ⟨i, w, hi, hw, hf⟩ | ⟨hi, hf⟩
  · rw [hi, Nat.zero_add]
    rw [hf] at hres
    simp only at hres
    have hwi : w.id = id := by simpa using List.find?_some hf
    subst hwi
    have hil := (List.getElem?_eq_some_iff.1 hw).1
    have i0 : ¬ (i : Int) < 0 := by omega
    by_cases hb : badT s
    · rw [if_pos hb] at hres
      unfold badT at hb
      by_cases h1 : s < -1
      · simp -implicitDefEqProofs [i0, h1]
        subst hQ
        subst hres
        exact AFin.intro _ _ (wk_refl _) (HWk.refl _) (.inl ⟨rfl, r_same ⟨t, kr⟩ (HLe.refl _)⟩)
      · have h2 : 13569465600 ≤ s := by omega
        simp -implicitDefEqProofs [i0, h1, h2]
        subst hQ
        subst hres
        exact AFin.intro _ _ (wk_refl _) (HWk.refl _) (.inl ⟨rfl, r_same ⟨t, kr⟩ (HLe.refl _)⟩)
    rw [if_neg hb] at hres
    unfold badT at hb
    have h1 : ¬ s < -1 := by omega
    have h2 : ¬ 13569465600 ≤ s := by omega
    have hne : jbsAV L ≠ [] := by
      intro e
      have := congrArg List.length e
      rw [List.length_map, List.length_nil] at this
      omega
    have hxl : (jbsAV L).length = L.length := List.length_map _
    simp -implicitDefEqProofs [i0, h1, h2, kr]
    refine AApp.byC (appC_raw el_27 jobZ1 (.inr rfl) (szs_jbs L) hne (by simp; omega) (by simp [maxLen]; omega)) fun v K hv => ?_
    obtain ⟨g, zs, cap, hg, rfl, rfl, hzl, hcap, hcm⟩ := hv
    rw [hxl] at hcap ⊢
    have grb : g ≠ rb := by rintro rfl; rw [kr] at hg; cases hg
    have hxs : (jbsAV L)[i]? = some (jbAV w .no) := by rw [List.getElem?_map, hw]; rfl
    have hcell : ((jbsAV L).flatMap AV.cells ++ zs)[i * 12 + 11]? = some (.sc (.int .i64 w.seen)) := flat_cell (zs := zs) (k := 11) (szs_jbs L) hxs (by omega)
    have hfit := flat_fits (zs := zs) (szs_jbs L) (show i < (jbsAV L).length by omega)
    have hset : ((jbsAV L).flatMap AV.cells ++ zs).set (i * 12 + 11) (.sc (.int .i64 s)) = (jbsAV (L.set i { w with seen := s })).flatMap AV.cells ++ zs := by
      rw [flat_setZ (zs := zs) (k := 11) (v := .sc (.int .i64 s)) (szs_jbs L) hxs (by omega)]
      rw [← jbs_set]
      rfl
    have hfit2 : i * 12 + 11 + 1 ≤ ((jbsAV L).flatMap AV.cells ++ zs).length := by omega
    obtain ⟨F, hF⟩ : ∃ F, (jbsAV L).flatMap AV.cells ++ zs = F := ⟨_, rfl⟩
    rw [hF] at hcell hfit2 hset ⊢
    by_cases hs : w.seen < s
    · have hsee : seeJ w s = { w with seen := s } := by unfold seeJ; rw [Int.max_eq_right (by omega)]
      have hL' : putT L w.id (seeJ w s) = L.set i { w with seen := s } := by rw [put_set hid hw, hsee]
      rw [hL'] at hres
      simp -implicitDefEqProofs [grb, grb.symm, kr, hcell, hfit2, hs, hil]
      subst hQ
      subst hres
      exact AFin.intro _ _ (wk_refl _) (HWk.refl _) (r_fin rfl (by simp) hset hg grb hcap hcm (fun p o hp h1 => by
        have : p ≠ g := by rintro rfl; rw [hg] at hp; cases hp
        simp [Heap.set, h1, this, hp]) (by simp [Heap.set, grb]) (by simp [Heap.set]))
    · have hsee : seeJ w s = w := by unfold seeJ; rw [Int.max_eq_left (by omega)]
      have hL' : putT L w.id (seeJ w s) = L := by rw [← put_set hid hw, hsee, set_id hw]
      rw [hL'] at hres
      simp -implicitDefEqProofs [grb, grb.symm, kr, hcell, hfit2, hs, hil]
      subst hQ
      subst hres
      exact AFin.intro _ _ (wk_refl _) (HWk.refl _) (r_fin rfl rfl hF.symm hg grb hcap hcm (fun p o hp h1 => by
        have : p ≠ g := by rintro rfl; rw [hg] at hp; cases hp
        simp [Heap.set, h1, this, hp]) (by simp [Heap.set, grb]) (by simp [Heap.set]))
  · rw [hi]
    rw [hf] at hres
    simp -implicitDefEqProofs
    subst hQ
    subst hres
    exact AFin.intro _ _ (wk_refl _) (HWk.refl _) (.inl ⟨rfl, r_same ⟨t, kr⟩ (HLe.refl _)⟩)
end Go.Proofs.YtlhgpodfhdddkaaGreatDoor
