/- A table of jobs: New, Last, Copy, Remove. A table of jobs: Change. A table of jobs: the table of a table's own jobs. A table of jobs: the chapter's rows. A table of jobs: what a call does, plainly; the calls of the law. -/
import Derived.Test.YtlhgpodfhdddkaaGreatDoorP23
set_option linter.unusedSimpArgs false
set_option linter.unusedVariables false
set_option linter.unnecessarySimpa false
namespace Go.Proofs.YtlhgpodfhdddkaaGreatDoor
open Rg Go Go.RowKit
variable {H : Heap}
theorem c_tNew : ACalls Tryz.prog 6 [] H (fun v K => ∃ b m, H b = none ∧ H m = none ∧ v = ptr b ∧ TabAt b m 0 [] 0 K ∧ HLe H K) := by
  generalize hR : (fun (v : AV) (K : Heap) => ∃ b m, H b = none ∧ H m = none ∧ v = ptr b ∧ TabAt b m 0 [] 0 K ∧ HLe H K) = Q
  refine ACalls.into Tryz.func6 rfl Tryz.ntmps6 Tryz.results6 (by simp) ?_
  simp -implicitDefEqProofs [st_make]
  refine ACall.intro (c_makeMap 58) fun v K hv => ?_
  obtain ⟨m, hm0, rfl, rfl⟩ := hv
  simp -implicitDefEqProofs [AV.cells]
  refine AAlloc.intro fun b hb => ?_
  have nmb : m ≠ b := by rintro rfl; simp [Heap.set] at hb
  have eb : H b = none := by simpa [Heap.set, nmb.symm] using hb
  simp -implicitDefEqProofs
  subst hR
  exact AFin.intro _ _ (wk_refl _) (HWk.refl _) ⟨b, m, eb, hm0, rfl, ⟨by simp [Heap.set], by simp [Heap.set, nmb], by simp, by simp, by simp⟩, (HLe.set_fresh hm0).trans (HLe.set_fresh hb)⟩
theorem c_tLast {b m ck last : Nat} {R : List (Jb × Nat)} (h : TabAt b m ck R last H) : AOk Tryz.prog 21 [ptr b] H (.sc (.int .u64 (last : Int))) H := by
  have kb := h.bl
  refine ACalls.into Tryz.func21 rfl Tryz.ntmps21 Tryz.results21 (by simp) ?_
  simp -implicitDefEqProofs
  refine ACall.eq (c_there h) ?_
  simp -implicitDefEqProofs [kb]
theorem erase_filter {R : List (Jb × Nat)} (hk : (R.map fun r => r.1.id).Nodup) {i : Nat} {r : Jb × Nat} (hr : R[i]? = some r) : (R.eraseIdx i).map (fun r => r.1) = (R.map fun r => r.1).filter fun k => decide (k.id ≠ r.1.id) := by
  have hsp := erase_split hr
  rw [List.eraseIdx_eq_take_drop_succ]
  conv => rhs; rw [hsp]
  rw [hsp] at hk
  rw [List.map_append, List.map_cons, List.nodup_append, List.nodup_cons] at hk
  rw [List.map_append, List.map_append, List.map_cons, List.filter_append, List.filter_cons_of_neg (by simp)]
  congr 1
  · rw [List.filter_eq_self.2]
    intro k hk'
    obtain ⟨q, hq, rfl⟩ := List.mem_map.1 hk'
    have := hk.2.2 _ (List.mem_map_of_mem hq) r.1.id (List.mem_cons_self)
    simpa using this
  · rw [List.filter_eq_self.2]
    intro k hk'
    obtain ⟨q, hq, rfl⟩ := List.mem_map.1 hk'
    have : q.1.id ≠ r.1.id := fun e => hk.2.1.1 (by rw [← e]; exact List.mem_map_of_mem hq)
    simpa using this
set_option maxHeartbeats 2000000 in
theorem c_tRemove {b m ck last n : Nat} {R : List (Jb × Nat)} (h : TabAt b m ck R last H) (hok : TbOk (tbOf R last) n) (id : Nat) :
    ACalls Tryz.prog 12 [ptr b, .sc (.int .u64 (id : Int))] H (fun v K => v = .sc (.int .i64 (removeT (tbOf R last) id).1) ∧ After b m (removeT (tbOf R last) id).2 H K) := by
  obtain ⟨res, hres⟩ : ∃ r, removeT (tbOf R last) id = r := ⟨_, rfl⟩
  rw [hres]
  generalize hR : (fun (v : AV) (K : Heap) => v = .sc (.int .i64 res.1) ∧ After b m res.2 H K) = Q
  unfold removeT at hres
  have hRl := len_of hok
  have hdl := deps_of hok
  obtain ⟨dk, hdk⟩ := ty_of (P := Tryz.prog) (T := 28) (by kernel_rfl)
  have same : ∀ {K}, HLe H K → After b m (tbOf R last) H K := fun hK => ⟨R, last, ck, rfl, h.up hK, Upd.le hK⟩
  refine ACalls.into Tryz.func12 rfl Tryz.ntmps12 Tryz.results12 (by simp) ?_
  simp -implicitDefEqProofs
  refine ACall.intro (c_tHas h id) fun v K1 hv => ?_
  obtain ⟨rfl, l1⟩ := hv
  cases hf : foundT (tbOf R last) id with
  | none =>
    rw [hf] at hres
    simp -implicitDefEqProofs
    subst hR
    subst hres
    exact AFin.intro _ _ (wk_refl _) (HWk.refl _) ⟨rfl, same l1⟩
  | some w =>
    obtain ⟨i, r, hr, rfl, hwi⟩ := found_ix hf
    rw [hf] at hres
    simp only at hres
    have hhit := h.hit hr
    rw [hwi] at hhit
    simp -implicitDefEqProofs
    refine ACall.intro (c_tNodes (h.up l1) hdl hok.asc (by omega)) fun v K2 hv => ?_
    obtain ⟨rfl, hK2⟩ := hv
    have l2 := l1.trans hK2
    obtain ⟨N, hN⟩ : ∃ N, ndsOf (R.map fun r => r.1) = N := ⟨_, rfl⟩
    have hNl : N.length = R.length := by rw [← hN]; simp
    have hNd : ∀ n ∈ N, n.2.length ≤ 1000000 := fun n hn => by
      rw [← hN] at hn
      obtain ⟨k, hk, rfl⟩ := List.mem_map.1 hn
      obtain ⟨q, hq, rfl⟩ := List.mem_map.1 hk
      exact hdl q hq
    have hNe : (∃ n ∈ N, id ∈ n.2) ↔ ∃ k ∈ R.map (fun r => r.1), id ∈ k.deps := by
      rw [← hN]
      constructor
      · rintro ⟨n, hn, hx⟩
        obtain ⟨k, hk, rfl⟩ := List.mem_map.1 hn
        exact ⟨k, hk, hx⟩
      · rintro ⟨k, hk, hx⟩
        exact ⟨ndOf k, List.mem_map_of_mem hk, hx⟩
    rw [hN]
    simp -implicitDefEqProofs
    refine ACall.intro (c_users N .no id (by omega) hNd) fun v K3 hv => ?_
    obtain ⟨A, k, cap, rfl, hk, hK3⟩ := hv
    rw [hNe] at hk
    have l3 := l2.trans hK3
    by_cases hk0 : 0 < k
    · have hk0' : 0 < (k : Int) := by omega
      rw [if_pos (hk.1 hk0)] at hres
      simp -implicitDefEqProofs [hk0, hk0']
      subst hR
      subst hres
      exact AFin.intro _ _ (wk_refl _) (HWk.refl _) ⟨rfl, same l3⟩
    · have hk0' : ¬ 0 < (k : Int) := by omega
      rw [if_neg (fun h => hk0 (hk.2 h))] at hres
      have kb := (h.up l3).bl
      have km := (h.up l3).at_
      have hes : ((R.map jME).map meAV).eraseIdx i = ((R.eraseIdx i).map jME).map meAV := by rw [map_erase, map_erase]
      have hfl := erase_filter h.nk hr
      rw [hwi] at hfl
      have hdel := c_delete m_jobs hdk km (acheck_n id) hhit
      rw [hes] at hdel
      have hs : (R.eraseIdx i).Sublist R := List.eraseIdx_sublist _ _
      have hT : TabAt b m ck (R.eraseIdx i) last (K3.set m (.map (((R.eraseIdx i).map jME).map meAV) ck)) := ⟨by simp [Heap.set, h.ne, kb], by simp [Heap.set], fun q hq => h.lt q (hs.subset hq), h.nb.sublist (hs.map _), h.nk.sublist (hs.map _)⟩
      obtain ⟨es, hes2⟩ : ∃ es, ((R.eraseIdx i).map jME).map meAV = es := ⟨_, rfl⟩
      rw [hes2] at hdel hT
      simp -implicitDefEqProofs [hk0, hk0', kb]
      refine ACall.eq hdel ?_
      simp -implicitDefEqProofs
      subst hR
      subst hres
      exact AFin.intro _ _ (wk_refl _) (HWk.refl _) ⟨rfl, R.eraseIdx i, last, ck, by rw [tbOf, hfl], hT, (Upd.le l3).set (.inr rfl)⟩
end Go.Proofs.YtlhgpodfhdddkaaGreatDoor
namespace Go.Proofs.YtlhgpodfhdddkaaGreatDoor
open Rg Go Go.RowKit
variable {H : Heap}
set_option maxHeartbeats 4000000 in
theorem c_tChange {b m ck last n : Nat} {R : List (Jb × Nat)} (hG : Glob H) (h : TabAt b m ck R last H) (hok : TbOk (tbOf R last) n) (hn : n ≤ 1000) (id : Nat) (j : Jb) (hs : j.ex.length ≤ 9223372036854775807) :
    ACalls Tryz.prog 10 [ptr b, .sc (.int .u64 (id : Int)), jbAV j .no] H (fun v K => v = .sc (.int .i64 (changeT (tbOf R last) id j).1) ∧ After b m (changeT (tbOf R last) id j).2 H K) := by
  obtain ⟨res, hres⟩ : ∃ r, changeT (tbOf R last) id j = r := ⟨_, rfl⟩
  rw [hres]
  generalize hR : (fun (v : AV) (K : Heap) => v = .sc (.int .i64 res.1) ∧ After b m res.2 H K) = Q
  unfold changeT at hres
  have hRl := len_of hok
  have hdl := deps_of hok
  obtain ⟨dk, hdk⟩ := ty_of (P := Tryz.prog) (T := 28) (by kernel_rfl)
  have same : ∀ {K}, HLe H K → After b m (tbOf R last) H K := fun hK => ⟨R, last, ck, rfl, h.up hK, Upd.le hK⟩
  refine ACalls.into Tryz.func10 rfl Tryz.ntmps10 Tryz.results10 (by simp) ?_
  simp -implicitDefEqProofs [AV.cells]
  refine AAlloc.intro fun b5 h5 => ?_
  have nb5 : b ≠ b5 := by rintro rfl; rw [h.bl] at h5; cases h5
  have nm5 : m ≠ b5 := by rintro rfl; rw [h.at_] at h5; cases h5
  simp -implicitDefEqProofs
  generalize hK5 : Heap.set H b5 _ = K5
  have l5 : HLe H K5 := by rw [← hK5]; exact HLe.set_fresh h5
  have k5 : K5 b5 = some (.cells (jbC j .no) 33) := by rw [← hK5]; simp [Heap.set]
  clear hK5
  refine ACall.intro (c_tHas (h.up l5) id) fun v K1 hv => ?_
  obtain ⟨rfl, hK1⟩ := hv
  have l1 := l5.trans hK1
  have k15 := hK1 _ _ k5
  cases hf : foundT (tbOf R last) id with
  | none =>
    rw [hf] at hres
    simp -implicitDefEqProofs
    subst hR
    subst hres
    exact AFin.intro _ _ (wk_refl _) (HWk.refl _) ⟨rfl, same l1⟩
  | some w =>
    obtain ⟨i, r, hr, rfl, hwi⟩ := found_ix hf
    rw [hf] at hres
    simp only at hres
    have hhit := h.hit hr
    rw [hwi] at hhit
    have hrm := List.mem_of_getElem? hr
    have hver := hok.ver r.1 (List.mem_map_of_mem hrm)
    simp -implicitDefEqProofs [k15]
    refine ACall.eq (c_jobMay (hG.le l1) j .no hs) ?_
    by_cases hm : mayJ j ≠ 0
    · rw [if_pos hm] at hres
      simp -implicitDefEqProofs [hm]
      subst hR
      subst hres
      exact AFin.intro _ _ (wk_refl _) (HWk.refl _) ⟨by simp, same l1⟩
    rw [if_neg hm] at hres
    have hm0 : mayJ j = 0 := by simpa using hm
    have hj8 := may_deps hm0
    simp -implicitDefEqProofs [hm0, k15]
    refine ACall.intro (c_tNamed (h.up l1) hdl (nams_of R hok) j.name) fun v K2 hv => ?_
    obtain ⟨rfl, hK2⟩ := hv
    have l2 := l1.trans hK2
    have k25 := hK2 _ _ k15
    obtain ⟨nm, hnm⟩ : ∃ x, namedT (tbOf R last) j.name = x := ⟨_, rfl⟩
    rw [hnm] at hres ⊢
    cases nm with
    | some x =>
      simp -implicitDefEqProofs [ans_some, AV.cells]
      refine AAlloc.intro fun b9 h9 => ?_
      by_cases hx : x.id = id
      · have hx' : (x.id : Int) = (id : Int) := by omega
        rw [if_neg (show ¬ decide (x.id ≠ id) = true by simp [hx])] at hres
        have nb9 : b ≠ b9 := by rintro rfl; rw [(h.up l2).bl] at h9; cases h9
        have n59 : b5 ≠ b9 := by rintro rfl; rw [k25] at h9; cases h9
        have kb := (h.up l2).bl
        simp -implicitDefEqProofs [hx, hx', nb9, kb, st_lookup]
        generalize hK3 : Heap.set K2 b9 _ = K3
        have l23 : HLe K2 K3 := by rw [← hK3]; exact HLe.set_fresh h9
        clear hK3
        have l3 := l2.trans l23
        have k35 := l23 _ _ k25
        refine ACall.eq (c_lookup1 m_jobs hdk (h.up l3).at_ (acheck_n id) hhit) ?_
        simp -implicitDefEqProofs [AV.cells]
        refine AAlloc.intro fun b11 h11 => ?_
        have n511 : b5 ≠ b11 := by rintro rfl; rw [k35] at h11; cases h11
        simp -implicitDefEqProofs [n511, k35]
        generalize hK4 : Heap.set K3 b11 _ = K4
        have l34 : HLe K3 K4 := by rw [← hK4]; exact HLe.set_fresh h11
        have k411 : K4 b11 = some (.cells (jbC r.1 .no) 33) := by rw [← hK4]; simp [Heap.set]
        clear hK4
        have l4 := l3.trans l34
        have k45 := l34 _ _ k35
        refine ACall.intro (c_tclone j (by omega)) fun v K6 hv => ?_
        obtain ⟨rfl, hK6⟩ := hv
        have l6 := l4.trans hK6
        have k611 := hK6 _ _ k411
        have k65 := hK6 _ _ k45
        simp -implicitDefEqProofs [k65]
        generalize hK7 : Heap.set K6 b5 _ = K7
        have k75 : K7 b5 = some (.cells (jbC j .no) 33) := by rw [← hK7]; simp [Heap.set]
        have k711 : K7 b11 = some (.cells (jbC r.1 .no) 33) := by rw [← hK7]; simp [Heap.set, n511.symm, k611]
        have e5 : H b5 = none := h5
        have l7 : HLe H K7 := by rw [← hK7]; exact HLe.set_new l6 e5
        clear hK7
        obtain ⟨V1, hV1⟩ : ∃ V, r.1.ver + 1 = V := ⟨_, rfl⟩
        have w1 : IntKind.u64.wrap ((r.1.ver : Int) + 1) = (V1 : Int) := by rw [wrap_u64 (by omega) (by omega)]; omega
        obtain ⟨J, hJ⟩ : ∃ J : Jb, { j with id := id, pau := r.1.pau, seen := r.1.seen, ver := V1 } = J := ⟨_, rfl⟩
        have hJc : chgJ r.1 j = J := by rw [← hJ, ← hV1, ← hwi]
        rw [hJc] at hres
        have hJi : J.id = r.1.id := by rw [← hJ, hwi]
        have hJii : J.id = id := by rw [← hJ]
        have hJd : J.deps.length ≤ 8 := by rw [← hJ]; exact hj8
        have hJC : jbC J .no = [.sc (.int .u64 (id : Int)), str j.name, str j.ex, .sc (.int .i64 j.pol), .sc (.int .i64 j.gr), .sc (.int .i64 j.lim), .sc (.int .i64 j.ret), .sc (.int .i64 j.tim), .sl (nuAV j.deps) .no, .sc (.bool r.1.pau), .sc (.int .u64 (V1 : Int)), .sc (.int .i64 r.1.seen)] := by rw [← hJ]
        have hJA : AV.agg [.sc (.int .u64 (id : Int)), str j.name, str j.ex, .sc (.int .i64 j.pol), .sc (.int .i64 j.gr), .sc (.int .i64 j.lim), .sc (.int .i64 j.ret), .sc (.int .i64 j.tim), .sl (nuAV j.deps) .no, .sc (.bool r.1.pau), .sc (.int .u64 (V1 : Int)), .sc (.int .i64 r.1.seen)] = jbAV J .no := by rw [← hJC]
        have d11 : (K7.del b5) b11 = some (.cells (jbC r.1 .no) 33) := by simp [Heap.del, n511.symm, k711]
        refine go_draw2 16 [0, 1, 2, 3, 4, 5, 6, 7, 8] [9, 10, 11, 12, 13, 14, 15] (K7.del b5) f_mixed (by decide +kernel) HC.del ?_
        have hcs : ∀ o, HC (K7.del b5) (K7.set b5 o) := fun o c cs hc => by
          have hcb : c ≠ b5 := by rintro rfl; simp [Heap.del, rd] at hc
          simpa [Heap.set, Heap.del, hcb] using hc
        simp -implicitDefEqProofs [Heap.del, n511, n511.symm, k711, w1, k75]
        refine AES.store k75 (hcs _) ?_
        simp -implicitDefEqProofs [lset]
        refine AES.store (by simp [Heap.set]; exact ⟨rfl, rfl⟩) (by simp only [Heap.set_set]; exact hcs _) ?_
        simp -implicitDefEqProofs [lset]
        refine AES.store (by simp [Heap.set]; exact ⟨rfl, rfl⟩) (by simp only [Heap.set_set]; exact hcs _) ?_
        simp -implicitDefEqProofs [lset]
        refine AES.store (by simp [Heap.set]; exact ⟨rfl, rfl⟩) (by simp only [Heap.set_set]; exact hcs _) ?_
        simp -implicitDefEqProofs [lset]
        generalize hK8 : Heap.set K7 b5 _ = K8
        have k85 : K8 b5 = some (.cells (jbC J .no) 33) := by rw [← hK8, hJC]; simp [Heap.set]
        have l8 : HLe H K8 := by rw [← hK8]; exact HLe.set_new l7 e5
        clear hK8
        rw [hJA]
        have hse := set_ent (R := R) (i := i) hJi
        rw [hwi] at hse
        have hpe := put_ent h.nk hr J
        rw [hwi] at hpe
        have he : ((R.map jME).map meAV)[i]? = some (uAV id, jbAV r.1 .no, r.2) := by rw [List.getElem?_map, List.getElem?_map, hr, ← hwi]; rfl
        have hpu := fun hK => h.put hr hJi (K := K8) hK
        refine ACall.intro (c_tRowG (h.up l8) (R' := R.set i (J, r.2)) (ck' := ck) (fun K m' hm' => by rw [← hse, hJii]; exact c_update m_jobs hdk hm' (acheck_n id) hhit he (jbAV J .no)) (hpu l8).lt (hpu l8).nb ?_ ?_ (by rw [List.length_set]; omega)) fun v K9 hv => ?_
        · intro q hq
          rcases List.mem_or_eq_of_mem_set hq with hq | hq
          · exact hdl q hq
          · rw [hq]; simp only; omega
        · rw [hpe]; exact put_asc hJii hok.asc
        obtain ⟨rfl, hK9⟩ := hv
        have l9 := l8.trans hK9
        have k95 := hK9 _ _ k85
        rw [hpe]
        obtain ⟨e, hee⟩ : ∃ e, mayN (ndsOf (putT (R.map fun r => r.1) id J)) = e := ⟨_, rfl⟩
        rw [hee] at hres ⊢
        by_cases h0 : e ≠ 0
        · rw [if_pos h0] at hres
          simp -implicitDefEqProofs [h0]
          subst hR
          subst hres
          exact AFin.intro _ _ (wk_refl _) (HWk.refl _) ⟨by simp, same l9⟩
        rw [if_neg h0] at hres
        have h00 : e = 0 := by simpa using h0
        have kb := (h.up l9).bl
        have km := (h.up l9).at_
        have hA := h.putAfter hr hJi l9
        rw [← set_ent (R := R) (i := i) hJi, hwi] at hA
        obtain ⟨es, hes⟩ : ∃ es, ((R.map jME).map meAV).set i (uAV id, jbAV J .no, r.2) = es := ⟨_, rfl⟩
        rw [hes] at hA
        simp -implicitDefEqProofs [h00]
        refine go_draw2 7 [0, 1, 2, 3, 4, 5] [6] K9 f_mixed (by decide +kernel) (HC.refl _) ?_
        simp -implicitDefEqProofs [kb, k95, st_update]
        refine AES.call (c_update m_jobs hdk km (acheck_n id) hhit he (jbAV J .no)) fun v K hv => ?_
        obtain ⟨rfl, rfl⟩ := hv
        refine ⟨hc_map (HC.refl _) (by rw [km]; rfl), ?_⟩
        rw [hes]
        simp -implicitDefEqProofs
        subst hR
        subst hres
        exact AFin.intro _ _ (wk_refl _) (HWk.refl _) ⟨rfl, hA⟩
      · have hx' : ¬ (x.id : Int) = (id : Int) := by omega
        rw [if_pos (show decide (x.id ≠ id) = true by simp [hx])] at hres
        simp -implicitDefEqProofs [hx, hx']
        subst hR
        subst hres
        exact AFin.intro _ _ (wk_refl _) (HWk.refl _) ⟨by simp, same (l2.trans (HLe.set_fresh h9))⟩
    | none =>
      rw [if_neg (by simp)] at hres
      simp -implicitDefEqProofs [ans_none, AV.cells]
      refine AAlloc.intro fun b9 h9 => ?_
      have nb9 : b ≠ b9 := by rintro rfl; rw [(h.up l2).bl] at h9; cases h9
      have n59 : b5 ≠ b9 := by rintro rfl; rw [k25] at h9; cases h9
      have kb := (h.up l2).bl
      simp -implicitDefEqProofs [nb9, kb, st_lookup]
      generalize hK3 : Heap.set K2 b9 _ = K3
      have l23 : HLe K2 K3 := by rw [← hK3]; exact HLe.set_fresh h9
      clear hK3
      have l3 := l2.trans l23
      have k35 := l23 _ _ k25
      refine ACall.eq (c_lookup1 m_jobs hdk (h.up l3).at_ (acheck_n id) hhit) ?_
      simp -implicitDefEqProofs [AV.cells]
      refine AAlloc.intro fun b11 h11 => ?_
      have n511 : b5 ≠ b11 := by rintro rfl; rw [k35] at h11; cases h11
      simp -implicitDefEqProofs [n511, k35]
      generalize hK4 : Heap.set K3 b11 _ = K4
      have l34 : HLe K3 K4 := by rw [← hK4]; exact HLe.set_fresh h11
      have k411 : K4 b11 = some (.cells (jbC r.1 .no) 33) := by rw [← hK4]; simp [Heap.set]
      clear hK4
      have l4 := l3.trans l34
      have k45 := l34 _ _ k35
      refine ACall.intro (c_tclone j (by omega)) fun v K6 hv => ?_
      obtain ⟨rfl, hK6⟩ := hv
      have l6 := l4.trans hK6
      have k611 := hK6 _ _ k411
      have k65 := hK6 _ _ k45
      simp -implicitDefEqProofs [k65]
      generalize hK7 : Heap.set K6 b5 _ = K7
      have k75 : K7 b5 = some (.cells (jbC j .no) 33) := by rw [← hK7]; simp [Heap.set]
      have k711 : K7 b11 = some (.cells (jbC r.1 .no) 33) := by rw [← hK7]; simp [Heap.set, n511.symm, k611]
      have e5 : H b5 = none := h5
      have l7 : HLe H K7 := by rw [← hK7]; exact HLe.set_new l6 e5
      clear hK7
      obtain ⟨V1, hV1⟩ : ∃ V, r.1.ver + 1 = V := ⟨_, rfl⟩
      have w1 : IntKind.u64.wrap ((r.1.ver : Int) + 1) = (V1 : Int) := by rw [wrap_u64 (by omega) (by omega)]; omega
      obtain ⟨J, hJ⟩ : ∃ J : Jb, { j with id := id, pau := r.1.pau, seen := r.1.seen, ver := V1 } = J := ⟨_, rfl⟩
      have hJc : chgJ r.1 j = J := by rw [← hJ, ← hV1, ← hwi]
      rw [hJc] at hres
      have hJi : J.id = r.1.id := by rw [← hJ, hwi]
      have hJii : J.id = id := by rw [← hJ]
      have hJd : J.deps.length ≤ 8 := by rw [← hJ]; exact hj8
      have hJC : jbC J .no = [.sc (.int .u64 (id : Int)), str j.name, str j.ex, .sc (.int .i64 j.pol), .sc (.int .i64 j.gr), .sc (.int .i64 j.lim), .sc (.int .i64 j.ret), .sc (.int .i64 j.tim), .sl (nuAV j.deps) .no, .sc (.bool r.1.pau), .sc (.int .u64 (V1 : Int)), .sc (.int .i64 r.1.seen)] := by rw [← hJ]
      have hJA : AV.agg [.sc (.int .u64 (id : Int)), str j.name, str j.ex, .sc (.int .i64 j.pol), .sc (.int .i64 j.gr), .sc (.int .i64 j.lim), .sc (.int .i64 j.ret), .sc (.int .i64 j.tim), .sl (nuAV j.deps) .no, .sc (.bool r.1.pau), .sc (.int .u64 (V1 : Int)), .sc (.int .i64 r.1.seen)] = jbAV J .no := by rw [← hJC]
      have d11 : (K7.del b5) b11 = some (.cells (jbC r.1 .no) 33) := by simp [Heap.del, n511.symm, k711]
      refine go_draw2 16 [0, 1, 2, 3, 4, 5, 6, 7, 8] [9, 10, 11, 12, 13, 14, 15] (K7.del b5) f_mixed (by decide +kernel) HC.del ?_
      have hcs : ∀ o, HC (K7.del b5) (K7.set b5 o) := fun o c cs hc => by
        have hcb : c ≠ b5 := by rintro rfl; simp [Heap.del, rd] at hc
        simpa [Heap.set, Heap.del, hcb] using hc
      simp -implicitDefEqProofs [Heap.del, n511, n511.symm, k711, w1, k75]
      refine AES.store k75 (hcs _) ?_
      simp -implicitDefEqProofs [lset]
      refine AES.store (by simp [Heap.set]; exact ⟨rfl, rfl⟩) (by simp only [Heap.set_set]; exact hcs _) ?_
      simp -implicitDefEqProofs [lset]
      refine AES.store (by simp [Heap.set]; exact ⟨rfl, rfl⟩) (by simp only [Heap.set_set]; exact hcs _) ?_
      simp -implicitDefEqProofs [lset]
      refine AES.store (by simp [Heap.set]; exact ⟨rfl, rfl⟩) (by simp only [Heap.set_set]; exact hcs _) ?_
      simp -implicitDefEqProofs [lset]
      generalize hK8 : Heap.set K7 b5 _ = K8
      have k85 : K8 b5 = some (.cells (jbC J .no) 33) := by rw [← hK8, hJC]; simp [Heap.set]
      have l8 : HLe H K8 := by rw [← hK8]; exact HLe.set_new l7 e5
      clear hK8
      rw [hJA]
      have hse := set_ent (R := R) (i := i) hJi
      rw [hwi] at hse
      have hpe := put_ent h.nk hr J
      rw [hwi] at hpe
      have he : ((R.map jME).map meAV)[i]? = some (uAV id, jbAV r.1 .no, r.2) := by rw [List.getElem?_map, List.getElem?_map, hr, ← hwi]; rfl
      have hpu := fun hK => h.put hr hJi (K := K8) hK
      refine ACall.intro (c_tRowG (h.up l8) (R' := R.set i (J, r.2)) (ck' := ck) (fun K m' hm' => by rw [← hse, hJii]; exact c_update m_jobs hdk hm' (acheck_n id) hhit he (jbAV J .no)) (hpu l8).lt (hpu l8).nb ?_ ?_ (by rw [List.length_set]; omega)) fun v K9 hv => ?_
      · intro q hq
        rcases List.mem_or_eq_of_mem_set hq with hq | hq
        · exact hdl q hq
        · rw [hq]; simp only; omega
      · rw [hpe]; exact put_asc hJii hok.asc
      obtain ⟨rfl, hK9⟩ := hv
      have l9 := l8.trans hK9
      have k95 := hK9 _ _ k85
      rw [hpe]
      obtain ⟨e, hee⟩ : ∃ e, mayN (ndsOf (putT (R.map fun r => r.1) id J)) = e := ⟨_, rfl⟩
      rw [hee] at hres ⊢
      by_cases h0 : e ≠ 0
      · rw [if_pos h0] at hres
        simp -implicitDefEqProofs [h0]
        subst hR
        subst hres
        exact AFin.intro _ _ (wk_refl _) (HWk.refl _) ⟨by simp, same l9⟩
      rw [if_neg h0] at hres
      have h00 : e = 0 := by simpa using h0
      have kb := (h.up l9).bl
      have km := (h.up l9).at_
      have hA := h.putAfter hr hJi l9
      rw [← set_ent (R := R) (i := i) hJi, hwi] at hA
      obtain ⟨es, hes⟩ : ∃ es, ((R.map jME).map meAV).set i (uAV id, jbAV J .no, r.2) = es := ⟨_, rfl⟩
      rw [hes] at hA
      simp -implicitDefEqProofs [h00]
      refine go_draw2 7 [0, 1, 2, 3, 4, 5] [6] K9 f_mixed (by decide +kernel) (HC.refl _) ?_
      simp -implicitDefEqProofs [kb, k95, st_update]
      refine AES.call (c_update m_jobs hdk km (acheck_n id) hhit he (jbAV J .no)) fun v K hv => ?_
      obtain ⟨rfl, rfl⟩ := hv
      refine ⟨hc_map (HC.refl _) (by rw [km]; rfl), ?_⟩
      rw [hes]
      simp -implicitDefEqProofs
      subst hR
      subst hres
      exact AFin.intro _ _ (wk_refl _) (HWk.refl _) ⟨rfl, hA⟩
end Go.Proofs.YtlhgpodfhdddkaaGreatDoor
namespace Go.Proofs.YtlhgpodfhdddkaaGreatDoor
open Rg Go Go.RowKit
variable {H : Heap}
set_option maxHeartbeats 4000000 in
theorem c_tOf {L : List Jb} {last n : Nat} (hG : Glob H) (hok : TbOk ⟨L, last⟩ n) (t : Rg.Tok) (hs : ∀ j ∈ L, j.ex.length ≤ 9223372036854775807) :
    ACalls Tryz.prog 26 [.sl (jbsAV L) t, .sc (.int .u64 (last : Int))] H (fun v K => ∃ b m ck R, v = .tup [ptr b, .sc (.int .i64 0)] ∧ R.map (fun r => r.1) = L ∧ TabAt b m ck R last K ∧ HLe H K) := by
  generalize hQ : (fun (v : AV) (K : Heap) => ∃ b m ck R, v = .tup [ptr b, .sc (.int .i64 0)] ∧ R.map (fun r : Jb × Nat => r.1) = L ∧ TabAt b m ck R last K ∧ HLe H K) = Q
  have hLl : L.length ≤ 32 := hok.len
  obtain ⟨dk, hdk⟩ := ty_of (P := Tryz.prog) (T := 28) (by kernel_rfl)
  refine ACalls.into Tryz.func26 rfl Tryz.ntmps26 Tryz.results26 (by simp) ?_
  simp -implicitDefEqProofs
  refine ACall.intro c_tNew fun v K1 hv => ?_
  obtain ⟨b, m, eb, em, rfl, hT0, l1⟩ := hv
  have kb1 := hT0.bl
  have nbm := hT0.ne
  simp -implicitDefEqProofs [kb1]
  generalize hK2 : Heap.set K1 b _ = K2
  have hT2 : TabAt b m 0 [] last K2 := by
    rw [← hK2]
    exact ⟨by simp [Heap.set], by simp [Heap.set, nbm.symm, hT0.at_], by simp, by simp, by simp⟩
  have l2 : HLe H K2 := by rw [← hK2]; exact HLe.set_new l1 eb
  clear hK2 hT0 kb1 l1 K1
  refine AGo.rounds (fun μ ρ K => ∃ (i at_ ck : Nat) (R : List (Jb × Nat)), μ = L.length - i ∧ i ≤ L.length ∧ R.map (fun r => r.1) = L.take i ∧ (∀ k ∈ L.drop i, at_ < k.id) ∧ TabAt b m ck R last K ∧ HLe H K ∧ ρ 1 = .sc (.int .u64 (last : Int)) ∧ ρ 6 = ptr b ∧ ρ 7 = .sc (.int .u64 (at_ : Int)) ∧ ρ 19 = .sl (jbsAV L) t ∧ ρ 20 = .sc (.int .i64 (L.length : Int)) ∧ ρ 21 = .sc (.int .i64 (i : Int))) ?_ (m := L.length) (HLe.refl _)
    ⟨0, 0, 0, [], rfl, by omega, by simp, fun k hk => by have := hok.pos k (by simpa using hk); omega, hT2, l2, by simp, by simp, by simp, by simp, by simp, by simp⟩
  clear hT2 l2 K2
  rintro μ ρ K ih ⟨i, at_, ck, R, rfl, hi, hRL, hat, hT, lK, r1, r6, r7, r19, r20, r21⟩
  have hRl : R.length = i := by
    have := congrArg List.length hRL
    rw [List.length_map, List.length_take] at this
    omega
  have hRm : ∀ r ∈ R, r.1 ∈ L := fun r hr => by
    have := List.mem_map_of_mem (f := fun r : Jb × Nat => r.1) hr
    rw [hRL] at this
    exact List.mem_of_mem_take this
  have hdl : ∀ r ∈ R, r.1.deps.length ≤ 1000000 := fun r hr => by
    have := may_deps (hok.may r.1 (hRm r hr))
    omega
  by_cases hlt : i < L.length
  · have hlt' : (i : Int) < (L.length : Int) := by omega
    obtain ⟨y, hyj, hy⟩ := getAt hlt
    have hyl := List.mem_of_getElem? hy
    have w1 : IntKind.i64.wrap ((i : Int) + 1) = ((i + 1 : Nat) : Int) := by rw [wrap_i64 (by omega) (by omega)]; omega
    have hdr : L.drop i = y :: L.drop (i + 1) := by rw [List.drop_eq_getElem_cons hlt, hyj]
    have hya : at_ < y.id := hat y (by rw [hdr]; simp)
    have hyp := hok.pos y hyl
    have hym := hok.may y hyl
    have hy8 := may_deps hym
    have c1 : ¬ (y.id : Int) ≤ (at_ : Int) := by omega
    have c2 : ¬ (last : Int) < (y.id : Int) := by have := hyp.2; simp only at this; omega
    have htk : L.take (i + 1) = L.take i ++ [y] := by rw [List.take_add_one, hy]; rfl
    have hnn : ∀ k ∈ L.take i, k.name ≠ y.name ∧ k.id < y.id := fun k hk => by
      have h1 : (L.take (i + 1)).Pairwise fun a b => a.id < b.id := hok.asc.sublist (List.take_sublist _ _)
      have h2 : ((L.take (i + 1)).map fun j => j.name).Nodup := hok.nam.sublist ((List.take_sublist _ _).map _)
      rw [htk] at h1 h2
      rw [List.map_append, List.nodup_append] at h2
      rw [List.pairwise_append] at h1
      exact ⟨h2.2.2 _ (List.mem_map_of_mem hk) _ (by simp), h1.2.2 k hk y (by simp)⟩
    simp -implicitDefEqProofs [r1, r6, r7, r19, r20, r21, hlt, hlt', hyj, AV.cells]
    refine AAlloc.intro fun b9 h9 => ?_
    have nb9 : b ≠ b9 := by rintro rfl; rw [hT.bl] at h9; cases h9
    simp -implicitDefEqProofs [r1, r7, c1, c2]
    generalize hK9 : Heap.set K b9 _ = K9
    have l9 : HLe K K9 := by rw [← hK9]; exact HLe.set_fresh h9
    have k9 : K9 b9 = some (.cells (jbC y .no) 33) := by rw [← hK9]; simp [Heap.set]
    clear hK9
    refine ACall.eq (c_jobMay (hG.le (lK.trans l9)) y .no (hs y hyl)) ?_
    simp -implicitDefEqProofs [hym, k9, r6]
    have hn0 : namedT (tbOf R last) y.name = none := by
      unfold namedT tbOf
      rw [List.find?_eq_none, hRL]
      intro k hk
      simpa using (hnn k hk).1
    refine ACall.intro (c_tNamed (hT.up l9) hdl (by
      have h2 : ((L.take i).map fun j => j.name).Nodup := hok.nam.sublist ((List.take_sublist _ _).map _)
      rw [← hRL, List.map_map] at h2
      exact h2) y.name) fun v K3 hv => ?_
    obtain ⟨rfl, hK3⟩ := hv
    rw [hn0]
    have l3 := l9.trans hK3
    have k39 := hK3 _ _ k9
    simp -implicitDefEqProofs [ans_none, AV.cells]
    refine AAlloc.intro fun b11 h11 => ?_
    have n911 : b9 ≠ b11 := by rintro rfl; rw [k39] at h11; cases h11
    have nb11 : b ≠ b11 := by rintro rfl; rw [(hT.up l3).bl] at h11; cases h11
    have kb3 := (hT.up l3).bl
    simp -implicitDefEqProofs [r6, nb11, kb3]
    generalize hK4 : Heap.set K3 b11 _ = K4
    have l34 : HLe K3 K4 := by rw [← hK4]; exact HLe.set_fresh h11
    clear hK4
    have l4 := l3.trans l34
    have k49 := l34 _ _ k39
    have kb4 := (hT.up l4).bl
    have km4 := (hT.up l4).at_
    refine ACall.eq (c_lenMap m_jobs km4) ?_
    have h32' : ¬ 32 ≤ (R.length : Int) := by omega
    have h32 : ¬ 32 ≤ R.length := by omega
    simp only [List.length_map]
    simp -implicitDefEqProofs [h32', h32, k49]
    refine go_draw2 8 [0, 1, 2, 3, 4, 5] [6, 7] K4 f_mixed (by decide +kernel) (HC.refl _) ?_
    simp -implicitDefEqProofs [r6, kb4, k49]
    refine AES.call (c_tclone y (by omega)) fun v K5 hv => ?_
    obtain ⟨rfl, hK5⟩ := hv
    refine ⟨hc_le hK5, ?_⟩
    have l5 := l4.trans hK5
    have km5 := (hT.up l5).at_
    have hmiss : ∀ e ∈ R.map jME, e.1 ≠ y.id := fun e he => by
      obtain ⟨r, hr, rfl⟩ := List.mem_map.1 he
      have := List.mem_map_of_mem (f := fun r : Jb × Nat => r.1) hr
      rw [hRL] at this
      have := (hnn r.1 this).2
      simp only
      omega
    have hent : (R.map jME).map meAV ++ [(uAV y.id, jbAV y .no, ck)] = ((R ++ [(y, ck)]).map jME).map meAV := by simp
    simp -implicitDefEqProofs [st_update]
    refine AES.call (c_insert m_jobs hdk km5 (acheck_n y.id) (miss_me hmiss) (jbAV y .no)) fun v K6 hv => ?_
    obtain ⟨rfl, rfl⟩ := hv
    refine ⟨hc_map (hc_le hK5) (by rw [km4]; rfl), ?_⟩
    rw [hent]
    have hT6 : TabAt b m (ck + 1) (R ++ [(y, ck)]) last (K5.set m (.map (((R ++ [(y, ck)]).map jME).map meAV) (ck + 1))) := by
      refine ⟨by simp [Heap.set, nbm, (hT.up l5).bl], by simp [Heap.set], fun r hr => ?_, ?_, ?_⟩
      · rcases List.mem_append.1 hr with hr | hr
        · have := hT.lt r hr; omega
        · rw [List.mem_singleton.1 hr]; simp
      · rw [List.map_append, List.nodup_append]
        refine ⟨hT.nb, by simp, fun a ha b hb => ?_⟩
        simp at hb
        subst hb
        obtain ⟨r, hr, rfl⟩ := List.mem_map.1 ha
        have := hT.lt r hr
        omega
      · rw [List.map_append, List.nodup_append]
        refine ⟨hT.nk, by simp, fun a ha b hb => ?_⟩
        simp at hb
        subst hb
        obtain ⟨r, hr, rfl⟩ := List.mem_map.1 ha
        exact hmiss (jME r) (List.mem_map_of_mem hr)
    obtain ⟨es, hes⟩ : ∃ es, ((R ++ [(y, ck)]).map jME).map meAV = es := ⟨_, rfl⟩
    rw [hes] at hT6 ⊢
    simp -implicitDefEqProofs [r21, w1]
    refine AGo.again ih (m' := L.length - (i + 1)) (by omega) (HLe.refl _) ⟨i + 1, y.id, ck + 1, R ++ [(y, ck)], rfl, by omega, by rw [List.map_append, hRL, htk]; rfl, fun k hk => ?_, hT6, HLe.set_new (lK.trans l5) em, by simp [r1], by simp [r6], by simp, by simp [r19], by simp [r20], by simp⟩
    have h1 := hok.asc
    rw [← List.take_append_drop (i + 1) L, List.pairwise_append] at h1
    exact h1.2.2 y (by rw [htk]; simp) k hk
  · have hlt' : ¬ (i : Int) < (L.length : Int) := by omega
    rw [List.take_of_length_le (by omega)] at hRL
    simp -implicitDefEqProofs [r1, r6, r7, r19, r20, r21, hlt, hlt']
    refine ACall.intro (c_tNodes hT hdl (by rw [hRL]; exact hok.asc) (by omega)) fun v K2 hv => ?_
    obtain ⟨rfl, hK2⟩ := hv
    rw [hRL]
    obtain ⟨N, hN⟩ : ∃ N, ndsOf L = N := ⟨_, rfl⟩
    have hNl : N.length = L.length := by rw [← hN]; simp
    have hNd : ∀ n ∈ N, n.2.length ≤ 1000000 := fun n hn => by
      rw [← hN] at hn
      obtain ⟨k, hk, rfl⟩ := List.mem_map.1 hn
      have := may_deps (hok.may k hk)
      simp only
      omega
    have hrow := hok.row
    simp only at hrow
    rw [hN] at hrow ⊢
    simp -implicitDefEqProofs
    refine ACall.intro (c_graphMay N .no (by omega) hNd) fun v K3 hv => ?_
    obtain ⟨rfl, hK3⟩ := hv
    simp -implicitDefEqProofs [hrow, r6]
    subst hQ
    exact AFin.intro _ _ (wk_refl _) (HWk.refl _) ⟨b, m, ck, R, rfl, hRL, hT.up (hK2.trans hK3), lK.trans (hK2.trans hK3)⟩
end Go.Proofs.YtlhgpodfhdddkaaGreatDoor
namespace Go.Proofs.YtlhgpodfhdddkaaGreatDoor
open Rg Go Go.RowKit
variable {H : Heap}
theorem mayN_ord {l : List Nd} {out : List Nat} (h1 : l.length ≤ 64) (h2 : ∀ n ∈ l, n.2.length ≤ 8) (h3 : (idsN l).Nodup) (h4 : ∀ n ∈ l, n.2.Nodup) (h5 : ∀ n ∈ l, ∀ d ∈ n.2, d ∈ idsN l) (h6 : OrdOk l out) (h7 : ∀ a ∈ idsN l, a ∈ out) : mayN l = 0 := by
  have hN : ¬ noneN l := by
    rintro ⟨n, hn, d, hd, h⟩
    exact h (h5 n hn d hd)
  rw [mayN_zero]
  refine ⟨?_, ?_, hN, fun hc => ?_⟩
  · rintro (h | ⟨n, hn, h⟩)
    · omega
    · have := h2 n hn; omega
  · rintro (h | ⟨n, hn, h⟩)
    · exact h h3
    · exact h (h4 n hn)
  · have := (ord_circ h6 h3 hN (fun n hn h => absurd (h7 _ (List.mem_map_of_mem hn)) h)).2 hc
    have h8 := nodup_len _ _ h3 h7
    rw [ids_len] at h8
    omega
abbrev daily : List UInt8 := [64, 100, 97, 105, 108, 121]
abbrev plJ (n : UInt8) (deps : List Nat) : Jb := ⟨0, [n], daily, 1, 0, 1, 0, 1, deps, false, 0, 0⟩
theorem daily_ok : (cronK daily).2 = 0 := by decide +kernel
theorem plJ_may (n : UInt8) (deps : List Nat) (h : deps.length ≤ 8) : mayJ (plJ n deps) = 0 := by
  unfold mayJ
  have h8 : ¬ 8 < deps.length := by omega
  simp [daily_ok, h8, badJ]
abbrev jA : Jb := ⟨1, [97], daily, 1, 0, 1, 0, 1, [], false, 1, 0⟩
abbrev jB : Jb := ⟨2, [98], daily, 1, 0, 1, 0, 1, [1], false, 1, 0⟩
abbrev jC : Jb := ⟨3, [99], daily, 1, 0, 1, 0, 1, [], false, 1, 0⟩
theorem row1 (i : Nat) : mayN [(i, [])] = 0 := by
  refine mayN_ord (out := [i]) (by simp) (by simp) (by simp [idsN]) (by simp) (by simp) ⟨by simp, by simp [idsN], fun k a h => ?_⟩ (by simp [idsN])
  cases k with
  | zero => simp at h; subst h; exact ⟨[], by simp, by simp⟩
  | succ k => simp at h
theorem row2 : mayN [(1, []), (2, [1])] = 0 := by
  refine mayN_ord (out := [1, 2]) (by simp) (by simp) (by simp [idsN]) (by simp) (by simp [idsN]) ⟨by simp, by simp [idsN], fun k a h => ?_⟩ (by simp [idsN])
  match k with
  | 0 => simp at h; subst h; exact ⟨[], by simp, by simp⟩
  | 1 => simp at h; subst h; exact ⟨[1], by simp, by simp⟩
  | k + 2 => simp at h
theorem row3 : mayN [(1, [2]), (2, [1])] = 131 := by
  classical
  have h1 : ¬ longN [(1, [2]), (2, [1])] := by
    rintro (h | ⟨n, hn, h⟩)
    · simp at h
    · simp at hn; rcases hn with rfl | rfl <;> simp at h
  have h2 : ¬ twiceN [(1, [2]), (2, [1])] := by
    rintro (h | ⟨n, hn, h⟩)
    · simp [idsN] at h
    · simp at hn; rcases hn with rfl | rfl <;> simp at h
  have h3 : ¬ noneN [(1, [2]), (2, [1])] := by
    rintro ⟨n, hn, d, hd, h⟩
    simp at hn
    rcases hn with rfl | rfl <;> simp at hd <;> subst hd <;> simp [idsN] at h
  have h4 : Circ [(1, [2]), (2, [1])] := ⟨1, by simp [idsN], .more (.one ⟨[2], by simp, by simp⟩) (⟨[1], by simp, by simp⟩ : Waits [(1, [2]), (2, [1])] 2 1)⟩
  unfold mayN
  rw [if_neg h1, if_neg h2, if_neg h3, if_pos h4]
theorem kA1 : addT ⟨[], 0⟩ (plJ 97 []) = (1, 0, ⟨[jA], 1⟩) := by
  unfold addT
  rw [if_neg (by simp [plJ_may]), if_neg (by simp [namedT]), if_neg (by simp)]
  have : mayN (ndsOf ([] ++ [newJ ⟨[], 0⟩ (plJ 97 [])])) = 0 := row1 1
  rw [if_neg (by rw [this]; simp)]
  rfl
theorem kA2 : addT ⟨[jA], 1⟩ (plJ 98 [1]) = (2, 0, ⟨[jA, jB], 2⟩) := by
  unfold addT
  rw [if_neg (by simp [plJ_may]), if_neg (by simp [namedT]), if_neg (by simp)]
  have : mayN (ndsOf ([jA] ++ [newJ ⟨[jA], 1⟩ (plJ 98 [1])])) = 0 := row2
  rw [if_neg (by rw [this]; simp)]
  rfl
theorem kA3 : addT ⟨[jA, jB], 2⟩ (plJ 97 []) = (0, 150, ⟨[jA, jB], 2⟩) := by
  unfold addT
  rw [if_neg (by simp [plJ_may]), if_pos (by simp [namedT])]
theorem kR1 : removeT ⟨[jA, jB], 2⟩ 1 = (151, ⟨[jA, jB], 2⟩) := by
  unfold removeT
  rw [show foundT ⟨[jA, jB], 2⟩ 1 = some jA from by simp [foundT]]
  simp
theorem kC1 : changeT ⟨[jA, jB], 2⟩ 1 (plJ 97 [2]) = (131, ⟨[jA, jB], 2⟩) := by
  unfold changeT
  rw [show foundT ⟨[jA, jB], 2⟩ 1 = some jA from by simp [foundT]]
  dsimp only
  rw [if_neg (by simp [plJ_may]), if_neg (by simp [namedT])]
  have : mayN (ndsOf (putT [jA, jB] 1 (chgJ jA (plJ 97 [2])))) = 131 := row3
  rw [this]
  simp
theorem kR2 : removeT ⟨[jA, jB], 2⟩ 2 = (0, ⟨[jA], 2⟩) := by
  unfold removeT
  rw [show foundT ⟨[jA, jB], 2⟩ 2 = some jB from by simp [foundT]]
  simp
theorem kR3 : removeT ⟨[jA], 2⟩ 1 = (0, ⟨[], 2⟩) := by
  unfold removeT
  rw [show foundT ⟨[jA], 2⟩ 1 = some jA from by simp [foundT]]
  simp
theorem kA4 : addT ⟨[], 2⟩ (plJ 99 []) = (3, 0, ⟨[jC], 3⟩) := by
  unfold addT
  rw [if_neg (by simp [plJ_may]), if_neg (by simp [namedT]), if_neg (by simp)]
  have : mayN (ndsOf ([] ++ [newJ ⟨[], 2⟩ (plJ 99 [])])) = 0 := row1 3
  rw [if_neg (by rw [this]; simp)]
  rfl
theorem tb0_ok : TbOk ⟨[], 0⟩ 0 := by
  refine ⟨by simp, by simp, by simp, by simp, by simp, ?_, by simp, by simp⟩
  exact mayN_ord (out := []) (by simp) (by simp) (by simp [idsN]) (by simp) (by simp) ⟨by simp, by simp, by simp⟩ (by simp [idsN])
theorem c_plain (n : UInt8) (deps : List Nat) (t : Rg.Tok) : ACalls Tryz.prog 27 [str [n], .sl (nuAV deps) t] H (fun v K => v = jbAV (plJ n deps) .no ∧ HLe H K) := by
  generalize hR : (fun (v : AV) (K : Heap) => v = jbAV (plJ n deps) .no ∧ HLe H K) = R
  refine ACalls.into Tryz.func27 rfl Tryz.ntmps27 Tryz.results27 (by simp) ?_
  simp -implicitDefEqProofs [AV.cells]
  refine AAlloc.intro fun b4 h4 => ?_
  simp -implicitDefEqProofs
  subst hR
  refine AFin.intro (jbAV (plJ n deps) .no) _ ?_ (HWk.refl _) ⟨rfl, HLe.set_fresh h4⟩
  simp [wk, str, bytes]
set_option maxHeartbeats 4000000 in
theorem c_known15 (hG : Glob H) : ACalls Tryz.prog 5 [] H (fun v K => v = .sc (.bool true) ∧ HLe H K) := by
  generalize hQ : (fun (v : AV) (K : Heap) => v = .sc (.bool true) ∧ HLe H K) = Q
  have hx : ∀ n deps, (plJ n deps).ex.length ≤ 9223372036854775807 := fun _ _ => by simp
  refine ACalls.into Tryz.func5 rfl Tryz.ntmps5 Tryz.results5 (by simp) ?_
  simp -implicitDefEqProofs
  refine ACall.intro c_tNew fun v K1 hv => ?_
  obtain ⟨b, m, eb, em, rfl, hT, l1⟩ := hv
  have hup : ∀ {K K' : Heap}, HLe H K → Upd b m K K' → HLe H K' := fun h1 h2 p o hp => h2 p o (h1 p o hp) (by rintro rfl; rw [eb] at hp; cases hp) (by rintro rfl; rw [em] at hp; cases hp)
  simp -implicitDefEqProofs
  refine ACall.intro (c_plain 97 [] .nil) fun v K2 hv => ?_
  obtain ⟨rfl, l2⟩ := hv
  have lH := l1.trans l2
  have hT := hT.up l2
  simp -implicitDefEqProofs
  refine ACall.intro (c_tAdd (hG.le lH) hT tb0_ok (by omega) (plJ 97 []) (hx _ _)) fun v K3 hv => ?_
  obtain ⟨rfl, R, last, ck, hA, hT, hu⟩ := hv
  have lH := hup lH hu
  rw [show tbOf [] 0 = ⟨[], 0⟩ from rfl, kA1] at hA ⊢
  dsimp only at hA
  have hok : TbOk ⟨[jA], 1⟩ 1 := by have := add_ok tb0_ok (plJ 97 []); rwa [kA1] at this
  rw [hA] at hok
  simp -implicitDefEqProofs
  refine ACall.intro (c_plain 98 [1] .full) fun v K4 hv => ?_
  obtain ⟨rfl, l4⟩ := hv
  have lH := lH.trans l4
  have hT := hT.up l4
  simp -implicitDefEqProofs
  refine ACall.intro (c_tAdd (hG.le lH) hT hok (by omega) (plJ 98 [1]) (hx _ _)) fun v K5 hv => ?_
  rw [← hA] at hv hok
  obtain ⟨rfl, R2, last2, ck2, hA2, hT, hu⟩ := hv
  have lH := hup lH hu
  have hok := add_ok hok (plJ 98 [1])
  rw [kA2] at hA2 hok ⊢
  dsimp only at hA2 hok
  rw [hA2] at hok
  simp -implicitDefEqProofs
  refine ACall.intro (c_plain 97 [] .nil) fun v K6 hv => ?_
  obtain ⟨rfl, l6⟩ := hv
  have lH := lH.trans l6
  have hT := hT.up l6
  simp -implicitDefEqProofs
  refine ACall.intro (c_tAdd (hG.le lH) hT hok (by omega) (plJ 97 []) (hx _ _)) fun v K7 hv => ?_
  rw [← hA2] at hv hok
  obtain ⟨rfl, R3, last3, ck3, hA3, hT, hu⟩ := hv
  have lH := hup lH hu
  have hok := add_ok hok (plJ 97 [])
  rw [kA3] at hA3 hok ⊢
  dsimp only at hA3 hok
  rw [hA3] at hok
  simp -implicitDefEqProofs
  refine ACall.intro (c_tRemove hT hok 1) fun v K8 hv => ?_
  rw [← hA3] at hv hok
  obtain ⟨rfl, R4, last4, ck4, hA4, hT, hu⟩ := hv
  have lH := hup lH hu
  have hok := remove_ok hok 1
  rw [kR1] at hA4 hok ⊢
  dsimp only at hA4 hok
  rw [hA4] at hok
  simp -implicitDefEqProofs
  refine ACall.intro (c_plain 97 [2] .full) fun v K9 hv => ?_
  obtain ⟨rfl, l9⟩ := hv
  have lH := lH.trans l9
  have hT := hT.up l9
  simp -implicitDefEqProofs
  refine ACall.intro (c_tChange (hG.le lH) hT hok (by omega) 1 (plJ 97 [2]) (hx _ _)) fun v K10 hv => ?_
  rw [← hA4] at hv hok
  obtain ⟨rfl, R5, last5, ck5, hA5, hT, hu⟩ := hv
  have lH := hup lH hu
  have hok := change_ok hok 1 (plJ 97 [2])
  rw [kC1] at hA5 hok ⊢
  dsimp only at hA5 hok
  rw [hA5] at hok
  simp -implicitDefEqProofs
  refine ACall.intro (c_tRemove hT hok 2) fun v K11 hv => ?_
  rw [← hA5] at hv hok
  obtain ⟨rfl, R6, last6, ck6, hA6, hT, hu⟩ := hv
  have lH := hup lH hu
  have hok := remove_ok hok 2
  rw [kR2] at hA6 hok ⊢
  dsimp only at hA6 hok
  rw [hA6] at hok
  simp -implicitDefEqProofs
  refine ACall.intro (c_tRemove hT hok 1) fun v K12 hv => ?_
  rw [← hA6] at hv hok
  obtain ⟨rfl, R7, last7, ck7, hA7, hT, hu⟩ := hv
  have lH := hup lH hu
  have hok := remove_ok hok 1
  rw [kR3] at hA7 hok ⊢
  dsimp only at hA7 hok
  rw [hA7] at hok
  simp -implicitDefEqProofs
  refine ACall.intro (c_plain 99 [] .nil) fun v K13 hv => ?_
  obtain ⟨rfl, l13⟩ := hv
  have lH := lH.trans l13
  have hT := hT.up l13
  simp -implicitDefEqProofs
  refine ACall.intro (c_tAdd (hG.le lH) hT hok (by omega) (plJ 99 []) (hx _ _)) fun v K14 hv => ?_
  rw [← hA7] at hv
  obtain ⟨rfl, R8, last8, ck8, hA8, hT, hu⟩ := hv
  have lH := hup lH hu
  rw [kA4]
  simp -implicitDefEqProofs
  subst hQ
  exact AFin.intro _ _ (wk_refl _) (HWk.refl _) ⟨rfl, lH⟩
end Go.Proofs.YtlhgpodfhdddkaaGreatDoor
namespace Go.Proofs.YtlhgpodfhdddkaaGreatDoor
open Rg Go Go.RowKit
variable {H : Heap}
structure Op15 where
  kind : Int
  id : Nat
  job : Jb
  pau : Bool
  seen : Int
abbrev opC (o : Op15) : List AV := [.sc (.int .i64 o.kind), .sc (.int .u64 (o.id : Nat)), .sc (.int .u64 (o.job.id : Nat)), str o.job.name, str o.job.ex, .sc (.int .i64 o.job.pol), .sc (.int .i64 o.job.gr), .sc (.int .i64 o.job.lim), .sc (.int .i64 o.job.ret), .sc (.int .i64 o.job.tim), .sl (o.job.deps.map fun n : Nat => .sc (.int .u64 n)) .no, .sc (.bool o.job.pau), .sc (.int .u64 (o.job.ver : Nat)), .sc (.int .i64 o.job.seen), .sc (.bool o.pau), .sc (.int .i64 o.seen)]
abbrev opAV (o : Op15) : AV := .agg (opC o)
abbrev opsAV (l : List Op15) : List AV := l.map opAV
def greatJ (j : Jb) : Bool := decide (100 < j.name.length) || decide (600 < j.ex.length) || decide (12 < j.deps.length)
theorem c_great (j : Jb) : ACalls Tryz.prog 7 [jbAV j .no] H (fun v K => v = .sc (.bool (greatJ j)) ∧ HLe H K) := by
  generalize hR : (fun (v : AV) (K : Heap) => v = .sc (.bool (greatJ j)) ∧ HLe H K) = R
  refine ACalls.into Tryz.func7 rfl Tryz.ntmps7 Tryz.results7 (by simp) ?_
  simp -implicitDefEqProofs [AV.cells]
  refine AAlloc.intro fun b1 h1 => ?_
  by_cases c1 : 100 < j.name.length
  · have c1' : 100 < (j.name.length : Int) := by omega
    simp -implicitDefEqProofs [c1, c1']
    subst hR
    exact AFin.intro _ _ (wk_refl _) (HWk.refl _) ⟨by simp [greatJ, c1], HLe.set_fresh h1⟩
  have c1' : ¬ 100 < (j.name.length : Int) := by omega
  by_cases c2 : 600 < j.ex.length
  · have c2' : 600 < (j.ex.length : Int) := by omega
    simp -implicitDefEqProofs [c1, c1', c2, c2']
    subst hR
    exact AFin.intro _ _ (wk_refl _) (HWk.refl _) ⟨by simp [greatJ, c2], HLe.set_fresh h1⟩
  have c2' : ¬ 600 < (j.ex.length : Int) := by omega
  by_cases c3 : 12 < j.deps.length
  · have c3' : 12 < (j.deps.length : Int) := by omega
    simp -implicitDefEqProofs [c1, c1', c2, c2', c3, c3']
    subst hR
    exact AFin.intro _ _ (wk_refl _) (HWk.refl _) ⟨by simp [greatJ, c3], HLe.set_fresh h1⟩
  have c3' : ¬ 12 < (j.deps.length : Int) := by omega
  simp -implicitDefEqProofs [c1, c1', c2, c2', c3, c3']
  subst hR
  exact AFin.intro _ _ (wk_refl _) (HWk.refl _) ⟨by simp [greatJ, c1, c2, c3], HLe.set_fresh h1⟩
structure StepOk (T : Tb) (o : Op15) (e : Int) (T' : Tb) : Prop where
  same : e ≠ 0 → T'.L = T.L
  last : T.last ≤ T'.last
  keep : ∀ w w', foundT T o.id = some w → foundT T' o.id = some w' → w.seen ≤ w'.seen ∧ (w'.ver = w.ver ∨ (o.kind = 1 ∧ w'.ver = w.ver + 1))
  had : e = 0 → 0 < o.kind → o.kind < 5 → (foundT T o.id).isSome = true
theorem same_step (T : Tb) (o : Op15) (e : Int) (he : e = 0 → 0 < o.kind → o.kind < 5 → (foundT T o.id).isSome = true) : StepOk T o e T :=
  ⟨fun _ => rfl, Nat.le_refl _, fun w w' h1 h2 => by rw [h1] at h2; cases h2; exact ⟨by omega, .inl rfl⟩, he⟩
theorem found_put {L : List Jb} {id last : Nat} {x w' : Jb} (h : foundT ⟨putT L id x, last⟩ id = some w') : w' = x := by
  obtain ⟨h1, h2⟩ := found_some h
  rcases put_mem h1 with h | ⟨_, h⟩
  · exact h
  · exact absurd h2 h
theorem add_step (T : Tb) (o : Op15) (hk : o.kind = 0) : StepOk T o (addT T o.job).2.1 (addT T o.job).2.2 ∧ ((addT T o.job).2.1 = 0 → (addT T o.job).1 = T.last + 1) ∧ ((addT T o.job).2.1 ≠ 0 → (addT T o.job).1 = 0) := by
  have hs : ∀ e : Int, StepOk T o e T := fun e => same_step T o e (fun _ h => by omega)
  unfold addT
  by_cases h1 : mayJ o.job ≠ 0
  · rw [if_pos h1]; exact ⟨hs _, fun h => absurd h h1, fun _ => rfl⟩
  rw [if_neg h1]
  by_cases h2 : (namedT T o.job.name).isSome = true
  · rw [if_pos h2]; exact ⟨hs _, fun h => by simp at h, fun _ => rfl⟩
  rw [if_neg h2]
  by_cases h3 : 32 ≤ T.L.length
  · rw [if_pos h3]; exact ⟨hs _, fun h => by simp at h, fun _ => rfl⟩
  rw [if_neg h3]
  by_cases h4 : mayN (ndsOf (T.L ++ [newJ T o.job])) ≠ 0
  · rw [if_pos h4]; exact ⟨hs _, fun h => absurd h h4, fun _ => rfl⟩
  rw [if_neg h4]
  refine ⟨⟨fun h => absurd rfl h, by simp only; omega, fun w w' h5 h6 => ?_, fun _ h => by omega⟩, fun _ => rfl, fun h => absurd rfl h⟩
  unfold foundT at h5 h6
  simp only [List.find?_append, h5, Option.some_or, Option.some.injEq] at h6
  subst h6
  exact ⟨by omega, .inl rfl⟩
theorem change_step (T : Tb) (o : Op15) (hk : o.kind = 1) : StepOk T o (changeT T o.id o.job).1 (changeT T o.id o.job).2 := by
  unfold changeT
  cases hf : foundT T o.id with
  | none => exact same_step T o _ (fun h => by simp at h)
  | some w =>
    have hs : ∀ e : Int, StepOk T o e T := fun e => same_step T o e (fun _ _ _ => by rw [hf]; rfl)
    dsimp only
    by_cases h1 : mayJ o.job ≠ 0
    · rw [if_pos h1]; exact hs _
    rw [if_neg h1]
    have hok : ∀ c : Prop, [Decidable c] → StepOk T o (if c then (150, T) else if mayN (ndsOf (putT T.L o.id (chgJ w o.job))) ≠ 0 then (mayN (ndsOf (putT T.L o.id (chgJ w o.job))), T) else (0, ⟨putT T.L o.id (chgJ w o.job), T.last⟩)).1 (if c then (150, T) else if mayN (ndsOf (putT T.L o.id (chgJ w o.job))) ≠ 0 then (mayN (ndsOf (putT T.L o.id (chgJ w o.job))), T) else (0, ⟨putT T.L o.id (chgJ w o.job), T.last⟩)).2 := fun c _ => by
      by_cases h2 : c
      · rw [if_pos h2]; exact hs _
      rw [if_neg h2]
      by_cases h3 : mayN (ndsOf (putT T.L o.id (chgJ w o.job))) ≠ 0
      · rw [if_pos h3]; exact hs _
      rw [if_neg h3]
      refine ⟨fun h => absurd rfl h, Nat.le_refl _, fun w1 w' h5 h6 => ?_, fun _ _ _ => by rw [hf]; rfl⟩
      rw [hf] at h5
      cases h5
      rw [found_put h6]
      exact ⟨by simp, .inr ⟨hk, rfl⟩⟩
    exact hok _
theorem remove_step (T : Tb) (o : Op15) : StepOk T o (removeT T o.id).1 (removeT T o.id).2 := by
  unfold removeT
  cases hf : foundT T o.id with
  | none => exact same_step T o _ (fun h => by simp at h)
  | some w =>
    have hs : ∀ e : Int, StepOk T o e T := fun e => same_step T o e (fun _ _ _ => by rw [hf]; rfl)
    dsimp only
    by_cases h1 : ∃ k ∈ T.L, o.id ∈ k.deps
    · rw [if_pos h1]; exact hs _
    rw [if_neg h1]
    refine ⟨fun h => absurd rfl h, Nat.le_refl _, fun w1 w' h5 h6 => ?_, fun _ _ _ => by rw [hf]; rfl⟩
    obtain ⟨h7, h8⟩ := found_some h6
    have := (List.mem_filter.1 h7).2
    simp [h8] at this
theorem seen_step (T : Tb) (o : Op15) (e : Int) (w x : Jb) (hf : foundT T o.id = some w) (hx : w.seen ≤ x.seen ∧ x.ver = w.ver) (he : e = 0) : StepOk T o e ⟨putT T.L o.id x, T.last⟩ := by
  refine ⟨fun h => absurd he h, Nat.le_refl _, fun w1 w' h5 h6 => ?_, fun _ _ _ => by rw [hf]; rfl⟩
  rw [hf] at h5
  cases h5
  rw [found_put h6]
  exact ⟨hx.1, .inl hx.2⟩
theorem pause_step (T : Tb) (o : Op15) : StepOk T o (pauseT T o.id o.pau o.seen).1 (pauseT T o.id o.pau o.seen).2 := by
  unfold pauseT
  cases hf : foundT T o.id with
  | none => exact same_step T o _ (fun h => by simp at h)
  | some w =>
    dsimp only
    by_cases h1 : badT o.seen
    · rw [if_pos h1]; exact same_step T o _ (fun _ _ _ => by rw [hf]; rfl)
    rw [if_neg h1]
    exact seen_step T o _ w _ hf ⟨by simp only; split <;> omega, rfl⟩ rfl
theorem see_step (T : Tb) (o : Op15) : StepOk T o (seeT T o.id o.seen).1 (seeT T o.id o.seen).2 := by
  unfold seeT
  cases hf : foundT T o.id with
  | none => exact same_step T o _ (fun h => by simp at h)
  | some w =>
    dsimp only
    by_cases h1 : badT o.seen
    · rw [if_pos h1]; exact same_step T o _ (fun _ _ _ => by rw [hf]; rfl)
    rw [if_neg h1]
    exact seen_step T o _ w _ hf ⟨by simp only; omega, rfl⟩ rfl
end Go.Proofs.YtlhgpodfhdddkaaGreatDoor
