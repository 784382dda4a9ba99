/- The document's table: Pause. The document's table: Change. The document's table: Add, Remove. The document's table: Remove. A table of jobs: whatever is called, its row may be, and so on: the law's walk. Does a table stand as the document's? -/
import Derived.Test.YtlhgpodfhdddkaaGreatDoorP28
set_option linter.unusedSimpArgs false
set_option linter.unusedVariables false
set_option linter.unnecessarySimpa false
namespace Go.Proofs.YtlhgpodfhdddkaaGreatDoor
open Rg Go Go.RowKit
variable {H : Heap}
theorem flat_put {L : List Jb} {i k : Nat} {w x : Jb} {v : AV} {zs : List AV} (hw : L[i]? = some w) (hk : k < 12) (hx : jbC x .no = (jbC w .no).set k v) :
    ((jbsAV L).flatMap AV.cells ++ zs).set (i * 12 + k) v = (jbsAV (L.set i x)).flatMap AV.cells ++ zs := by
  have hxs : (jbsAV L)[i]? = some (jbAV w .no) := by rw [List.getElem?_map, hw]; rfl
  rw [flat_setZ (zs := zs) (k := k) (v := v) (szs_jbs L) hxs hk, ← hx, ← jbs_set]
set_option maxHeartbeats 2000000 in
theorem c_rPause {rb last n : Nat} {L : List Jb} (h : RefAt rb L last H) (hok : TbOk ⟨L, last⟩ n) (id : Nat) (p : Bool) (s : Int) :
    ACalls Tryz.prog 15 [ptr rb, .sc (.int .u64 (id : Int)), .sc (.bool p), .sc (.int .i64 s)] H (fun v K => v = .sc (.int .i64 (pauseT ⟨L, last⟩ id p s).1) ∧ RAfter rb (pauseT ⟨L, last⟩ id p s).2 H K) := by
  obtain ⟨res, hres⟩ : ∃ r, pauseT ⟨L, last⟩ id p s = r := ⟨_, rfl⟩
  rw [hres]
  unfold pauseT foundT at hres
  simp only at hres
  have hLl : L.length ≤ 32 := hok.len
  have hid := ids_nodup hok.asc
  simp only at hid
  have hpl := c_rPlace h (by omega) id
  refine ACalls.freezeCell ?_
  generalize hQ : (fun (v : AV) (K : Heap) => (v = .sc (.int .i64 res.1) ∧ RAfter rb res.2 H K) ∨ _) = Q
  refine ACalls.into Tryz.func15 rfl Tryz.ntmps15 Tryz.results15 (by simp) ?_
  simp -implicitDefEqProofs
  refine ACall.eq hpl ?_
  obtain ⟨t, kr⟩ := h
  rcases idxJ_spec (fun j => decide (j.id = id)) L 0 with ⟨i, w, hi, hw, hf⟩ | ⟨hi, hf⟩
  · rw [hi, Nat.zero_add]
    rw [hf] at hres
    simp only at hres
    have hwi : w.id = id := by simpa using List.find?_some hf
    subst hwi
    have hil := (List.getElem?_eq_some_iff.1 hw).1
    have i0 : ¬ (i : Int) < 0 := by omega
    by_cases hb : badT s
    · rw [if_pos hb] at hres
      unfold badT at hb
      by_cases h1 : s < -1
      · simp -implicitDefEqProofs [i0, h1]
        subst hQ
        subst hres
        exact AFin.intro _ _ (wk_refl _) (HWk.refl _) (.inl ⟨rfl, r_same ⟨t, kr⟩ (HLe.refl _)⟩)
      · have h2 : 13569465600 ≤ s := by omega
        simp -implicitDefEqProofs [i0, h1, h2]
        subst hQ
        subst hres
        exact AFin.intro _ _ (wk_refl _) (HWk.refl _) (.inl ⟨rfl, r_same ⟨t, kr⟩ (HLe.refl _)⟩)
    rw [if_neg hb] at hres
    unfold badT at hb
    have h1 : ¬ s < -1 := by omega
    have h2 : ¬ 13569465600 ≤ s := by omega
    have hne : jbsAV L ≠ [] := by
      intro e
      have := congrArg List.length e
      rw [List.length_map, List.length_nil] at this
      omega
    have hxl : (jbsAV L).length = L.length := List.length_map _
    simp -implicitDefEqProofs [i0, h1, h2, kr]
    refine AApp.byC (appC_raw el_27 jobZ1 (.inr rfl) (szs_jbs L) hne (by simp; omega) (by simp [maxLen]; omega)) fun v K hv => ?_
    obtain ⟨g, zs, cap, hg, rfl, rfl, hzl, hcap, hcm⟩ := hv
    rw [hxl] at hcap ⊢
    have grb : g ≠ rb := by rintro rfl; rw [kr] at hg; cases hg
    have hxs : (jbsAV L)[i]? = some (jbAV w .no) := by rw [List.getElem?_map, hw]; rfl
    have hc9 : ((jbsAV L).flatMap AV.cells ++ zs)[i * 12 + 9]? = some (.sc (.bool w.pau)) := flat_cell (zs := zs) (k := 9) (szs_jbs L) hxs (by omega)
    have hc11 : ((jbsAV L).flatMap AV.cells ++ zs)[i * 12 + 11]? = some (.sc (.int .i64 w.seen)) := flat_cell (zs := zs) (k := 11) (szs_jbs L) hxs (by omega)
    have hfit := flat_fits (zs := zs) (szs_jbs L) (show i < (jbsAV L).length by omega)
    have hset9 : ((jbsAV L).flatMap AV.cells ++ zs).set (i * 12 + 9) (.sc (.bool p)) = (jbsAV (L.set i { w with pau := p })).flatMap AV.cells ++ zs := flat_put hw (by omega) rfl
    have hset11 : ((jbsAV L).flatMap AV.cells ++ zs).set (i * 12 + 11) (.sc (.int .i64 s)) = (jbsAV (L.set i { w with seen := s })).flatMap AV.cells ++ zs := flat_put hw (by omega) rfl
    have hset2 : ((jbsAV (L.set i { w with seen := s })).flatMap AV.cells ++ zs).set (i * 12 + 9) (.sc (.bool p)) = (jbsAV ((L.set i { w with seen := s }).set i { w with pau := p, seen := s })).flatMap AV.cells ++ zs := flat_put (w := { w with seen := s }) (by rw [List.getElem?_set_self hil]) (by omega) rfl
    rw [List.set_set] at hset2
    have hf9 : i * 12 + 9 + 1 ≤ ((jbsAV L).flatMap AV.cells ++ zs).length := by omega
    have hf11 : i * 12 + 11 + 1 ≤ ((jbsAV L).flatMap AV.cells ++ zs).length := by omega
    obtain ⟨F, hF⟩ : ∃ F, (jbsAV L).flatMap AV.cells ++ zs = F := ⟨_, rfl⟩
    rw [hF] at hc9 hc11 hf9 hf11 hset9 hset11 ⊢
    have hL' := put_set hid hw (pauJ w p s)
    rw [← hL'] at hres
    have close : ∀ {K : Heap} {x : Jb} {F' : List AV}, pauJ w p s = x → F' = (jbsAV (L.set i x)).flatMap AV.cells ++ zs → K = (H.set g (.cells F' 33)).set rb (.cells [.sc (.slice (some ⟨g, 0, none⟩) L.length cap), .sc (.int .u64 (last : Int))] 30) → AFin Q (.sc (.int .i64 0)) K := fun {K x F'} hx hF' hK => by
      subst hQ
      subst hres
      subst hK
      refine AFin.intro _ _ (wk_refl _) (HWk.refl _) (r_fin (F := F') (zs := zs) (L := L) (L' := L.set i (pauJ w p s)) rfl (by simp) (by rw [hF', hx]) hg grb hcap hcm (fun q o hq h1 => by
        have : q ≠ g := by rintro rfl; rw [hg] at hq; cases hq
        simp [Heap.set, h1, this, hq]) (by simp [Heap.set, grb]) (by simp [Heap.set]))
    cases hpw : w.pau with
    | true =>
      rw [hpw] at hc9
      cases p with
      | true =>
        simp -implicitDefEqProofs [grb, grb.symm, kr, hc9, hf9, hil]
        exact close (by simp [pauJ, hpw]) hset9 rfl
      | false =>
        by_cases hs : w.seen < s
        · simp -implicitDefEqProofs [grb, grb.symm, kr, hc9, hc11, hf9, hf11, hs, hil]
          rw [hset11, hset2]
          exact close (by simp [pauJ, hpw]; omega) rfl rfl
        · simp -implicitDefEqProofs [grb, grb.symm, kr, hc9, hc11, hf9, hf11, hs, hil]
          exact close (by simp [pauJ, hpw]; omega) hset9 rfl
    | false =>
      rw [hpw] at hc9
      simp -implicitDefEqProofs [grb, grb.symm, kr, hc9, hf9, hil]
      exact close (by simp [pauJ, hpw]) hset9 rfl
  · rw [hi]
    rw [hf] at hres
    simp -implicitDefEqProofs
    subst hQ
    subst hres
    exact AFin.intro _ _ (wk_refl _) (HWk.refl _) (.inl ⟨rfl, r_same ⟨t, kr⟩ (HLe.refl _)⟩)
end Go.Proofs.YtlhgpodfhdddkaaGreatDoor
namespace Go.Proofs.YtlhgpodfhdddkaaGreatDoor
open Rg Go Go.RowKit
variable {H : Heap}
theorem lset_split : ∀ (ds cs : List AV) (o : Nat), o + ds.length ≤ cs.length → lset cs o ds = cs.take o ++ ds ++ cs.drop (o + ds.length)
  | [], cs, o, h => by simp [lset]
  | d :: ds, cs, o, h => by
    simp only [List.length_cons] at h
    rw [lset, lset_split ds _ _ (by simp; omega)]
    have h1 : (cs.set o d).take (o + 1) = cs.take o ++ [d] := by
      rw [List.take_add_one, List.take_set_of_le (Nat.le_refl o), List.getElem?_set_self (by omega)]
      rfl
    rw [h1, List.drop_set_of_lt (by omega)]
    simp [Nat.add_assoc, Nat.add_comm 1]
theorem flat_put12 {L : List Jb} {i : Nat} {w x : Jb} {zs : List AV} (hw : L[i]? = some w) :
    lset ((jbsAV L).flatMap AV.cells ++ zs) (i * 12) (jbC x .no) = (jbsAV (L.set i x)).flatMap AV.cells ++ zs := by
  have hxs : (jbsAV L)[i]? = some (jbAV w .no) := by rw [List.getElem?_map, hw]; rfl
  have hil := (List.getElem?_eq_some_iff.1 hw).1
  have hfit := flat_fits (zs := zs) (szs_jbs L) (show i < (jbsAV L).length by simpa using hil)
  rw [lset_split _ _ _ (by simpa using hfit)]
  have e1 : (jbsAV L).flatMap AV.cells ++ zs = ((jbsAV L).take i).flatMap AV.cells ++ (jbC w .no ++ (((jbsAV L).drop (i + 1)).flatMap AV.cells ++ zs)) := by
    rw [flat_split hxs]; simp [AV.cells]
  have hl := flat_take_len (szs_jbs L) (show i ≤ (jbsAV L).length by simp; omega)
  have hx' : (jbsAV (L.set i x))[i]? = some (jbAV x .no) := by rw [List.getElem?_map, List.getElem?_set_self hil]; rfl
  have e2 : (jbsAV (L.set i x)).flatMap AV.cells ++ zs = ((jbsAV L).take i).flatMap AV.cells ++ (jbC x .no ++ (((jbsAV L).drop (i + 1)).flatMap AV.cells ++ zs)) := by
    rw [flat_split hx', ← jbs_set, List.take_set_of_le (Nat.le_refl i), List.drop_set_of_lt (by omega)]; simp [AV.cells]
  rw [e2, e1, List.take_left' hl, List.append_assoc]
  congr 2
  rw [← List.drop_drop, List.drop_left' hl]
  exact List.drop_left' rfl
set_option maxHeartbeats 4000000 in
theorem c_rChange {rb last n : Nat} {L : List Jb} (h : RefAt rb L last H) (hok : TbOk ⟨L, last⟩ n) (hn : n ≤ 1000) (id : Nat) (j : Jb) (hx : j.ex.length ≤ 9223372036854775807) :
    ACalls Tryz.prog 11 [ptr rb, .sc (.int .u64 (id : Int)), jbAV j .no] H (fun v K => v = .sc (.int .i64 (changeT ⟨L, last⟩ id j).1) ∧ RAfter rb (changeT ⟨L, last⟩ id j).2 H K) := by
  obtain ⟨res, hres⟩ : ∃ r, changeT ⟨L, last⟩ id j = r := ⟨_, rfl⟩
  rw [hres]
  unfold changeT foundT namedT at hres
  simp only at hres
  have hLl : L.length ≤ 32 := hok.len
  have hid := ids_nodup hok.asc
  simp only at hid
  refine ACalls.freezeCell ?_
  generalize hQ : (fun (v : AV) (K : Heap) => (v = .sc (.int .i64 res.1) ∧ RAfter rb res.2 H K) ∨ _) = Q
  refine ACalls.into Tryz.func11 rfl Tryz.ntmps11 Tryz.results11 (by simp) ?_
  simp -implicitDefEqProofs [AV.cells]
  refine AAlloc.intro fun b5 h5 => ?_
  have n5r : b5 ≠ rb := by obtain ⟨t, kr⟩ := h; rintro rfl; rw [kr] at h5; cases h5
  simp -implicitDefEqProofs
  generalize hK5 : Heap.set H b5 _ = K5
  have l5 : HLe H K5 := by rw [← hK5]; exact HLe.set_fresh h5
  have k5 : K5 b5 = some (.cells (jbC j .no) 33) := by rw [← hK5]; simp [Heap.set]
  clear hK5
  have h' := h.up l5
  refine ACall.eq (c_rPlace h' (by omega) id) ?_
  rcases idxJ_spec (fun j => decide (j.id = id)) L 0 with ⟨i, w, hi, hw, hf⟩ | ⟨hi, hf⟩
  case inr =>
    rw [hi]
    rw [hf] at hres
    simp -implicitDefEqProofs
    subst hQ
    subst hres
    exact AFin.intro _ _ (wk_refl _) (HWk.refl _) (.inl ⟨rfl, r_same h l5⟩)
  rw [hi, Nat.zero_add]
  rw [hf] at hres
  simp only at hres
  have hwi : w.id = id := by simpa using List.find?_some hf
  subst hwi
  have hil := (List.getElem?_eq_some_iff.1 hw).1
  have hwm := List.mem_of_getElem? hw
  have hver := hok.ver w hwm
  have i0 : ¬ (i : Int) < 0 := by omega
  simp -implicitDefEqProofs [i0, k5]
  refine ACall.eq (c_ref14May j .no hx) ?_
  by_cases hm : mayJ j ≠ 0
  · rw [if_pos hm] at hres
    simp -implicitDefEqProofs [hm]
    subst hQ
    subst hres
    exact AFin.intro _ _ (wk_refl _) (HWk.refl _) (.inl ⟨by simp, r_same h l5⟩)
  rw [if_neg hm] at hres
  have hm0 : mayJ j = 0 := by simpa using hm
  have hj8 := may_deps hm0
  simp -implicitDefEqProofs [hm0, k5]
  refine ACall.eq (c_rNamed h' (by omega) j.name) ?_
  obtain ⟨t, kr⟩ := h'
  have hne : jbsAV L ≠ [] := by
    intro e
    have := congrArg List.length e
    rw [List.length_map, List.length_nil] at this
    omega
  have hxl : (jbsAV L).length = L.length := List.length_map _
  rcases idxJ_spec (fun k => decide (k.name = j.name)) L 0 with ⟨ix, x, hix, hxw, hxf⟩ | ⟨hix, hxf⟩
  · rw [hix, Nat.zero_add]
    rw [hxf] at hres
    have ix0 : 0 ≤ (ix : Int) := by omega
    by_cases hii : ix = i
    · have hii2 := hii.symm
      subst hii2
      rw [hw] at hxw
      cases hxw
      have hc : ¬ decide (w.id ≠ w.id) = true := by simp
      rw [if_neg hc] at hres
      simp -implicitDefEqProofs [ix0, kr]
      refine AApp.byC (appC_raw el_27 jobZ1 (.inr rfl) (szs_jbs L) hne (by simp; omega) (by simp [maxLen]; omega)) fun v K hv => ?_
      obtain ⟨g, zs, cap, hg, rfl, rfl, hzl, hcap, hcm⟩ := hv
      rw [hxl] at hcap ⊢
      have g5 : g ≠ b5 := by rintro rfl; rw [k5] at hg; cases hg
      have grb : g ≠ rb := by rintro rfl; rw [kr] at hg; cases hg
      have hgH : H g = none := l5.none hg
      have hxs : (jbsAV L)[i]? = some (jbAV w .no) := by rw [List.getElem?_map, hw]; rfl
      have hc9 : ((jbsAV L).flatMap AV.cells ++ zs)[i * 12 + 9]? = some (.sc (.bool w.pau)) := flat_cell (zs := zs) (k := 9) (szs_jbs L) hxs (by omega)
      have hc10 : ((jbsAV L).flatMap AV.cells ++ zs)[i * 12 + 10]? = some (.sc (.int .u64 (w.ver : Int))) := flat_cell (zs := zs) (k := 10) (szs_jbs L) hxs (by omega)
      have hc11 : ((jbsAV L).flatMap AV.cells ++ zs)[i * 12 + 11]? = some (.sc (.int .i64 w.seen)) := flat_cell (zs := zs) (k := 11) (szs_jbs L) hxs (by omega)
      have hfit := flat_fits (zs := zs) (szs_jbs L) (show i < (jbsAV L).length by omega)
      obtain ⟨V1, hV1⟩ : ∃ V, w.ver + 1 = V := ⟨_, rfl⟩
      have w1 : IntKind.u64.wrap ((w.ver : Int) + 1) = (V1 : Int) := by rw [wrap_u64 (by omega) (by omega)]; omega
      obtain ⟨J, hJ⟩ : ∃ J : Jb, { j with id := w.id, pau := w.pau, seen := w.seen, ver := V1 } = J := ⟨_, rfl⟩
      have hJc : chgJ w j = J := by rw [← hJ, ← hV1]
      rw [hJc, ← put_set hid hw] at hres
      have hJd : J.deps.length ≤ 8 := by rw [← hJ]; exact hj8
      have hJC : jbC J .no = [.sc (.int .u64 (w.id : Int)), str j.name, str j.ex, .sc (.int .i64 j.pol), .sc (.int .i64 j.gr), .sc (.int .i64 j.lim), .sc (.int .i64 j.ret), .sc (.int .i64 j.tim), .sl (nuAV j.deps) .no, .sc (.bool w.pau), .sc (.int .u64 (V1 : Int)), .sc (.int .i64 w.seen)] := by rw [← hJ]
      have hput := flat_put12 (x := J) (zs := zs) hw
      rw [hJC] at hput
      obtain ⟨F, hF⟩ : ∃ F, (jbsAV L).flatMap AV.cells ++ zs = F := ⟨_, rfl⟩
      rw [hF] at hc9 hc10 hc11 hfit hput ⊢
      simp -implicitDefEqProofs [g5, g5.symm, grb, grb.symm, n5r, n5r.symm, k5, kr, hc9, hc10, hc11, hil, w1, hfit]
      simp only [lset] at hput
      generalize hK7 : Heap.set _ g _ = K7
      have k7g : K7 g = some (.cells ((jbsAV (L.set i J)).flatMap AV.cells ++ zs) 33) := by rw [← hK7, ← hput]; simp [Heap.set]
      have l7 : HLe H K7 := by
        rw [← hK7]
        exact HLe.set_new (HLe.set_new (HLe.set_new l5 hgH) h5) hgH
      clear hK7
      have hrow := c_row15R (H := K7) (L.set i J) (cap := cap) (by rw [List.length_set]; omega) k7g
      rw [List.length_set] at hrow
      refine ACall.intro hrow fun v K8 hv => ?_
      obtain ⟨rfl, l8⟩ := hv
      obtain ⟨N, hN⟩ : ∃ N, ndsOf (L.set i J) = N := ⟨_, rfl⟩
      have hNl : N.length = L.length := by rw [← hN]; simp
      have hNd : ∀ n ∈ N, n.2.length ≤ 1000000 := fun n hn => by
        rw [← hN] at hn
        obtain ⟨k, hk, rfl⟩ := List.mem_map.1 hn
        rcases List.mem_or_eq_of_mem_set hk with hk | hk
        · have := may_deps (hok.may k hk); simp only; omega
        · rw [hk]; simp only; omega
      rw [hN] at hres ⊢
      simp -implicitDefEqProofs
      refine ACall.intro (c_may13 N .no (by omega) hNd) fun v K9 hv => ?_
      obtain ⟨rfl, l9⟩ := hv
      have lK9 := l7.trans (l8.trans l9)
      have k9g := l9 _ _ (l8 _ _ k7g)
      obtain ⟨e, hee⟩ : ∃ e, mayN N = e := ⟨_, rfl⟩
      rw [hee] at hres ⊢
      by_cases h0 : e ≠ 0
      · rw [if_pos h0] at hres
        simp -implicitDefEqProofs [h0]
        subst hQ
        subst hres
        exact AFin.intro _ _ (wk_refl _) (HWk.refl _) (.inl ⟨by simp, r_same h lK9⟩)
      rw [if_neg h0] at hres
      have h00 : e = 0 := by simpa using h0
      obtain ⟨t9, kr9⟩ := h.up lK9
      simp -implicitDefEqProofs [h00, kr9]
      subst hQ
      subst hres
      exact AFin.intro _ _ (wk_refl _) (HWk.refl _) (r_fin (zs := zs) (L := L) (L' := L.set i J) (F := (jbsAV (L.set i J)).flatMap AV.cells ++ zs) rfl (by simp) rfl hgH grb hcap hcm (fun p o hp h1 => by simp [Heap.set, h1, lK9 _ _ hp]) (by simp [Heap.set, grb, k9g]) (by simp [Heap.set]))
    · have hii' : ¬ (ix : Int) = (i : Int) := by omega
      have hc : decide (x.id ≠ w.id) = true := by
        rw [decide_eq_true_eq]
        exact fun e => hii (nodup_idx hid (a := w.id) (by rw [List.getElem?_map, hxw, ← e]; rfl) (by rw [List.getElem?_map, hw]; rfl))
      rw [if_pos hc] at hres
      simp -implicitDefEqProofs [ix0, hii']
      subst hQ
      subst hres
      exact AFin.intro _ _ (wk_refl _) (HWk.refl _) (.inl ⟨by simp, r_same h l5⟩)
  · rw [hix]
    rw [hxf] at hres
    rw [if_neg (by simp)] at hres
    simp -implicitDefEqProofs [kr]
    refine AApp.byC (appC_raw el_27 jobZ1 (.inr rfl) (szs_jbs L) hne (by simp; omega) (by simp [maxLen]; omega)) fun v K hv => ?_
    obtain ⟨g, zs, cap, hg, rfl, rfl, hzl, hcap, hcm⟩ := hv
    rw [hxl] at hcap ⊢
    have g5 : g ≠ b5 := by rintro rfl; rw [k5] at hg; cases hg
    have grb : g ≠ rb := by rintro rfl; rw [kr] at hg; cases hg
    have hgH : H g = none := l5.none hg
    have hxs : (jbsAV L)[i]? = some (jbAV w .no) := by rw [List.getElem?_map, hw]; rfl
    have hc9 : ((jbsAV L).flatMap AV.cells ++ zs)[i * 12 + 9]? = some (.sc (.bool w.pau)) := flat_cell (zs := zs) (k := 9) (szs_jbs L) hxs (by omega)
    have hc10 : ((jbsAV L).flatMap AV.cells ++ zs)[i * 12 + 10]? = some (.sc (.int .u64 (w.ver : Int))) := flat_cell (zs := zs) (k := 10) (szs_jbs L) hxs (by omega)
    have hc11 : ((jbsAV L).flatMap AV.cells ++ zs)[i * 12 + 11]? = some (.sc (.int .i64 w.seen)) := flat_cell (zs := zs) (k := 11) (szs_jbs L) hxs (by omega)
    have hfit := flat_fits (zs := zs) (szs_jbs L) (show i < (jbsAV L).length by omega)
    obtain ⟨V1, hV1⟩ : ∃ V, w.ver + 1 = V := ⟨_, rfl⟩
    have w1 : IntKind.u64.wrap ((w.ver : Int) + 1) = (V1 : Int) := by rw [wrap_u64 (by omega) (by omega)]; omega
    obtain ⟨J, hJ⟩ : ∃ J : Jb, { j with id := w.id, pau := w.pau, seen := w.seen, ver := V1 } = J := ⟨_, rfl⟩
    have hJc : chgJ w j = J := by rw [← hJ, ← hV1]
    rw [hJc, ← put_set hid hw] at hres
    have hJd : J.deps.length ≤ 8 := by rw [← hJ]; exact hj8
    have hJC : jbC J .no = [.sc (.int .u64 (w.id : Int)), str j.name, str j.ex, .sc (.int .i64 j.pol), .sc (.int .i64 j.gr), .sc (.int .i64 j.lim), .sc (.int .i64 j.ret), .sc (.int .i64 j.tim), .sl (nuAV j.deps) .no, .sc (.bool w.pau), .sc (.int .u64 (V1 : Int)), .sc (.int .i64 w.seen)] := by rw [← hJ]
    have hput := flat_put12 (x := J) (zs := zs) hw
    rw [hJC] at hput
    obtain ⟨F, hF⟩ : ∃ F, (jbsAV L).flatMap AV.cells ++ zs = F := ⟨_, rfl⟩
    rw [hF] at hc9 hc10 hc11 hfit hput ⊢
    simp -implicitDefEqProofs [g5, g5.symm, grb, grb.symm, n5r, n5r.symm, k5, kr, hc9, hc10, hc11, hil, w1, hfit]
    simp only [lset] at hput
    generalize hK7 : Heap.set _ g _ = K7
    have k7g : K7 g = some (.cells ((jbsAV (L.set i J)).flatMap AV.cells ++ zs) 33) := by rw [← hK7, ← hput]; simp [Heap.set]
    have l7 : HLe H K7 := by
      rw [← hK7]
      exact HLe.set_new (HLe.set_new (HLe.set_new l5 hgH) h5) hgH
    clear hK7
    have hrow := c_row15R (H := K7) (L.set i J) (cap := cap) (by rw [List.length_set]; omega) k7g
    rw [List.length_set] at hrow
    refine ACall.intro hrow fun v K8 hv => ?_
    obtain ⟨rfl, l8⟩ := hv
    obtain ⟨N, hN⟩ : ∃ N, ndsOf (L.set i J) = N := ⟨_, rfl⟩
    have hNl : N.length = L.length := by rw [← hN]; simp
    have hNd : ∀ n ∈ N, n.2.length ≤ 1000000 := fun n hn => by
      rw [← hN] at hn
      obtain ⟨k, hk, rfl⟩ := List.mem_map.1 hn
      rcases List.mem_or_eq_of_mem_set hk with hk | hk
      · have := may_deps (hok.may k hk); simp only; omega
      · rw [hk]; simp only; omega
    rw [hN] at hres ⊢
    simp -implicitDefEqProofs
    refine ACall.intro (c_may13 N .no (by omega) hNd) fun v K9 hv => ?_
    obtain ⟨rfl, l9⟩ := hv
    have lK9 := l7.trans (l8.trans l9)
    have k9g := l9 _ _ (l8 _ _ k7g)
    obtain ⟨e, hee⟩ : ∃ e, mayN N = e := ⟨_, rfl⟩
    rw [hee] at hres ⊢
    by_cases h0 : e ≠ 0
    · rw [if_pos h0] at hres
      simp -implicitDefEqProofs [h0]
      subst hQ
      subst hres
      exact AFin.intro _ _ (wk_refl _) (HWk.refl _) (.inl ⟨by simp, r_same h lK9⟩)
    rw [if_neg h0] at hres
    have h00 : e = 0 := by simpa using h0
    obtain ⟨t9, kr9⟩ := h.up lK9
    simp -implicitDefEqProofs [h00, kr9]
    subst hQ
    subst hres
    exact AFin.intro _ _ (wk_refl _) (HWk.refl _) (r_fin (zs := zs) (L := L) (L' := L.set i J) (F := (jbsAV (L.set i J)).flatMap AV.cells ++ zs) rfl (by simp) rfl hgH grb hcap hcm (fun p o hp h1 => by simp [Heap.set, h1, lK9 _ _ hp]) (by simp [Heap.set, grb, k9g]) (by simp [Heap.set]))
end Go.Proofs.YtlhgpodfhdddkaaGreatDoor
namespace Go.Proofs.YtlhgpodfhdddkaaGreatDoor
open Rg Go Go.RowKit
variable {H : Heap}
theorem idx_ge {p : Jb → Bool} {L : List Jb} : (0 : Int) ≤ idxJ p L 0 ↔ (L.find? p).isSome = true := by
  rcases idxJ_spec p L 0 with ⟨i, w, h1, _, h3⟩ | ⟨h1, h2⟩
  · rw [h1, h3]; simp
  · rw [h1, h2]; simp
set_option maxHeartbeats 4000000 in
theorem c_rAdd {rb last n : Nat} {L : List Jb} (h : RefAt rb L last H) (hok : TbOk ⟨L, last⟩ n) (hn : n ≤ 1000) (j : Jb) (hx : j.ex.length ≤ 9223372036854775807) :
    ACalls Tryz.prog 9 [ptr rb, jbAV j .no] H (fun v K => v = .tup [.sc (.int .u64 ((addT ⟨L, last⟩ j).1 : Int)), .sc (.int .i64 (addT ⟨L, last⟩ j).2.1)] ∧ RAfter rb (addT ⟨L, last⟩ j).2.2 H K) := by
  obtain ⟨res, hres⟩ : ∃ r, addT ⟨L, last⟩ j = r := ⟨_, rfl⟩
  rw [hres]
  unfold addT at hres
  have hLl : L.length ≤ 32 := hok.len
  have hll : last ≤ n := hok.lst
  generalize hQ : (fun (v : AV) (K : Heap) => v = .tup [.sc (.int .u64 (res.1 : Int)), .sc (.int .i64 res.2.1)] ∧ RAfter rb res.2.2 H K) = Q
  refine ACalls.into Tryz.func9 rfl Tryz.ntmps9 Tryz.results9 (by simp) ?_
  simp -implicitDefEqProofs [AV.cells]
  refine AAlloc.intro fun b3 h3 => ?_
  have n3r : b3 ≠ rb := by obtain ⟨t, kr⟩ := h; rintro rfl; rw [kr] at h3; cases h3
  simp -implicitDefEqProofs
  generalize hK3 : Heap.set H b3 _ = K3
  have l3 : HLe H K3 := by rw [← hK3]; exact HLe.set_fresh h3
  have k3 : K3 b3 = some (.cells (jbC j .no) 33) := by rw [← hK3]; simp [Heap.set]
  clear hK3
  have h' := h.up l3
  refine ACall.eq (c_ref14May j .no hx) ?_
  by_cases hm : mayJ j ≠ 0
  · rw [if_pos hm] at hres
    simp -implicitDefEqProofs [hm]
    subst hQ
    subst hres
    exact AFin.intro _ _ (wk_refl _) (HWk.refl _) ⟨by simp, r_same h l3⟩
  rw [if_neg hm] at hres
  have hm0 : mayJ j = 0 := by simpa using hm
  have hj8 := may_deps hm0
  simp -implicitDefEqProofs [hm0, k3]
  refine ACall.eq (c_rNamed h' (by omega) j.name) ?_
  by_cases hnm : (namedT ⟨L, last⟩ j.name).isSome = true
  · have hix : (0 : Int) ≤ idxJ (fun k => decide (k.name = j.name)) L 0 := idx_ge.2 hnm
    rw [if_pos hnm] at hres
    simp -implicitDefEqProofs [hix]
    subst hQ
    subst hres
    exact AFin.intro _ _ (wk_refl _) (HWk.refl _) ⟨by simp, r_same h l3⟩
  have hix : ¬ (0 : Int) ≤ idxJ (fun k => decide (k.name = j.name)) L 0 := fun h => hnm (idx_ge.1 h)
  rw [if_neg hnm] at hres
  obtain ⟨t, kr⟩ := h'
  by_cases h32 : 32 ≤ L.length
  · have h32' : 32 ≤ (L.length : Int) := by omega
    rw [if_pos h32] at hres
    simp -implicitDefEqProofs [hix, kr, h32, h32']
    subst hQ
    subst hres
    exact AFin.intro _ _ (wk_refl _) (HWk.refl _) ⟨by simp, r_same h l3⟩
  have h32' : ¬ 32 ≤ (L.length : Int) := by omega
  rw [if_neg h32] at hres
  unfold newJ at hres
  simp only at hres
  obtain ⟨L1, hL1⟩ : ∃ L1, last + 1 = L1 := ⟨_, rfl⟩
  rw [hL1] at hres
  have w1 : IntKind.u64.wrap ((last : Int) + 1) = (L1 : Int) := by rw [wrap_u64 (by omega) (by omega)]; omega
  obtain ⟨J, hJ⟩ : ∃ J : Jb, { j with id := L1, ver := 1 } = J := ⟨_, rfl⟩
  rw [hJ] at hres
  have hJd : J.deps.length ≤ 8 := by rw [← hJ]; exact hj8
  have hJC : jbC J .no = [.sc (.int .u64 (L1 : Int)), str j.name, str j.ex, .sc (.int .i64 j.pol), .sc (.int .i64 j.gr), .sc (.int .i64 j.lim), .sc (.int .i64 j.ret), .sc (.int .i64 j.tim), .sl (nuAV j.deps) .no, .sc (.bool j.pau), .sc (.int .u64 1), .sc (.int .i64 j.seen)] := by rw [← hJ]; rfl
  simp -implicitDefEqProofs [hix, kr, h32, h32', k3, n3r, n3r.symm, w1]
  generalize hK7 : Heap.set K3 b3 _ = K7
  have k73 : K7 b3 = some (.cells (jbC J .no) 33) := by rw [← hK7, hJC]; simp [Heap.set]
  have l7 : HLe H K7 := by rw [← hK7]; exact HLe.set_new l3 h3
  have k7r : K7 rb = some (.cells [.sl (jbsAV L) t, .sc (.int .u64 (last : Int))] 30) := by rw [← hK7]; simp [Heap.set, n3r.symm, kr]
  clear hK7
  refine go_draw2 10 [0, 1, 2, 3, 4, 6, 7] [5, 8, 9] K7 f_mixed (by decide +kernel) (HC.refl _) ?_
  simp -implicitDefEqProofs [k7r, k73]
  refine aes_growsF el_27 (GrowsF.zero (H0 := K7)) (by simp) (szs_jbs L) (by simp; omega) (by simp [maxLen]; omega) fun t1 G1 hg1 => ?_
  rw [List.nil_append] at hg1 ⊢
  have hxl : (jbsAV L).length = L.length := List.length_map _
  have hd : jbsAV L ++ [jbAV J .no] = jbsAV (L ++ [J]) := by simp
  have hsz := szs_jbs L
  obtain ⟨xs, hxs⟩ : ∃ xs, jbsAV L = xs := ⟨_, rfl⟩
  rw [hxs] at hg1 hxl hd hsz ⊢
  simp -implicitDefEqProofs
  refine aes_growsF el_27 hg1 hsz (by simp [szs, AV.cells]) (by simp; omega) (by simp [maxLen]; omega) fun t2 G2 hg2 => ?_
  rw [hd] at hg2 ⊢
  have lG := hg2.le
  have k3G := lG _ _ k73
  have krG := lG _ _ k7r
  have lHG := l7.trans lG
  obtain ⟨L', hL'⟩ : ∃ L', L ++ [J] = L' := ⟨_, rfl⟩
  have hLl' : L'.length = L.length + 1 := by rw [← hL']; simp
  rw [hL'] at hres ⊢
  simp -implicitDefEqProofs
  refine ACall.intro (c_row15 L' t2 (by omega)) fun v K8 hv => ?_
  obtain ⟨rfl, l8⟩ := hv
  obtain ⟨N, hN⟩ : ∃ N, ndsOf L' = N := ⟨_, rfl⟩
  have hNl : N.length = L'.length := by rw [← hN]; simp
  have hNd : ∀ n ∈ N, n.2.length ≤ 1000000 := fun n hn => by
    rw [← hN, ← hL'] at hn
    obtain ⟨k, hk, rfl⟩ := List.mem_map.1 hn
    rcases List.mem_append.1 hk with hk | hk
    · have := may_deps (hok.may k hk); simp only; omega
    · rw [List.mem_singleton.1 hk]; simp only; omega
  rw [hN] at hres ⊢
  simp -implicitDefEqProofs
  refine ACall.intro (c_may13 N .no (by omega) hNd) fun v K9 hv => ?_
  obtain ⟨rfl, l9⟩ := hv
  have l89 := l8.trans l9
  have lK9 := lHG.trans l89
  obtain ⟨e, hee⟩ : ∃ e, mayN N = e := ⟨_, rfl⟩
  rw [hee] at hres ⊢
  by_cases h0 : e ≠ 0
  · rw [if_pos h0] at hres
    simp -implicitDefEqProofs [h0]
    subst hQ
    subst hres
    exact AFin.intro _ _ (wk_refl _) (HWk.refl _) ⟨by simp, r_same h lK9⟩
  rw [if_neg h0] at hres
  have h00 : e = 0 := by simpa using h0
  have kr9 := l89 _ _ krG
  have k39 := l89 _ _ k3G
  simp -implicitDefEqProofs [h00, kr9, k39, n3r, n3r.symm, w1, hJC]
  subst hQ
  subst hres
  exact AFin.intro _ _ (wk_refl _) (HWk.refl _) ⟨rfl, ⟨t2, by simp [Heap.set]⟩, (Upd.le lK9).set (.inl rfl)⟩
theorem c_users13 (l : List Nd) (t : Rg.Tok) (x : Nat) (hl : l.length ≤ 64) (hn : (idsN l).Nodup) (hdl : ∀ n ∈ l, n.2.length ≤ 1000000) :
    ACalls Tryz.prog 40 [.sl (ndsAV l) t, .sc (.int .u64 (x : Int))] H (fun v K => ∃ us, v = .sl (nuK us) .no ∧ (us ≠ [] ↔ ∃ n ∈ l, x ∈ n.2) ∧ HLe H K) := by
  generalize hQ : (fun (v : AV) (K : Heap) => ∃ us, v = .sl (nuK us) .no ∧ (us ≠ [] ↔ ∃ n ∈ l, x ∈ n.2) ∧ HLe H K) = Q
  have h64' : ¬ 64 < (l.length : Int) := by omega
  have hsz : ∀ q : List Nat, szs 1 (nuAV q) = true := fun q => by simp [szs, AV.cells]
  refine ACalls.into Tryz.func40 rfl Tryz.ntmps40 Tryz.results40 (by simp) ?_
  simp -implicitDefEqProofs [h64']
  refine AGo.rounds (fun μ ρ K => ∃ (us : List Nat) (tu : Rg.Tok), μ = 65 - us.length ∧ us.Nodup ∧ (∀ a ∈ us, ∃ n ∈ l, n.1 = a ∧ x ∈ n.2) ∧ Gr 28 1 H (nuAV us) tu K ∧ ρ 0 = .sl (ndsAV l) t ∧ ρ 1 = .sc (.int .u64 (x : Int)) ∧ ρ 5 = .sl (nuAV us) tu) ?_ (m := 65) (HLe.refl _)
    ⟨[], .nil, rfl, by simp, by simp, .nil, by simp, by simp, by simp⟩
  rintro μ ρ K ih ⟨us, tu, rfl, hun, hus, hg, r0, r1, r5⟩
  have hul : us.length ≤ 64 := by
    have := nodup_len us (idsN l) hun fun a ha => by
      obtain ⟨n, hn, rfl, _⟩ := hus a ha
      exact List.mem_map_of_mem hn
    rw [ids_len] at this
    omega
  simp -implicitDefEqProofs [r0, r1, r5]
  refine AGo.rounds (fun μ ρ K' => ∃ (i : Nat) (best : Int), μ = l.length - i ∧ i ≤ l.length ∧ ((best = -1 ∧ ∀ n ∈ l.take i, ¬ (x ∈ n.2 ∧ n.1 ∉ us)) ∨ ∃ (k : Nat) (n : Nd), best = (k : Int) ∧ l[k]? = some n ∧ x ∈ n.2 ∧ n.1 ∉ us) ∧ ρ 0 = .sl (ndsAV l) t ∧ ρ 1 = .sc (.int .u64 (x : Int)) ∧ ρ 5 = .sl (nuAV us) tu ∧ ρ 6 = .sc (.int .i64 best) ∧ ρ 7 = .sc (.int .i64 (i : Int)) ∧ K' = K) ?_ (m := l.length) (HLe.refl _)
    ⟨0, -1, rfl, by omega, .inl ⟨rfl, by simp⟩, by simp [r0], by simp [r1], by simp [r5], by simp, by simp, rfl⟩
  clear r0 r1 r5
  rintro μ ρ K' ih2 ⟨i, best, rfl, hi, hb, r0, r1, r5, r6, r7, rfl⟩
  by_cases hlt : i < l.length
  · have hlt' : (i : Int) < (l.length : Int) := by omega
    obtain ⟨y, hyj, hy⟩ := getAt hlt
    have hyl := List.mem_of_getElem? hy
    have hyd := hdl y hyl
    have w1 : IntKind.i64.wrap ((i : Int) + 1) = ((i + 1 : Nat) : Int) := by rw [wrap_i64 (by omega) (by omega)]; omega
    have keep : ¬ (x ∈ y.2 ∧ y.1 ∉ us) → ((best = -1 ∧ ∀ n ∈ l.take (i + 1), ¬ (x ∈ n.2 ∧ n.1 ∉ us)) ∨ ∃ (k : Nat) (n : Nd), best = (k : Int) ∧ l[k]? = some n ∧ x ∈ n.2 ∧ n.1 ∉ us) := fun hno => hb.imp (fun ⟨e, h⟩ => ⟨e, fun n hn => by
      rw [List.take_add_one, hy] at hn
      rcases List.mem_append.1 hn with hn | hn
      · exact h n hn
      · simp at hn; rw [hn]; exact hno⟩) id
    simp -implicitDefEqProofs [r0, r1, r5, r6, r7, hlt, hlt']
    refine go_draw 34 f_mixed (by decide +kernel) ?_
    simp -implicitDefEqProofs [r0, r1, r5, r6, r7, hlt, hlt', hyj]
    refine AQS.eq (c_has13 y.2 .no x (by omega)) ?_
    by_cases hx : x ∈ y.2
    · simp -implicitDefEqProofs [hx, r0, r5, r7, hlt, hyj]
      refine AQS.eq (c_has13 us tu y.1 (by omega)) ?_
      by_cases hyu : y.1 ∈ us
      · simp -implicitDefEqProofs [hyu, r0, r5, r6, r7, w1]
        exact AGo.again ih2 (m' := l.length - (i + 1)) (by omega) (HLe.refl _) ⟨i + 1, best, rfl, by omega, keep (fun h => h.2 hyu), by simp [r0], by simp [r1], by simp [r5], by simp [r6], by simp, rfl⟩
      · have hset : ((i : Int) = -1 ∧ ∀ n ∈ l.take (i + 1), ¬ (x ∈ n.2 ∧ n.1 ∉ us)) ∨ ∃ (k : Nat) (n : Nd), (i : Int) = (k : Int) ∧ l[k]? = some n ∧ x ∈ n.2 ∧ n.1 ∉ us := .inr ⟨i, y, rfl, hy, hx, hyu⟩
        rcases hb with ⟨rfl, _⟩ | ⟨k, z, rfl, hz, hzx, hzu⟩
        · simp -implicitDefEqProofs [hyu, r0, r5, r6, r7, w1]
          exact AGo.again ih2 (m' := l.length - (i + 1)) (by omega) (HLe.refl _) ⟨i + 1, (i : Int), rfl, by omega, hset, by simp [r0], by simp [r1], by simp [r5], by simp, by simp, rfl⟩
        · have hkl := (List.getElem?_eq_some_iff.1 hz).1
          have hzj : l[k] = z := (List.getElem?_eq_some_iff.1 hz).2
          have k0 : ¬ (k : Int) < 0 := by omega
          by_cases hlt2 : y.1 < z.1
          · have hlt2' : (y.1 : Int) < (z.1 : Int) := by omega
            simp -implicitDefEqProofs [hyu, r0, r5, r6, r7, w1, k0, hkl, hzj, hlt, hyj, hlt2']
            exact AGo.again ih2 (m' := l.length - (i + 1)) (by omega) (HLe.refl _) ⟨i + 1, (i : Int), rfl, by omega, hset, by simp [r0], by simp [r1], by simp [r5], by simp, by simp, rfl⟩
          · have hlt2' : ¬ (y.1 : Int) < (z.1 : Int) := by omega
            simp -implicitDefEqProofs [hyu, r0, r5, r6, r7, w1, k0, hkl, hzj, hlt, hyj, hlt2']
            exact AGo.again ih2 (m' := l.length - (i + 1)) (by omega) (HLe.refl _) ⟨i + 1, (k : Int), rfl, by omega, .inr ⟨k, z, rfl, hz, hzx, hzu⟩, by simp [r0], by simp [r1], by simp [r5], by simp [r6], by simp, rfl⟩
    · simp -implicitDefEqProofs [hx, r0, r5, r6, r7, w1]
      exact AGo.again ih2 (m' := l.length - (i + 1)) (by omega) (HLe.refl _) ⟨i + 1, best, rfl, by omega, keep (fun h => hx h.1), by simp [r0], by simp [r1], by simp [r5], by simp [r6], by simp, rfl⟩
  · have hlt' : ¬ (i : Int) < (l.length : Int) := by omega
    rcases hb with ⟨rfl, hno⟩ | ⟨k, z, rfl, hz, hzx, hzu⟩
    · rw [List.take_of_length_le (by omega)] at hno
      simp -implicitDefEqProofs [r0, r1, r5, r6, r7, hlt, hlt']
      subst hQ
      refine AFin.intro (.sl (nuK us) .no) _ (by simp [wk]) (HWk.refl _) ⟨us, rfl, ⟨fun h => ?_, fun ⟨n, hn, hxn⟩ h => ?_⟩, hg.le⟩
      · obtain ⟨a, us', rfl⟩ := List.exists_cons_of_ne_nil h
        obtain ⟨n, hn, _, hxn⟩ := hus a (by simp)
        exact ⟨n, hn, hxn⟩
      · subst h
        exact hno n hn ⟨hxn, by simp⟩
    · have hkl := (List.getElem?_eq_some_iff.1 hz).1
      have hzj : l[k] = z := (List.getElem?_eq_some_iff.1 hz).2
      have k0 : ¬ (k : Int) < 0 := by omega
      have hap : nuAV us ++ [(.sc (.int .u64 (z.1 : Int)) : AV)] = nuAV (us ++ [z.1]) := by simp
      simp -implicitDefEqProofs [r0, r1, r5, r6, r7, hlt, hlt', k0, hkl, hzj]
      refine AApp.grE el_31 hg (hsz _) (by simp [szs, AV.cells]) (by simp; omega) (by simp [maxLen]; omega) fun t' Hn hg' => ?_
      rw [hap] at hg' ⊢
      simp -implicitDefEqProofs
      exact AGo.again ih (m' := 65 - (us ++ [z.1]).length) (by simp; omega) (HLe.refl _) ⟨us ++ [z.1], t', rfl, by
        rw [List.nodup_append]
        exact ⟨hun, by simp, fun p hp q hq => by rw [List.mem_singleton.1 hq]; rintro rfl; exact hzu hp⟩, fun a ha => by
        rcases List.mem_append.1 ha with ha | ha
        · exact hus a ha
        · rw [List.mem_singleton.1 ha]; exact ⟨z, List.mem_of_getElem? hz, rfl, hzx⟩, hg', by simp [r0], by simp [r1], by simp⟩
end Go.Proofs.YtlhgpodfhdddkaaGreatDoor
namespace Go.Proofs.YtlhgpodfhdddkaaGreatDoor
open Rg Go Go.RowKit
variable {H : Heap}
theorem cut_filter {L : List Jb} (hk : (L.map fun j => j.id).Nodup) {i : Nat} {w : Jb} (hw : L[i]? = some w) : L.take i ++ L.drop (i + 1) = L.filter fun k => decide (k.id ≠ w.id) := by
  have hsp := erase_split hw
  conv => rhs; rw [hsp]
  rw [hsp] at hk
  rw [List.map_append, List.map_cons, List.nodup_append, List.nodup_cons] at hk
  rw [List.filter_append, List.filter_cons_of_neg (by simp)]
  congr 1
  · rw [List.filter_eq_self.2]
    intro k hk'
    have := hk.2.2 _ (List.mem_map_of_mem hk') w.id (List.mem_cons_self)
    simpa using this
  · rw [List.filter_eq_self.2]
    intro k hk'
    have : k.id ≠ w.id := fun e => hk.2.1.1 (by rw [← e]; exact List.mem_map_of_mem hk')
    simpa using this
set_option maxHeartbeats 4000000 in
theorem c_rRemove {rb last n : Nat} {L : List Jb} (h : RefAt rb L last H) (hok : TbOk ⟨L, last⟩ n) (id : Nat) :
    ACalls Tryz.prog 13 [ptr rb, .sc (.int .u64 (id : Int))] H (fun v K => v = .sc (.int .i64 (removeT ⟨L, last⟩ id).1) ∧ RAfter rb (removeT ⟨L, last⟩ id).2 H K) := by
  obtain ⟨res, hres⟩ : ∃ r, removeT ⟨L, last⟩ id = r := ⟨_, rfl⟩
  rw [hres]
  unfold removeT foundT at hres
  simp only at hres
  have hLl : L.length ≤ 32 := hok.len
  have hid := ids_nodup hok.asc
  simp only at hid
  have hpl := c_rPlace h (by omega) id
  generalize hQ : (fun (v : AV) (K : Heap) => v = .sc (.int .i64 res.1) ∧ RAfter rb res.2 H K) = Q
  refine ACalls.into Tryz.func13 rfl Tryz.ntmps13 Tryz.results13 (by simp) ?_
  simp -implicitDefEqProofs
  refine ACall.eq hpl ?_
  obtain ⟨t, kr⟩ := h
  rcases idxJ_spec (fun j => decide (j.id = id)) L 0 with ⟨i, w, hi, hw, hf⟩ | ⟨hi, hf⟩
  · rw [hi, Nat.zero_add]
    rw [hf] at hres
    simp only at hres
    have hwi : w.id = id := by simpa using List.find?_some hf
    subst hwi
    have hil := (List.getElem?_eq_some_iff.1 hw).1
    have i0 : ¬ (i : Int) < 0 := by omega
    simp -implicitDefEqProofs [i0, kr]
    refine ACall.intro (c_row15 L t (by omega)) fun v K1 hv => ?_
    obtain ⟨rfl, l1⟩ := hv
    obtain ⟨N, hN⟩ : ∃ N, ndsOf L = N := ⟨_, rfl⟩
    have hNl : N.length = L.length := by rw [← hN]; simp
    have hNd : ∀ n ∈ N, n.2.length ≤ 1000000 := fun n hn => by
      rw [← hN] at hn
      obtain ⟨k, hk, rfl⟩ := List.mem_map.1 hn
      have := may_deps (hok.may k hk)
      simp only
      omega
    have hNn : (idsN N).Nodup := by
      rw [← hN]
      unfold idsN ndsOf
      rw [List.map_map]
      exact hid
    have hNe : (∃ n ∈ N, w.id ∈ n.2) ↔ ∃ k ∈ L, w.id ∈ k.deps := by
      rw [← hN]
      constructor
      · rintro ⟨n, hn, hx⟩
        obtain ⟨k, hk, rfl⟩ := List.mem_map.1 hn
        exact ⟨k, hk, hx⟩
      · rintro ⟨k, hk, hx⟩
        exact ⟨ndOf k, List.mem_map_of_mem hk, hx⟩
    rw [hN]
    simp -implicitDefEqProofs
    refine ACall.intro (c_users13 N .no w.id (by omega) hNn hNd) fun v K2 hv => ?_
    obtain ⟨us, rfl, hus, l2⟩ := hv
    rw [hNe] at hus
    have lK := l1.trans l2
    have kr2 := lK _ _ kr
    by_cases hu0 : us = []
    · rw [if_neg (fun h => hus.2 h hu0)] at hres
      subst hu0
      rw [← cut_filter hid hw] at hres
      have w1 : IntKind.i64.wrap ((i : Int) + 1) = ((i + 1 : Nat) : Int) := by rw [wrap_i64 (by omega) (by omega)]; omega
      have hle : i ≤ L.length := by omega
      have hle' : (i : Int) ≤ (L.length : Int) := by omega
      have hle1 : i + 1 ≤ L.length := by omega
      have hle1' : (i : Int) + 1 ≤ (L.length : Int) := by omega
      simp -implicitDefEqProofs
      have p0 : (0 : Int) ≤ (i : Int) + 1 := by omega
      refine go_draw2 19 [0, 1, 2, 3, 4, 5, 6, 7, 9, 10, 11, 12, 13, 14, 15] [8, 16, 17, 18] K2 f_mixed (by decide +kernel) (HC.refl _) ?_
      simp -implicitDefEqProofs [kr2, w1, hle, hle', hle1, hle1', szs_jbs, p0]
      have hjoin : (jbsAV L).take i ++ (jbsAV L).drop (i + 1) = jbsAV (L.take i ++ L.drop (i + 1)) := by
        rw [jbsAV, ← List.map_take, ← List.map_drop, ← List.map_append]
      have hs1 : szs 12 ((jbsAV L).take i) = true := szs_take (szs_jbs L) i
      have hs2 : szs 12 ((jbsAV L).drop (i + 1)) = true := by rw [jbsAV, ← List.map_drop]; exact szs_jbs _
      have hl1 : ((jbsAV L).take i).length ≤ 32 := by rw [List.length_take]; omega
      have hl2 : ((jbsAV L).drop (i + 1)).length ≤ 32 := by rw [List.length_drop, List.length_map]; omega
      obtain ⟨X1, hX1⟩ : ∃ X, (jbsAV L).take i = X := ⟨_, rfl⟩
      obtain ⟨X2, hX2⟩ : ∃ X, (jbsAV L).drop (i + 1) = X := ⟨_, rfl⟩
      rw [show List.drop (i + 1) (List.map (fun j => jbAV j Rg.Tok.no) L) = X2 from hX2, hX1]
      rw [hX1, hX2] at hjoin
      rw [hX1] at hs1 hl1
      rw [hX2] at hs2 hl2
      refine aes_growsF el_27 (GrowsF.zero (H0 := K2)) (by simp) hs1 (by simp; omega) (by simp [maxLen]; omega) fun t1 G1 hg1 => ?_
      rw [List.nil_append] at hg1 ⊢
      simp -implicitDefEqProofs
      refine aes_growsF el_27 hg1 hs1 hs2 (by omega) (by simp [maxLen]; omega) fun t2 G2 hg2 => ?_
      rw [hjoin] at hg2 ⊢
      have lG := lK.trans hg2.le
      have krG := hg2.le _ _ kr2
      obtain ⟨L', hL'⟩ : ∃ L', L.take i ++ L.drop (i + 1) = L' := ⟨_, rfl⟩
      rw [hL'] at hres ⊢
      simp -implicitDefEqProofs [krG]
      subst hQ
      subst hres
      exact AFin.intro _ _ (wk_refl _) (HWk.refl _) ⟨rfl, ⟨t2, by simp [Heap.set]⟩, (Upd.le lG).set (.inl rfl)⟩
    · have hul := List.length_pos_iff.2 hu0
      have hul' : 0 < (us.length : Int) := by omega
      rw [if_pos (hus.1 hu0)] at hres
      simp -implicitDefEqProofs [hul, hul', hu0]
      subst hQ
      subst hres
      exact AFin.intro _ _ (wk_refl _) (HWk.refl _) ⟨rfl, r_same ⟨t, kr⟩ lK⟩
  · rw [hi]
    rw [hf] at hres
    simp -implicitDefEqProofs
    subst hQ
    subst hres
    exact AFin.intro _ _ (wk_refl _) (HWk.refl _) ⟨rfl, r_same ⟨t, kr⟩ (HLe.refl _)⟩
end Go.Proofs.YtlhgpodfhdddkaaGreatDoor
namespace Go.Proofs.YtlhgpodfhdddkaaGreatDoor
open Rg Go Go.RowKit
variable {H : Heap}
theorem AGo.join {P : Program} {n : Nat} {Q : Post} {ρ : Nat → AV} {k : List AItem} {i : AItem} (J : (Nat → AV) → Heap → Prop) (h : ∀ k' : List AItem, (∀ ρ' H', J ρ' H' → AGo P n Q k' ρ' H') → AGo P n Q (i :: k') ρ H)
    (hk : ∀ ρ' H', J ρ' H' → AGo P n Q k ρ' H') : AGo P n Q (i :: k) ρ H := h k hk
theorem ans_eq (w : Option Jb) : ansJ w = .tup [jbAV (w.getD jbZ) .no, .sc (.bool w.isSome)] := by cases w <;> rfl
end Go.Proofs.YtlhgpodfhdddkaaGreatDoor
namespace Rg
theorem ACalls.forget {P : Go.Program} {f : Go.FuncId} {args : List AV} {H : Heap} {v0 : AV} (h : ACalls P f args H (fun v K => v = v0 ∧ HLe H K)) : AOk P f args H v0 H := by
  intro W0 C w vs hi ha
  refine (h W0 C w vs hi ha).mono fun e1 w1 ⟨r, H', C', u, he1, ⟨h1, h2⟩, hC, hrel, hI⟩ => ?_
  exact ⟨r, H, C', u, he1, ⟨h1, rfl⟩, hC, hrel, hI.weaken h2⟩
end Rg
namespace Go.Proofs.YtlhgpodfhdddkaaGreatDoor
open Rg Go Go.RowKit
variable {H : Heap}
set_option maxHeartbeats 4000000 in
theorem c_alike {b m ck last rb n : Nat} {R : List (Jb × Nat)} {L : List Jb} (h : TabAt b m ck R last H) (hRL : R.map (fun r => r.1) = L) (hr : RefAt rb L last H) (hok : TbOk ⟨L, last⟩ n) (id : Nat) (nm : List UInt8) :
    ACalls Tryz.prog 19 [ptr b, ptr rb, .sc (.int .u64 (id : Int)), str nm] H (fun v K => v = .sc (.bool true) ∧ HLe H K) := by
  generalize hQ : (fun (v : AV) (K : Heap) => v = .sc (.bool true) ∧ HLe H K) = Q
  have hLl : L.length ≤ 32 := hok.len
  have hokR : TbOk (tbOf R last) n := by rw [tbOf, hRL]; exact hok
  have hRl := len_of hokR
  have hdl := deps_of hokR
  have hdL : ∀ j ∈ L, j.deps.length ≤ 1000000 := fun j hj => by have := may_deps (hok.may j hj); omega
  refine ACalls.into Tryz.func19 rfl Tryz.ntmps19 Tryz.results19 (by simp) ?_
  simp -implicitDefEqProofs
  refine ACall.intro (c_tFind h hdl id) fun v K1 hv => ?_
  obtain ⟨rfl, l1⟩ := hv
  rw [show tbOf R last = ⟨L, last⟩ by rw [tbOf, hRL], ans_eq]
  obtain ⟨w, hw⟩ : ∃ w, foundT ⟨L, last⟩ id = w := ⟨_, rfl⟩
  rw [hw]
  simp -implicitDefEqProofs [AV.cells]
  refine AAlloc.intro fun b9 h9 => ?_
  simp -implicitDefEqProofs
  generalize hK2 : Heap.set K1 b9 _ = K2
  have l12 : HLe K1 K2 := by rw [← hK2]; exact HLe.set_fresh h9
  have k9 : K2 b9 = some (.cells (jbC (w.getD jbZ) .no) 33) := by rw [← hK2]; simp [Heap.set]
  clear hK2
  have l2 := l1.trans l12
  refine ACall.intro (c_tNamed (h.up l2) hdl (nams_of R hokR) nm) fun v K3 hv => ?_
  obtain ⟨rfl, l3⟩ := hv
  rw [show tbOf R last = ⟨L, last⟩ by rw [tbOf, hRL], ans_eq]
  obtain ⟨x, hx⟩ : ∃ x, namedT ⟨L, last⟩ nm = x := ⟨_, rfl⟩
  rw [hx]
  have k9 := l3 _ _ k9
  simp -implicitDefEqProofs [AV.cells]
  refine AAlloc.intro fun b11 h11 => ?_
  have n911 : b9 ≠ b11 := by rintro rfl; rw [k9] at h11; cases h11
  simp -implicitDefEqProofs
  generalize hK4 : Heap.set K3 b11 _ = K4
  have l34 : HLe K3 K4 := by rw [← hK4]; exact HLe.set_fresh h11
  have k11 : K4 b11 = some (.cells (jbC (x.getD jbZ) .no) 33) := by rw [← hK4]; simp [Heap.set]
  clear hK4
  have k9 := l34 _ _ k9
  have l4 := l2.trans (l3.trans l34)
  have h4 := h.up l4
  have hr4 := hr.up l4
  refine ACall.eq (c_rPlace hr4 (by omega) id) ?_
  obtain ⟨t, kr⟩ := hr4
  have qList := (c_tList h4 hdl hokR.asc (by omega)).forget
  rw [hRL] at qList
  have qNodes := (c_tNodes h4 hdl hokR.asc (by omega)).forget
  rw [hRL] at qNodes
  have qLast := c_tLast h4
  obtain ⟨N, hN⟩ : ∃ N, ndsOf L = N := ⟨_, rfl⟩
  have hNl : N.length = L.length := by rw [← hN]; simp
  have hNl' : (N.length : Int) = (L.length : Int) := by omega
  rw [hN] at qNodes
  have qJobs := c_ref15Jobs (H := K4) L L .no t (by omega) hdL
  rw [show sameJs L L = true from sameJs_iff.2 rfl] at qJobs
  have inj : ∀ (L : List Jb), (L.map fun j => j.name).Nodup → ∀ x ∈ L, ∀ y ∈ L, x.name = y.name → x = y := by
    intro L
    induction L with
    | nil => intro _ x hx; cases hx
    | cons a L ih =>
      intro hn x hx y hy e
      rw [List.map_cons, List.nodup_cons] at hn
      rcases List.mem_cons.1 hx with h1 | h1
      · rcases List.mem_cons.1 hy with h2 | h2
        · rw [h1, h2]
        · exact absurd (by rw [← h1, e]; exact List.mem_map_of_mem h2) hn.1
      · rcases List.mem_cons.1 hy with h2 | h2
        · exact absurd (by rw [← h2, ← e]; exact List.mem_map_of_mem h1) hn.1
        · exact ih hn.2 x h1 y h2 e
  unfold foundT at hw
  unfold namedT at hx
  simp only at hw hx
  rcases idxJ_spec (fun j => decide (j.id = id)) L 0 with ⟨i, w1, hi, hw1, hf⟩ | ⟨hi, hf⟩
  · rw [hi, Nat.zero_add]
    rw [hf] at hw
    subst hw
    have hil := (List.getElem?_eq_some_iff.1 hw1).1
    have hij := (List.getElem?_eq_some_iff.1 hw1).2
    have i0 : 0 ≤ (i : Int) := by omega
    have qSame := c_ref14Same (H := K4) w1 w1 .no .no (by have := hdL w1 (List.mem_of_getElem? hw1); omega)
    rw [show sameJ w1 w1 = true from sameJ_iff.2 rfl] at qSame
    simp only [Option.getD_some] at k9
    simp -implicitDefEqProofs
    first | refine go_draw 49 f_mixed (by decide +kernel) ?_ | refine go_draw 28 f_mixed (by decide +kernel) ?_
    simp -implicitDefEqProofs [i0, k9, kr, hil, hij]
    refine AQS.eq qSame ?_
    simp -implicitDefEqProofs [i0, kr]
    refine AQS.eq qLast ?_
    simp -implicitDefEqProofs [kr]
    refine AQS.eq qList ?_
    simp -implicitDefEqProofs [kr]
    refine AQS.eq qJobs ?_
    simp -implicitDefEqProofs
    refine AQS.eq qNodes ?_
    simp -implicitDefEqProofs [kr, hNl, hNl']
    refine AGo.rounds (fun μ ρ K => ∃ (i : Nat) (th : Bool), μ = L.length - i ∧ i ≤ L.length ∧ (th = true ↔ ∃ q ∈ L.take i, q.name = nm) ∧ ρ 1 = ptr rb ∧ ρ 3 = str nm ∧ ρ 11 = ptr b11 ∧ ρ 12 = .sc (.bool x.isSome) ∧ ρ 14 = .sc (.bool th) ∧ ρ 15 = .sc (.int .i64 (i : Int)) ∧ K = K4) ?_ (m := L.length) (HLe.refl _)
      ⟨0, false, rfl, by omega, by simp, by simp, by simp, by simp, by simp, by simp, by simp, rfl⟩
    rintro μ ρ K ih ⟨i, th, rfl, hi2, hth, r1, r3, r11, r12, r14, r15, rfl⟩
    by_cases hlt : i < L.length
    · have hlt' : (i : Int) < (L.length : Int) := by omega
      obtain ⟨y, hyj, hy⟩ := getAt hlt
      have hyl := List.mem_of_getElem? hy
      have w9 : IntKind.i64.wrap ((i : Int) + 1) = ((i + 1 : Nat) : Int) := by rw [wrap_i64 (by omega) (by omega)]; omega
      have hnx : (∃ q ∈ L.take (i + 1), q.name = nm) ↔ (∃ q ∈ L.take i, q.name = nm) ∨ y.name = nm := by
        rw [List.take_add_one, hy]
        simp only [Option.toList_some, List.mem_append, List.mem_singleton]
        exact ⟨fun ⟨q, hq, e⟩ => hq.elim (fun h => .inl ⟨q, h, e⟩) (fun h => .inr (by rw [← h]; exact e)), fun h => h.elim (fun ⟨q, hq, e⟩ => ⟨q, .inl hq, e⟩) (fun e => ⟨y, .inr rfl, e⟩)⟩
      by_cases hyn : y.name = nm
      · have hyb : (y.name == nm) = true := by simpa using hyn
        have hxy : x = some y := by
          cases hxx : x with
          | none =>
            rw [hxx] at hx
            have := List.find?_eq_none.1 hx y hyl
            simp [hyn] at this
          | some z =>
            rw [hxx] at hx
            have h1 := List.mem_of_find?_eq_some hx
            have h2 : z.name = nm := by simpa using List.find?_some hx
            rw [inj _ hok.nam z h1 y hyl (by rw [h2, hyn])]
        rw [hxy] at k11 r12
        simp only [Option.getD_some] at k11
        have qSame2 := c_ref14Same (H := K) y y .no .no (hdL y hyl)
        rw [show sameJ y y = true from sameJ_iff.2 rfl] at qSame2
        cases th with
        | true =>
          simp -implicitDefEqProofs [r1, r3, r11, r12, r14, r15, kr, hlt, hlt', hyj]
          first | refine go_draw 49 f_mixed (by decide +kernel) ?_ | refine go_draw 28 f_mixed (by decide +kernel) ?_
          simp -implicitDefEqProofs [r1, r3, r11, r12, r14, r15, kr, hlt, hlt', hyj, hyb, hyn, w9]
          exact AGo.again ih (m' := L.length - (i + 1)) (by omega) (HLe.refl _) ⟨i + 1, true, rfl, by omega, by rw [hnx]; simp [hyn], by simp [r1], by simp [r3], by simp [r11], by simp [r12, hxy], by simp, by simp, rfl⟩
        | false =>
          simp -implicitDefEqProofs [r1, r3, r11, r12, r14, r15, kr, hlt, hlt', hyj]
          first | refine go_draw 49 f_mixed (by decide +kernel) ?_ | refine go_draw 28 f_mixed (by decide +kernel) ?_
          simp -implicitDefEqProofs [r1, r3, r11, r12, r14, r15, kr, hlt, hlt', hyj, hyb, k11]
          refine AQS.eq qSame2 ?_
          simp -implicitDefEqProofs [r1, r3, r11, r12, r14, r15, kr, hlt, hlt', hyj, hyb, hyn, w9]
          exact AGo.again ih (m' := L.length - (i + 1)) (by omega) (HLe.refl _) ⟨i + 1, true, rfl, by omega, by rw [hnx]; simp [hyn], by simp [r1], by simp [r3], by simp [r11], by simp [r12, hxy], by simp, by simp, rfl⟩
      · have hyb : (y.name == nm) = false := by simpa using hyn
        cases th with
        | true =>
          simp -implicitDefEqProofs [r1, r3, r11, r12, r14, r15, kr, hlt, hlt', hyj]
          first | refine go_draw 49 f_mixed (by decide +kernel) ?_ | refine go_draw 28 f_mixed (by decide +kernel) ?_
          simp -implicitDefEqProofs [r1, r3, r11, r12, r14, r15, kr, hlt, hlt', hyj, hyb, hyn, w9]
          exact AGo.again ih (m' := L.length - (i + 1)) (by omega) (HLe.refl _) ⟨i + 1, true, rfl, by omega, by rw [hnx]; exact ⟨fun _ => .inl (hth.1 rfl), fun _ => rfl⟩, by simp [r1], by simp [r3], by simp [r11], by simp [r12], by simp, by simp, rfl⟩
        | false =>
          simp -implicitDefEqProofs [r1, r3, r11, r12, r14, r15, kr, hlt, hlt', hyj]
          first | refine go_draw 49 f_mixed (by decide +kernel) ?_ | refine go_draw 28 f_mixed (by decide +kernel) ?_
          simp -implicitDefEqProofs [r1, r3, r11, r12, r14, r15, kr, hlt, hlt', hyj, hyb, hyn, w9]
          exact AGo.again ih (m' := L.length - (i + 1)) (by omega) (HLe.refl _) ⟨i + 1, false, rfl, by omega, by rw [hnx]; exact ⟨fun h => (by cases h), fun h => h.elim (fun h => hth.2 h) (fun h => absurd h hyn)⟩, by simp [r1], by simp [r3], by simp [r11], by simp [r12], by simp, by simp, rfl⟩
    · have hlt' : ¬ (i : Int) < (L.length : Int) := by omega
      rw [List.take_of_length_le (by omega)] at hth
      have hthx : th = x.isSome := by
        rw [Bool.eq_iff_iff, hth]
        cases hxx : x with
        | none =>
          rw [hxx] at hx
          refine ⟨fun ⟨q, hq, e⟩ => ?_, fun h => by cases h⟩
          have := List.find?_eq_none.1 hx q hq
          simp [e] at this
        | some z =>
          rw [hxx] at hx
          exact ⟨fun _ => rfl, fun _ => ⟨z, List.mem_of_find?_eq_some hx, by simpa using List.find?_some hx⟩⟩
      subst hthx
      simp -implicitDefEqProofs [r1, r3, r11, r12, r14, r15, kr, hlt, hlt']
      subst hQ
      exact AFin.intro _ _ (wk_refl _) (HWk.refl _) ⟨by simp, l4⟩
  · rw [hi]
    rw [hf] at hw
    subst hw
    simp -implicitDefEqProofs
    first | refine go_draw 49 f_mixed (by decide +kernel) ?_ | refine go_draw 28 f_mixed (by decide +kernel) ?_
    simp -implicitDefEqProofs [k9, kr]
    refine AQS.eq qLast ?_
    simp -implicitDefEqProofs [kr]
    refine AQS.eq qList ?_
    simp -implicitDefEqProofs [kr]
    refine AQS.eq qJobs ?_
    simp -implicitDefEqProofs
    refine AQS.eq qNodes ?_
    simp -implicitDefEqProofs [kr, hNl, hNl']
    refine AGo.rounds (fun μ ρ K => ∃ (i : Nat) (th : Bool), μ = L.length - i ∧ i ≤ L.length ∧ (th = true ↔ ∃ q ∈ L.take i, q.name = nm) ∧ ρ 1 = ptr rb ∧ ρ 3 = str nm ∧ ρ 11 = ptr b11 ∧ ρ 12 = .sc (.bool x.isSome) ∧ ρ 14 = .sc (.bool th) ∧ ρ 15 = .sc (.int .i64 (i : Int)) ∧ K = K4) ?_ (m := L.length) (HLe.refl _)
      ⟨0, false, rfl, by omega, by simp, by simp, by simp, by simp, by simp, by simp, by simp, rfl⟩
    rintro μ ρ K ih ⟨i, th, rfl, hi2, hth, r1, r3, r11, r12, r14, r15, rfl⟩
    by_cases hlt : i < L.length
    · have hlt' : (i : Int) < (L.length : Int) := by omega
      obtain ⟨y, hyj, hy⟩ := getAt hlt
      have hyl := List.mem_of_getElem? hy
      have w9 : IntKind.i64.wrap ((i : Int) + 1) = ((i + 1 : Nat) : Int) := by rw [wrap_i64 (by omega) (by omega)]; omega
      have hnx : (∃ q ∈ L.take (i + 1), q.name = nm) ↔ (∃ q ∈ L.take i, q.name = nm) ∨ y.name = nm := by
        rw [List.take_add_one, hy]
        simp only [Option.toList_some, List.mem_append, List.mem_singleton]
        exact ⟨fun ⟨q, hq, e⟩ => hq.elim (fun h => .inl ⟨q, h, e⟩) (fun h => .inr (by rw [← h]; exact e)), fun h => h.elim (fun ⟨q, hq, e⟩ => ⟨q, .inl hq, e⟩) (fun e => ⟨y, .inr rfl, e⟩)⟩
      by_cases hyn : y.name = nm
      · have hyb : (y.name == nm) = true := by simpa using hyn
        have hxy : x = some y := by
          cases hxx : x with
          | none =>
            rw [hxx] at hx
            have := List.find?_eq_none.1 hx y hyl
            simp [hyn] at this
          | some z =>
            rw [hxx] at hx
            have h1 := List.mem_of_find?_eq_some hx
            have h2 : z.name = nm := by simpa using List.find?_some hx
            rw [inj _ hok.nam z h1 y hyl (by rw [h2, hyn])]
        rw [hxy] at k11 r12
        simp only [Option.getD_some] at k11
        have qSame2 := c_ref14Same (H := K) y y .no .no (hdL y hyl)
        rw [show sameJ y y = true from sameJ_iff.2 rfl] at qSame2
        cases th with
        | true =>
          simp -implicitDefEqProofs [r1, r3, r11, r12, r14, r15, kr, hlt, hlt', hyj]
          first | refine go_draw 49 f_mixed (by decide +kernel) ?_ | refine go_draw 28 f_mixed (by decide +kernel) ?_
          simp -implicitDefEqProofs [r1, r3, r11, r12, r14, r15, kr, hlt, hlt', hyj, hyb, hyn, w9]
          exact AGo.again ih (m' := L.length - (i + 1)) (by omega) (HLe.refl _) ⟨i + 1, true, rfl, by omega, by rw [hnx]; simp [hyn], by simp [r1], by simp [r3], by simp [r11], by simp [r12, hxy], by simp, by simp, rfl⟩
        | false =>
          simp -implicitDefEqProofs [r1, r3, r11, r12, r14, r15, kr, hlt, hlt', hyj]
          first | refine go_draw 49 f_mixed (by decide +kernel) ?_ | refine go_draw 28 f_mixed (by decide +kernel) ?_
          simp -implicitDefEqProofs [r1, r3, r11, r12, r14, r15, kr, hlt, hlt', hyj, hyb, k11]
          refine AQS.eq qSame2 ?_
          simp -implicitDefEqProofs [r1, r3, r11, r12, r14, r15, kr, hlt, hlt', hyj, hyb, hyn, w9]
          exact AGo.again ih (m' := L.length - (i + 1)) (by omega) (HLe.refl _) ⟨i + 1, true, rfl, by omega, by rw [hnx]; simp [hyn], by simp [r1], by simp [r3], by simp [r11], by simp [r12, hxy], by simp, by simp, rfl⟩
      · have hyb : (y.name == nm) = false := by simpa using hyn
        cases th with
        | true =>
          simp -implicitDefEqProofs [r1, r3, r11, r12, r14, r15, kr, hlt, hlt', hyj]
          first | refine go_draw 49 f_mixed (by decide +kernel) ?_ | refine go_draw 28 f_mixed (by decide +kernel) ?_
          simp -implicitDefEqProofs [r1, r3, r11, r12, r14, r15, kr, hlt, hlt', hyj, hyb, hyn, w9]
          exact AGo.again ih (m' := L.length - (i + 1)) (by omega) (HLe.refl _) ⟨i + 1, true, rfl, by omega, by rw [hnx]; exact ⟨fun _ => .inl (hth.1 rfl), fun _ => rfl⟩, by simp [r1], by simp [r3], by simp [r11], by simp [r12], by simp, by simp, rfl⟩
        | false =>
          simp -implicitDefEqProofs [r1, r3, r11, r12, r14, r15, kr, hlt, hlt', hyj]
          first | refine go_draw 49 f_mixed (by decide +kernel) ?_ | refine go_draw 28 f_mixed (by decide +kernel) ?_
          simp -implicitDefEqProofs [r1, r3, r11, r12, r14, r15, kr, hlt, hlt', hyj, hyb, hyn, w9]
          exact AGo.again ih (m' := L.length - (i + 1)) (by omega) (HLe.refl _) ⟨i + 1, false, rfl, by omega, by rw [hnx]; exact ⟨fun h => (by cases h), fun h => h.elim (fun h => hth.2 h) (fun h => absurd h hyn)⟩, by simp [r1], by simp [r3], by simp [r11], by simp [r12], by simp, by simp, rfl⟩
    · have hlt' : ¬ (i : Int) < (L.length : Int) := by omega
      rw [List.take_of_length_le (by omega)] at hth
      have hthx : th = x.isSome := by
        rw [Bool.eq_iff_iff, hth]
        cases hxx : x with
        | none =>
          rw [hxx] at hx
          refine ⟨fun ⟨q, hq, e⟩ => ?_, fun h => by cases h⟩
          have := List.find?_eq_none.1 hx q hq
          simp [e] at this
        | some z =>
          rw [hxx] at hx
          exact ⟨fun _ => rfl, fun _ => ⟨z, List.mem_of_find?_eq_some hx, by simpa using List.find?_some hx⟩⟩
      subst hthx
      simp -implicitDefEqProofs [r1, r3, r11, r12, r14, r15, kr, hlt, hlt']
      subst hQ
      exact AFin.intro _ _ (wk_refl _) (HWk.refl _) ⟨by simp, l4⟩
end Go.Proofs.YtlhgpodfhdddkaaGreatDoor
