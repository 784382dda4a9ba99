/- A plan's items, gone over: the rows lie in a row of their own, and go on in place. A plan's items, gone over: each round is told an item and its job. Rows that are the same: what slices.Equal tells. Jobs that are the same. A cell, one of whose places holds a row that grows. A plan's runs. -/
import Derived.Test.YtmoncokklkiikaaGreatDoorP20
import Derived.Test.YtmoncokklkiikaaGreatDoorP15
import Derived.Test.YtmoncokklkiikaaGreatDoorP09
set_option linter.unusedSimpArgs false
set_option linter.unusedVariables false
set_option linter.unnecessarySimpa false
namespace Go.Proofs.YtmoncokklkiikaaGreatDoor
open Rg Go
variable {H : Heap}
theorem rows_split (rs : List PRow) (zs : List AV) {i : Nat} (h : i < rs.length) : (rs.map prAV).flatMap AV.cells ++ zs = ((rs.take i).map prAV).flatMap AV.cells ++ (rowC rs[i] .no ++ (((rs.drop (i + 1)).map prAV).flatMap AV.cells ++ zs)) := by
  conv => lhs; rw [← List.take_append_drop i rs, List.drop_eq_getElem_cons h]
  simp only [List.map_append, List.map_cons, List.flatMap_append, List.flatMap_cons, List.append_assoc]
  rfl
theorem rows_flat (l : List PRow) : ((l.map prAV).flatMap AV.cells).length = l.length * 24 := by
  rw [flat_length (szs_spec (szs_map (f := prAV) (sz := 24) (fun _ => rfl) l)), List.length_map]
theorem row_set (rs : List PRow) (zs : List AV) {i : Nat} (h : i < rs.length) (n : Option Nat) :
    (((rs.map prAV).flatMap AV.cells ++ zs).set (i * 24 + 22) (.sc (.int .i64 (optN n : Nat)))).set (i * 24 + 23) (.sc (.bool n.isNone)) = ((rs.set i (rs[i].next n)).map prAV).flatMap AV.cells ++ zs := by
  have hl : (((rs.take i).map prAV).flatMap AV.cells).length = i * 24 := by rw [rows_flat, List.length_take]; congr 1; omega
  rw [rows_split rs zs h, rows_split (rs.set i (rs[i].next n)) zs (i := i) (by simpa using h), List.set_append_right _ _ (by omega), List.set_append_right _ _ (by omega), hl]
  have e1 : (rs.set i (rs[i].next n)).take i = rs.take i := by rw [List.take_set_of_le (Nat.le_refl i)]
  have e2 : (rs.set i (rs[i].next n)).drop (i + 1) = rs.drop (i + 1) := by rw [List.drop_set_of_lt (by omega)]
  rw [e1, e2, List.getElem_set_self, show i * 24 + 22 - i * 24 = 22 by omega, show i * 24 + 23 - i * 24 = 23 by omega]
  rfl
set_option maxHeartbeats 4000000 in
theorem c_stepsAt {g i : Nat} {r : PRow} {F : List AV} (hG : GlobT H) (hb : H g = some (.cells F 229)) (hrow : (F.drop (i * 24)).take 24 = rowC r .no) (hfit : i * 24 + 24 ≤ F.length) (hr : RowOk r) {a : Nat} (he : r.at_ = (a : Int)) {n : Option Nat} (hn : IsNext r.x a n) :
    AOk Tryz.prog 176 [.sc (.pointer (some ⟨g, i * 24, none⟩))] H (.tup []) (H.set g (.cells ((F.set (i * 24 + 22) (.sc (.int .i64 (optN n : Nat)))).set (i * 24 + 23) (.sc (.bool n.isNone))) 229)) := by
  refine ACalls.into Tryz.func176 rfl Tryz.ntmps176 Tryz.results176 (by simp) ?_
  obtain ⟨a', ha', hlt⟩ := hr.nat
  obtain rfl : a' = a := by omega
  have hA := fun K (h : GlobT K) => c_after h hr.ok hr.may hlt hn
  have hx : (F.drop (i * 24 + 12)).take 10 = exC r.x := by
    have := congrArg (fun l => (l.drop 12).take 10) hrow
    rw [List.drop_take, List.take_take, List.drop_drop] at this
    exact this
  have hat : F[i * 24 + 22]? = some (.sc (.int .i64 (a' : Int))) := by
    have := congrArg (fun l => l[22]?) hrow
    simp only [List.getElem?_take, List.getElem?_drop] at this
    rw [← he]
    simpa using this
  have hf2 : i * 24 + 12 + 10 ≤ F.length := by omega
  have hf3 : i * 24 + 22 < F.length := by omega
  have hf4 : i * 24 + 23 < F.length := by omega
  have hf5 : i * 24 + 22 + 1 ≤ F.length := by omega
  have hf6 : i * 24 + 23 + 1 ≤ F.length := by omega
  simp -implicitDefEqProofs [hb]
  refine go_draw 14 f_mixed (by decide +kernel) ?_
  simp -implicitDefEqProofs [hb, hx, hat, hf2]
  refine AQS.eq (hA _ hG) ?_
  cases n with
  | none =>
    simp -implicitDefEqProofs [outAV, optN, errN, hb, hf3, hf4, hf5, hf6]
  | some u =>
    simp -implicitDefEqProofs [outAV, optN, errN, hb, hf3, hf4, hf5, hf6]
end Go.Proofs.YtmoncokklkiikaaGreatDoor
namespace Go.Proofs.YtmoncokklkiikaaGreatDoor
open Rg Go
variable {H : Heap}
def NotOpen (o : AObj) : Prop := ∀ n cap sz e, o ≠ .open n cap sz e
theorem NotOpen.cells {cs : List AV} {T : TypeId} : NotOpen (.cells cs T) := fun _ _ _ _ h => by cases h
theorem NotOpen.lrec {r : ARec} : NotOpen (.lrec r) := fun _ _ _ _ h => by cases h
theorem NotOpen.dfr : NotOpen .dfr := fun _ _ _ _ h => by cases h
def KeepN (H K K' : Heap) : Prop := ∀ p o, H p = none → K p = some o → NotOpen o → K' p = some o
theorem KeepN.refl {H K : Heap} : KeepN H K K := fun _ _ _ h _ => h
theorem KeepN.of_le {H K K' : Heap} (h : HLe K K') : KeepN H K K' := fun p o _ hp _ => h p _ hp
theorem KeepN.mono {H H' K K' : Heap} (h : KeepN H K K') (hl : HLe H H') : KeepN H' K K' := fun p o hp => h p o (hl.none hp)
def planZ (js : List Jb) (fr tt : Int) : List PIt := if momP fr = true ∧ momP tt = true ∧ fr < tt then planL js fr.toNat tt.toNat else []
theorem c_planFirst0 {b0 b1 : Nat} {tt : Int} (h0 : H b0 = some (.cells [.sc (.slice none 0 0)] 226)) (h1 : H b1 = some (.cells [.sc (.int .i64 tt)] 2)) :
    AOk Tryz.prog 175 [ptr b0, ptr b1] H (.sc (.int .i64 (-1))) H := by
  refine ACalls.into Tryz.func175 rfl Tryz.ntmps175 Tryz.results175 (by simp) ?_
  simp -implicitDefEqProofs [h0]
  refine AGo.rounds (fun μ ρ K => ρ 3 = .sc (.int .i64 (-1)) ∧ ρ 7 = .sc (.int .i64 0) ∧ ρ 8 = .sc (.int .i64 0) ∧ K = H) ?_ (m := 0) (HLe.refl _) ⟨by simp, by simp, by simp, rfl⟩
  rintro μ ρ K ih ⟨r3, r7, r8, rfl⟩
  simp -implicitDefEqProofs [r3, r7, r8]
def RowsAt (H0 : Heap) (rs : List PRow) (A : Option Addr) (cap : Nat) (K : Heap) : Prop :=
  (rs = [] ∧ A = none ∧ cap = 0) ∨ ∃ g zs, H0 g = none ∧ A = some ⟨g, 0, none⟩ ∧ K g = some (.cells ((rs.map prAV).flatMap AV.cells ++ zs) 229) ∧ rs.length ≤ cap
theorem RowsAt.of {H0 : Heap} {rs : List PRow} {A : Option Addr} {cap : Nat} {K : Heap} (h : RawRowZ 24 H0 229 (rs.map prAV) (.sc (.slice A rs.length cap)) K) : RowsAt H0 rs A cap K := by
  rcases h.2 with ⟨h1, h2⟩ | ⟨g, zs, c, h1, h2, h3, _, h4, _⟩
  · simp only [AV.sc.injEq, Value.slice.injEq] at h2
    exact .inl ⟨List.map_eq_nil_iff.1 h1, h2.1, h2.2.2⟩
  · simp only [AV.sc.injEq, Value.slice.injEq] at h2
    obtain ⟨rfl, _, rfl⟩ := h2
    exact .inr ⟨g, zs, h1, rfl, h3, by simpa using h4⟩
theorem RowsAt.le {H0 : Heap} {rs : List PRow} {A : Option Addr} {cap : Nat} {K K' : Heap} (h : RowsAt H0 rs A cap K) (hk : KeepN H0 K K') : RowsAt H0 rs A cap K' :=
  h.imp id fun ⟨g, zs, h1, h2, h3, h4⟩ => ⟨g, zs, h1, h2, hk _ _ h1 h3 .cells, h4⟩
theorem c_planNext {H0 : Heap} {b0 b1 cap : Nat} {rs : List PRow} {A : Option Addr} {tt : Int} (hrs : rs.length ≤ 1000000) (h : RowsAt H0 rs A cap H) (h0 : H b0 = some (.cells [.sc (.slice A rs.length cap)] 226)) (h1 : H b1 = some (.cells [.sc (.int .i64 tt)] 2)) :
    AOk Tryz.prog 175 [ptr b0, ptr b1] H (.sc (.int .i64 (bestI (bestGo rs tt rs.length none)))) H := by
  rcases h with ⟨rfl, rfl, rfl⟩ | ⟨g, zs, _, rfl, h3, h4⟩
  · exact c_planFirst0 h0 h1
  · exact c_planFirst hrs h0 h1 h3 h4
abbrev planItAV (z : PIt) (js : List Jb) : AV := .agg [.sc (.int .i64 (z.1 : Int)), .sc (.int .u64 ((jobOf js z.2).id : Int))]
set_option maxHeartbeats 8000000 in
theorem c_eachIt {l bj bf bt : Nat} {js : List Jb} {fr tt : Int} (hG : Glob H) (hT : GlobT H) (hjs : js.length ≤ 1000000) (hex : ∀ j ∈ js, j.ex.length ≤ 9223372036854775807)
    (J : Nat → Heap → Prop) (Jx : Heap → Prop)
    (hJ : ∀ j K, J j K → GlobT K ∧ K bt = some (.cells [.sc (.int .i64 tt)] 2))
    (hL : ∀ j K K', J j K → HLe K K' → J j K')
    (hS : ∀ j K p o o', J j K → H p = none → K p = some o → NotOpen o → J j (K.set p o'))
    (hY : ∀ (j : Nat) (K : Heap) (z : PIt), (planZ js fr tt)[j]? = some z → J j K →
      ACalls Tryz.prog (Tryz.prog.funcs.size + 1 + l) [planItAV z js, jbAV (jobOf js z.2) .no] K (fun v K' => (v = .sc (.bool true) ∧ J (j + 1) K' ∧ KeepN H K K') ∨ (v = .sc (.bool false) ∧ Jx K')))
    (h0 : J 0 H) (kj : H bj = some (.cells [.sl (js.map fun j => jbAV j .no) .no] 95)) (kf : H bf = some (.cells [.sc (.int .i64 fr)] 2)) :
    ACalls Tryz.prog 173 [.sc (.func (.yield l) #[] #[]), ptr bf, ptr bt, ptr bj] H (fun _ K => J (planZ js fr tt).length K ∨ Jx K) := by
  have kt := (hJ 0 H h0).2
  have hm1 := fun K : Heap => c_planMoment (H := K) fr
  have hm2 := fun K : Heap => c_planMoment (H := K) tt
  obtain ⟨E, hE⟩ : ∃ E, planZ js fr tt = E := ⟨_, rfl⟩
  rw [hE] at hY ⊢
  unfold planZ at hE
  refine ACalls.into Tryz.func173 rfl Tryz.ntmps173 Tryz.results173 (by simp) ?_
  simp -implicitDefEqProofs [kf]
  refine ACall.eq (hm1 _) ?_
  cases h1 : momP fr with
  | false =>
    rw [h1, if_neg (by simp)] at hE
    subst hE
    simp -implicitDefEqProofs
    exact ⟨_, _, wk_refl _, HWk.refl _, .inl h0⟩
  | true =>
  simp -implicitDefEqProofs [kt]
  first | refine ACall.eq (hm2 _) ?_ | refine AQS.eq (hm2 _) ?_
  cases h2 : momP tt with
  | false =>
    rw [h2, if_neg (by simp)] at hE
    subst hE
    simp -implicitDefEqProofs
    exact ⟨_, _, wk_refl _, HWk.refl _, .inl h0⟩
  | true =>
  by_cases h3 : fr < tt
  · rw [if_pos ⟨h1, h2, h3⟩] at hE
    rw [momP_iff] at h1 h2
    obtain ⟨a, rfl⟩ := Int.eq_ofNat_of_zero_le h1.1
    obtain ⟨t, rfl⟩ := Int.eq_ofNat_of_zero_le h2.1
    simp only [Int.toNat_natCast] at hE
    have h3' : ¬ (t : Int) ≤ (a : Int) := by omega
    have ht : t < 13569465600 := by omega
    simp -implicitDefEqProofs [kf, kt, h3, h3', kj]
    refine ACall.intro (c_planRows hG hT js (by omega) hjs hex) fun v K hR => ?_
    obtain ⟨A, cap, hv⟩ := form_raw hR
    subst hv
    rw [List.length_map] at hR ⊢
    have hrl : (rowsP js a).length ≤ 1000000 := by
      unfold rowsP
      rw [List.length_map]
      have := List.length_filter_le liveJ js
      omega
    have hok := rows_ok (js := js) (a := a) (by omega)
    have hjb := rows_jobs js a
    obtain ⟨M, hMJ, hM⟩ : ∃ M, M.map (fun z => (z.1, (js.filter liveJ).getD z.2 jb0)) = E.map (fun z => (z.1, jobOf js z.2)) ∧ Merged ((rowsP js a).map (restR t)) M := by
      have h := merged_put (Rs := (rowsP js a).map (restR t)) fun R hR => by
        obtain ⟨r, _, rfl⟩ := List.mem_map.1 hR
        exact rest_sorted
      refine ⟨_, ?_, h⟩
      rw [rows_rest js ht] at h ⊢
      rw [merged_jobs h, hE]
    have hRA := RowsAt.of hR
    have hJK : J 0 K := hL _ _ _ h0 hR.1
    have hLE : HLe H K := hR.1
    clear hR
    generalize rowsP js a = rs at *
    simp -implicitDefEqProofs
    refine AAlloc.intro fun b5 h5 => ?_
    have hH5 : H b5 = none := hLE.none h5
    have n5 : bt ≠ b5 := by rintro rfl; rw [kt] at hH5; cases hH5
    simp -implicitDefEqProofs
    generalize hK1 : Heap.set K b5 _ = K1
    have l1 : HLe K K1 := by rw [← hK1]; exact HLe.set_fresh h5
    have k5 : K1 b5 = some (.cells [.sc (.slice A rs.length cap)] 226) := by rw [← hK1]; simp [Heap.set]
    have hRA := hRA.le (KeepN.of_le l1)
    have hJK := hL _ _ _ hJK l1
    clear hK1 h5
    refine ACall.eq (c_planNext hrl hRA k5 (hJ _ _ hJK).2) ?_
    simp -implicitDefEqProofs
    have hEl : M.length = E.length := by have := congrArg List.length hMJ; simpa using this
    obtain ⟨lv, hlv⟩ : ∃ lv, js.filter liveJ = lv := ⟨_, rfl⟩
    rw [hlv] at hjb hMJ
    refine AGo.rounds (fun μ ρ K => ∃ (jx : Nat) (rs : List PRow) (M : List PIt), μ = M.length ∧ rs.length ≤ 1000000 ∧ Merged (rs.map (restR t)) M ∧ rs.map PRow.j = lv ∧ (∀ r ∈ rs, RowOk r) ∧ M.map (fun z => (z.1, lv.getD z.2 jb0)) = (E.map (fun z => (z.1, jobOf js z.2))).drop jx ∧ jx + M.length = E.length ∧
      ρ 0 = .sc (.func (.yield l) #[] #[]) ∧ ρ 5 = ptr b5 ∧ ρ 6 = .sc (.func (.func 175) #[] #[.pointer (some ⟨b5, 0, none⟩), .pointer (some ⟨bt, 0, none⟩)]) ∧ ρ 7 = .sc (.int .i64 (bestI (bestGo rs (t : Int) rs.length none))) ∧ J jx K ∧ RowsAt H rs A cap K ∧ K b5 = some (.cells [.sc (.slice A rs.length cap)] 226)) ?_ (m := M.length) (HLe.refl _)
      ⟨0, rs, M, rfl, hrl, hM, hjb, hok, by simpa using hMJ, by omega, by simp, by simp, by simp, by simp, hJK, hRA, k5⟩
    clear hRA hJK k5 hM hMJ hEl hjb hok hrl
    rintro μ ρ K ih ⟨jx, rs, M, rfl, hrl, hM, hjb, hok, hMJ, hEl, r0, r5, r6, r7, hJK, hRA, k5⟩
    have hbest := best_all rs (t : Int)
    generalize hbo : bestGo rs (t : Int) rs.length none = bo at *
    cases bo with
    | none =>
      have hM0 := hM.done (best_none hbest)
      subst hM0
      have hj : jx = E.length := by simpa using hEl
      subst hj
      simp -implicitDefEqProofs [r7, bestI]
      exact ⟨_, _, wk_refl _, HWk.refl _, .inl hJK⟩
    | some k =>
      obtain ⟨r, hr, hrt, hpick⟩ := best_some hok hbest
      have hro := hok r (List.mem_of_getElem? hr)
      obtain ⟨u, hu, hub⟩ := hro.nat
      rw [hu, Int.toNat_natCast] at hpick hrt
      obtain ⟨M', rfl, hM'⟩ := hM.pick (fun Q hQ => by
        obtain ⟨r, _, rfl⟩ := List.mem_map.1 hQ
        exact rest_sorted) hpick
      obtain ⟨hkl, hrk⟩ := List.getElem?_eq_some_iff.1 hr
      rcases hRA with ⟨rfl, _⟩ | ⟨g, zs, hHg, rfl, kg, hcap⟩
      · simp at hkl
      have hjlt : jx < E.length := by simp only [List.length_cons] at hEl; omega
      obtain ⟨z, hz, hz'⟩ := getAt hjlt
      have hlvk : lv.getD k jb0 = r.j := by rw [← hjb, List.getD_eq_getElem?_getD, List.getElem?_map, hr]; rfl
      rw [List.drop_eq_getElem_cons (by simpa using hjlt), List.map_cons, List.cons.injEq, List.getElem_map, hz, Prod.mk.injEq] at hMJ
      obtain ⟨⟨hzu, hzj⟩, hMJ'⟩ := hMJ
      simp only at hzu hzj
      rw [hlvk] at hzj
      have hrow := row_cells rs zs hkl
      rw [hrk] at hrow
      have hfl := rows_len rs zs
      have hset := row_set rs zs hkl (nextOf r.x u)
      rw [hrk] at hset
      generalize hF : (rs.map prAV).flatMap AV.cells ++ zs = F at *
      have hfit : k * 24 + 24 ≤ F.length := by omega
      have hat : F[k * 24 + 22]? = some (.sc (.int .i64 (u : Int))) := by
        have := congrArg (fun l => l[22]?) hrow
        simp only [List.getElem?_take, List.getElem?_drop] at this
        rw [← hu]
        simpa using this
      have hid : F[k * 24]? = some (.sc (.int .u64 (r.j.id : Int))) := by
        have := congrArg (fun l => l[0]?) hrow
        simp only [List.getElem?_take, List.getElem?_drop] at this
        simpa using this
      have hjob : (F.drop (k * 24)).take 12 = jbC r.j .no := by
        have := congrArg (fun l => l.take 12) hrow
        rw [List.take_take] at this
        exact this
      have hf1 : k * 24 + 12 ≤ F.length := by omega
      have hki : ¬ (k : Int) < 0 := by omega
      have hki2 : (0 : Int) ≤ (k : Int) := by omega
      have hcall := hY jx K z hz' hJK
      rw [planItAV, ← hzu, ← hzj] at hcall
      simp -implicitDefEqProofs [r7, bestI, hki2]
      refine go_draw 18 f_mixed (by decide +kernel) ?_
      simp -implicitDefEqProofs [r0, r5, r7, bestI, k5, kg, hkl, hki, hat, hid, hjob, hf1]
      refine ACall.intro hcall fun v K' hv => ?_
      rcases hv with ⟨rfl, hJ', hKK⟩ | ⟨rfl, hJx⟩
      · have k5' := hKK _ _ hH5 k5 .cells
        have kg' := hKK _ _ hHg kg .cells
        simp -implicitDefEqProofs [r5, r7, bestI, k5', hkl, hki]
        refine ACall.eq (c_stepsAt (hJ _ _ hJ').1 kg' hrow hfit hro hu (nextOf_is r.x u)) ?_
        rw [hset]
        generalize hK2 : Heap.set K' g _ = K2
        have gb5 : g ≠ b5 := by rintro rfl; rw [k5] at kg; simp at kg
        have kg2 : K2 g = some (.cells (((rs.set k (r.next (nextOf r.x u))).map prAV).flatMap AV.cells ++ zs) 229) := by rw [← hK2]; simp [Heap.set]
        have k52 : K2 b5 = some (.cells [.sc (.slice (some ⟨g, 0, none⟩) (rs.set k (r.next (nextOf r.x u))).length cap)] 226) := by rw [← hK2, List.length_set]; simp [Heap.set, gb5.symm, k5']
        have hJ2 : J (jx + 1) K2 := by rw [← hK2]; exact hS _ _ _ _ _ hJ' hHg kg' .cells
        have hRA2 : RowsAt H (rs.set k (r.next (nextOf r.x u))) (some ⟨g, 0, none⟩) cap K2 := .inr ⟨g, zs, hHg, rfl, kg2, by simpa using hcap⟩
        clear hK2
        simp -implicitDefEqProofs [r6]
        refine ACall.eq (c_planNext (by simpa using hrl) hRA2 k52 (hJ _ _ hJ2).2) ?_
        simp -implicitDefEqProofs
        refine AGo.again ih (m' := M'.length) (by simp) (HLe.refl _) ⟨jx + 1, rs.set k (r.next (nextOf r.x u)), M', rfl, by simpa using hrl, ?_, ?_, ?_, hMJ', by simp only [List.length_cons] at hEl; omega, by simp [r0], by simp [r5], by simp [r6], by simp, hJ2, hRA2, k52⟩
        · rw [List.map_set, rest_next ht (nextOf_is r.x u)]
          exact hM'
        · rw [List.map_set, hjb]
          have : lv[k]? = some r.j := by rw [← hjb, List.getElem?_map, hr]; rfl
          obtain ⟨h1, h2⟩ := List.getElem?_eq_some_iff.1 this
          show lv.set k r.j = lv
          rw [← h2, List.set_getElem_self]
        · intro q hq
          rcases List.mem_or_eq_of_mem_set hq with h | h
          · exact hok q h
          · rw [h]; exact hro.next (nextOf_is r.x u)
      · simp -implicitDefEqProofs
        exact ⟨_, _, wk_refl _, HWk.refl _, .inr hJx⟩
  · have h3' : tt ≤ fr := by omega
    rw [if_neg (fun h => h3 h.2.2)] at hE
    subst hE
    simp -implicitDefEqProofs [kf, kt, h3, h3']
    exact ⟨_, _, wk_refl _, HWk.refl _, .inl h0⟩
end Go.Proofs.YtmoncokklkiikaaGreatDoor
namespace Go.Proofs.YtmoncokklkiikaaGreatDoor
open Rg Go
variable {H : Heap}
theorem c_equalU (L M : List Nat) (t u : Rg.Tok) (hL : L.length ≤ 1000000) : AOk Tryz.prog 83 [.sl (L.map (fun n : Nat => (.sc (.int .u64 (n : Int)) : AV))) t, .sl (M.map (fun n : Nat => (.sc (.int .u64 (n : Int)) : AV))) u] H (.sc (.bool (decide (L = M)))) H := by
  refine ACalls.into Tryz.func83 rfl Tryz.ntmps83 Tryz.results83 (by simp) ?_
  simp -implicitDefEqProofs
  by_cases hl : L.length = M.length
  · have hl' : (L.length : Int) = (M.length : Int) := by omega
    simp -implicitDefEqProofs [hl, hl']
    refine AGo.rounds (fun m ρ K => ∃ i, m = L.length - i ∧ i ≤ L.length ∧ L.take i = M.take i ∧ ρ 13 = .sc (.int .i64 (i : Int)) ∧ ρ 0 = .sl (L.map (fun n : Nat => (.sc (.int .u64 (n : Int)) : AV))) t ∧ ρ 1 = .sl (M.map (fun n : Nat => (.sc (.int .u64 (n : Int)) : AV))) u ∧ ρ 12 = .sc (.int .i64 (M.length : Int)) ∧ K = H) ?_ (m := L.length) (HLe.refl _)
      ⟨0, rfl, by omega, by simp, by simp, by simp, by simp, by simp, rfl⟩
    rintro m ρ K ih ⟨i, rfl, hi, hti, r13, r0, r1, r12, rfl⟩
    rcases Nat.lt_or_ge i L.length with hlt | hge
    · have hlm : i < M.length := by omega
      obtain ⟨x, hx, hx2⟩ := getAt hlt
      obtain ⟨y, hy, hy2⟩ := getAt hlm
      have hlt' : (i : Int) < (L.length : Int) := by omega
      have hlm' : (i : Int) < (M.length : Int) := by omega
      have hw1 : IntKind.i64.wrap ((i : Int) + 1) = (i : Int) + 1 := wrap_i64 (by omega) (by omega)
      simp -implicitDefEqProofs [r13, r0, r1, r12, hlm, hlm']
      refine go_draw 9 f_mixed (by decide +kernel) ?_
      by_cases hxy : x = y
      · subst hxy
        simp -implicitDefEqProofs [r13, r0, r1, r12, hlt, hlm, hx, hy, hw1]
        refine AGo.again ih (m' := L.length - (i + 1)) (by omega) (HLe.refl _) ⟨i + 1, rfl, by omega, ?_, by simp, by simp [r0], by simp [r1], by simp [r12], rfl⟩
        rw [List.take_add_one, List.take_add_one, hti, hx2, hy2]
      · have hne : ¬ L = M := by
          intro e
          subst e
          rw [hx2] at hy2
          cases hy2
          exact hxy rfl
        have hxy' : ¬ (x : Int) = (y : Int) := by omega
        simp -implicitDefEqProofs [r13, r0, r1, r12, hlt, hlm, hx, hy, hxy, hxy', hne]
    · have hn : ¬ (i : Int) < (M.length : Int) := by omega
      have hn' : ¬ i < M.length := by omega
      have he : L = M := by rw [List.take_of_length_le hge, List.take_of_length_le (by omega)] at hti; exact hti
      simp -implicitDefEqProofs [r13, r0, r1, r12, hn, hn', he]
  · have hl' : ¬ (L.length : Int) = (M.length : Int) := by omega
    have hne : ¬ L = M := fun e => hl (by rw [e])
    simp -implicitDefEqProofs [hl, hl', hne]
end Go.Proofs.YtmoncokklkiikaaGreatDoor
namespace Go.Proofs.YtmoncokklkiikaaGreatDoor
open Rg Go
variable {H : Heap}
def sameJ (a b : Jb) : Bool := decide (a.id = b.id) && (a.name == b.name) && (a.ex == b.ex) && decide (a.pol = b.pol) && decide (a.gr = b.gr) && decide (a.lim = b.lim) && decide (a.ret = b.ret) && decide (a.tim = b.tim) && decide (a.deps = b.deps) && (a.pau == b.pau) && decide (a.ver = b.ver) && decide (a.seen = b.seen)
theorem sameJ_iff {a b : Jb} : sameJ a b = true ↔ a = b := by
  simp only [sameJ, Bool.and_eq_true, decide_eq_true_eq, beq_iff_eq]
  constructor
  · rintro ⟨⟨⟨⟨⟨⟨⟨⟨⟨⟨⟨h1, h2⟩, h3⟩, h4⟩, h5⟩, h6⟩, h7⟩, h8⟩, h9⟩, h10⟩, h11⟩, h12⟩
    cases a; cases b; simp_all
  · rintro rfl
    simp
set_option maxHeartbeats 4000000 in
theorem c_jobSame (a b : Jb) (t u : Rg.Tok) (hl : a.deps.length ≤ 1000000) : AOk Tryz.prog 19 [jbAV a t, jbAV b u] H (.sc (.bool (sameJ a b))) H := by
  have heq := fun K => c_equalU (H := K) a.deps b.deps t u hl
  unfold sameJ
  obtain ⟨c0, hc0⟩ : ∃ c, decide (a.id = b.id) = c := ⟨_, rfl⟩
  have hi0 : decide ((a.id : Int) = (b.id : Int)) = c0 := by rw [← hc0]; congr 1; exact propext ⟨fun h => by omega, fun h => by omega⟩
  obtain ⟨c1, hc1⟩ : ∃ c, (a.name == b.name) = c := ⟨_, rfl⟩
  obtain ⟨c2, hc2⟩ : ∃ c, (a.ex == b.ex) = c := ⟨_, rfl⟩
  obtain ⟨c3, hc3⟩ : ∃ c, decide (a.pol = b.pol) = c := ⟨_, rfl⟩
  obtain ⟨c4, hc4⟩ : ∃ c, decide (a.gr = b.gr) = c := ⟨_, rfl⟩
  obtain ⟨c5, hc5⟩ : ∃ c, decide (a.lim = b.lim) = c := ⟨_, rfl⟩
  obtain ⟨c6, hc6⟩ : ∃ c, decide (a.ret = b.ret) = c := ⟨_, rfl⟩
  obtain ⟨c7, hc7⟩ : ∃ c, decide (a.tim = b.tim) = c := ⟨_, rfl⟩
  obtain ⟨c8, hc8⟩ : ∃ c, decide (a.deps = b.deps) = c := ⟨_, rfl⟩
  obtain ⟨c9, hc9⟩ : ∃ c, (a.pau == b.pau) = c := ⟨_, rfl⟩
  obtain ⟨c10, hc10⟩ : ∃ c, decide (a.ver = b.ver) = c := ⟨_, rfl⟩
  have hi10 : decide ((a.ver : Int) = (b.ver : Int)) = c10 := by rw [← hc10]; congr 1; exact propext ⟨fun h => by omega, fun h => by omega⟩
  obtain ⟨c11, hc11⟩ : ∃ c, decide (a.seen = b.seen) = c := ⟨_, rfl⟩
  rw [hc0, hc1, hc2, hc3, hc4, hc5, hc6, hc7, hc8, hc9, hc10, hc11]
  rw [hc8] at heq
  refine ACalls.into Tryz.func19 rfl Tryz.ntmps19 Tryz.results19 (by simp) ?_
  simp -implicitDefEqProofs
  refine AAlloc.intro fun p hp => ?_
  simp -implicitDefEqProofs
  refine AAlloc.intro fun q hq => ?_
  have npq : p ≠ q := by rintro rfl; simp [Heap.set] at hq
  simp -implicitDefEqProofs [npq]
  generalize hK : Heap.set _ q _ = K
  have kp : K p = some (.cells (jbC a t) 25) := by rw [← hK]; simp [Heap.set, npq]
  have kq : K q = some (.cells (jbC b u) 25) := by rw [← hK]; simp [Heap.set]
  have kW : HWk H K := by rw [← hK]; exact (HLe.set_new (HLe.set_fresh hp) ((HLe.set_fresh hp).none hq)).wk
  clear hK
  simp -implicitDefEqProofs [kp, kq, hc0, hi0]
  cases c0 with
  | false =>
    simp -implicitDefEqProofs [kp, kq, kW]
  | true =>
    simp -implicitDefEqProofs [kp, kq, hc1]
    cases c1 with
    | false =>
      simp -implicitDefEqProofs [kp, kq, kW]
    | true =>
      simp -implicitDefEqProofs [kp, kq, hc2]
      cases c2 with
      | false =>
        simp -implicitDefEqProofs [kp, kq, kW]
      | true =>
        simp -implicitDefEqProofs [kp, kq, hc3]
        cases c3 with
        | false =>
          simp -implicitDefEqProofs [kp, kq, kW]
        | true =>
          simp -implicitDefEqProofs [kp, kq, hc4]
          cases c4 with
          | false =>
            simp -implicitDefEqProofs [kp, kq, kW]
          | true =>
            simp -implicitDefEqProofs [kp, kq, hc5]
            cases c5 with
            | false =>
              simp -implicitDefEqProofs [kp, kq, kW]
            | true =>
              simp -implicitDefEqProofs [kp, kq, hc6]
              cases c6 with
              | false =>
                simp -implicitDefEqProofs [kp, kq, kW]
              | true =>
                simp -implicitDefEqProofs [kp, kq, hc7]
                cases c7 with
                | false =>
                  simp -implicitDefEqProofs [kp, kq, kW]
                | true =>
                  simp -implicitDefEqProofs [kp, kq, hc8]
                  refine ACall.eq (heq K) ?_
                  simp -implicitDefEqProofs [kp, kq]
                  cases c8 with
                  | false =>
                    simp -implicitDefEqProofs [kp, kq, kW]
                  | true =>
                    simp -implicitDefEqProofs [kp, kq, hc9]
                    cases c9 with
                    | false =>
                      simp -implicitDefEqProofs [kp, kq, kW]
                    | true =>
                      simp -implicitDefEqProofs [kp, kq, hc10, hi10]
                      cases c10 with
                      | false =>
                        simp -implicitDefEqProofs [kp, kq, kW]
                      | true =>
                        simp -implicitDefEqProofs [kp, kq, hc11]
                        cases c11 with
                        | false =>
                          simp -implicitDefEqProofs [kp, kq, kW]
                        | true =>
                          simp -implicitDefEqProofs [kp, kq, kW]
end Go.Proofs.YtmoncokklkiikaaGreatDoor
namespace Go.Proofs.YtmoncokklkiikaaGreatDoor
open Rg Go
variable {H : Heap}
theorem atRhoT {P : Program} {n : Nat} {Q : Post} {ρ : Nat → AV} {k : List AItem} {K : Heap} (h : ∀ ρ1, ρ1 = ρ → AGo P n Q k ρ1 K) : AGo P n Q k ρ K := h ρ rfl
structure RowZ (sz : Nat) (e T : TypeId) (H0 : Heap) (c n : Nat) (F : Rg.Tok → List AV) (K : Heap) : Prop where
  le : HLe H0 K
  no : H0 c = none
  row : ∃ t, K c = some (.cells (F t) T) ∧ ((t = .nil ∧ n = 0) ∨ ∃ g cap, g ≠ c ∧ H0 g = none ∧ t = .own g cap sz e ∧ K g = some (.open n cap sz e))
theorem RowZ.new {sz : Nat} {e T : TypeId} {H0 K : Heap} {c n p : Nat} {F : Rg.Tok → List AV} {o : AObj} (h : RowZ sz e T H0 c n F K) (hp : K p = none) : RowZ sz e T H0 c n F (K.set p o) := by
  obtain ⟨t, h1, h2⟩ := h.row
  have hpc : c ≠ p := by rintro rfl; rw [h1] at hp; cases hp
  refine ⟨h.le.trans (HLe.set_fresh hp), h.no, t, by simp [Heap.set, hpc, h1], h2.imp id ?_⟩
  rintro ⟨g, cap, g1, g2, g3, g4⟩
  have : g ≠ p := by rintro rfl; rw [hp] at g4; cases g4
  exact ⟨g, cap, g1, g2, g3, by simp [Heap.set, this, g4]⟩
theorem RowZ.grows {sz : Nat} {e T : TypeId} {H0 K : Heap} {c : Nat} {F : Rg.Tok → List AV} {xs : List AV} (h : RowZ sz e T H0 c xs.length F K) :
    ∃ t G0 G, K c = some (.cells (F t) T) ∧ Grows G0 xs sz e t G ∧ HLe G K ∧ HLe H0 G0 ∧ G0 c = some (.cells (F t) T) ∧ ∀ p cs T', K p = some (.cells cs T') → G0 p = some (.cells cs T') := by
  obtain ⟨t, h1, ⟨rfl, hn⟩ | ⟨g, cap, h2, h3, rfl, h4⟩⟩ := h.row
  · obtain rfl := List.length_eq_zero_iff.1 hn
    exact ⟨_, K, K, h1, .zero, HLe.refl _, h.le, h1, fun _ _ _ h => h⟩
  · refine ⟨_, K.del g, (K.del g).set g (.open xs.length cap sz e), h1, .inr ⟨g, cap, by simp [Heap.del], rfl, rfl⟩, fun b ob hb => ?_, HLe.del_new h.le h3, by simp [Heap.del, Ne.symm h2, h1], fun p cs T' hp => ?_⟩
    · by_cases hbg : b = g
      · subst hbg
        simp only [Heap.set, if_true] at hb
        rw [← hb]; exact h4
      · simpa [Heap.set, Heap.del, hbg] using hb
    · have : p ≠ g := by rintro rfl; rw [h4] at hp; cases hp
      simp [Heap.del, this, hp]
theorem RowZ.stored {sz : Nat} {e T : TypeId} {H0 G0 K' Hn : Heap} {c : Nat} {xs : List AV} {F : Rg.Tok → List AV} {t' : Rg.Tok} {o : AObj} (h1 : HLe H0 G0) (h2 : H0 c = none) (h3 : G0 c = some o) (h4 : Grows G0 xs sz e t' K') (h5 : HLe K' Hn) :
    RowZ sz e T H0 c xs.length F (Hn.set c (.cells (F t') T)) := by
  have hle := (h1.trans h4.le).trans h5
  refine ⟨HLe.set_new hle h2, h2, t', by simp [Heap.set], ?_⟩
  rcases h4 with ⟨rfl, rfl, rfl⟩ | ⟨g, cap, g1, rfl, rfl⟩
  · exact .inl ⟨rfl, rfl⟩
  · have hgc : g ≠ c := by rintro rfl; rw [h3] at g1; cases g1
    exact .inr ⟨g, cap, hgc, h1.none g1, rfl, by simp [Heap.set, hgc]; exact h5 g _ (by simp [Heap.set])⟩
theorem RowZ.setO {sz : Nat} {e T : TypeId} {H0 K : Heap} {c n p : Nat} {F : Rg.Tok → List AV} {o o' : AObj} (h : RowZ sz e T H0 c n F K) (hp0 : H0 p = none) (hpc : p ≠ c) (hp : K p = some o) (ho : ∀ n cap sz e, o ≠ .open n cap sz e) : RowZ sz e T H0 c n F (K.set p o') := by
  obtain ⟨t, h1, h2⟩ := h.row
  refine ⟨HLe.set_new h.le hp0, h.no, t, by simp [Heap.set, hpc.symm, h1], h2.imp id ?_⟩
  rintro ⟨g, cap, g1, g2, g3, g4⟩
  have : g ≠ p := by rintro rfl; rw [hp] at g4; cases g4; exact ho _ _ _ _ rfl
  exact ⟨g, cap, g1, g2, g3, by simp [Heap.set, this, g4]⟩
theorem RowZ.grows' {sz : Nat} {e T : TypeId} {H0 K : Heap} {c : Nat} {F : Rg.Tok → List AV} {xs : List AV} (h : RowZ sz e T H0 c xs.length F K) :
    ∃ t G0 G, K c = some (.cells (F t) T) ∧ Grows G0 xs sz e t G ∧ HLe G K ∧ HLe H0 G0 ∧ G0 c = some (.cells (F t) T) ∧ ∀ p o, K p = some o → (∀ n cap sz e, o ≠ .open n cap sz e) → G0 p = some o := by
  obtain ⟨t, h1, ⟨rfl, hn⟩ | ⟨g, cap, h2, h3, rfl, h4⟩⟩ := h.row
  · obtain rfl := List.length_eq_zero_iff.1 hn
    exact ⟨_, K, K, h1, .zero, HLe.refl _, h.le, h1, fun _ _ h _ => h⟩
  · refine ⟨_, K.del g, (K.del g).set g (.open xs.length cap sz e), h1, .inr ⟨g, cap, by simp [Heap.del], rfl, rfl⟩, fun b ob hb => ?_, HLe.del_new h.le h3, by simp [Heap.del, Ne.symm h2, h1], fun p o hp ho => ?_⟩
    · by_cases hbg : b = g
      · subst hbg
        simp only [Heap.set, if_true] at hb
        rw [← hb]; exact h4
      · simpa [Heap.set, Heap.del, hbg] using hb
    · have : p ≠ g := by rintro rfl; rw [h4] at hp; cases hp; exact ho _ _ _ _ rfl
      simp [Heap.del, this, hp]
theorem RowZ.cell {sz : Nat} {e T : TypeId} {H0 K : Heap} {c n : Nat} {F F' : Rg.Tok → List AV} {t : Rg.Tok} {cs : List AV} (h : RowZ sz e T H0 c n F K) (hc : K c = some (.cells cs T)) (ht : ∀ t', cs = F t' → F' t' = F' t) : RowZ sz e T H0 c n F' (K.set c (.cells (F' t) T)) := by
  obtain ⟨t', h1, h2⟩ := h.row
  rw [hc] at h1
  have h1' : cs = F t' := by simpa using h1
  refine ⟨HLe.set_new h.le h.no, h.no, t', by simp [Heap.set, ht t' h1'], h2.imp id ?_⟩
  rintro ⟨g, cap, g1, g2, g3, g4⟩
  exact ⟨g, cap, g1, g2, g3, by simp [Heap.set, g1, g4]⟩
theorem RowZ.up {sz : Nat} {e T : TypeId} {H0 K K' : Heap} {c n : Nat} {F : Rg.Tok → List AV} (h : RowZ sz e T H0 c n F K) (hle : HLe K K') : RowZ sz e T H0 c n F K' := by
  obtain ⟨r1, r2, t, r3, r4⟩ := h
  refine ⟨r1.trans hle, r2, t, hle _ _ r3, r4.imp id ?_⟩
  rintro ⟨g, cap, g1, g2, g3, g4⟩
  exact ⟨g, cap, g1, g2, g3, hle _ _ g4⟩
def GrowsS (H0 : Heap) (xs : List AV) (sz : Nat) (e : TypeId) (t : Rg.Tok) (K : Heap) : Prop :=
  (t = .full ∧ K = H0) ∨ ∃ g cap, H0 g = none ∧ t = .own g cap sz e ∧ K = H0.set g (.open xs.length cap sz e)
theorem GrowsS.le {H0 K : Heap} {xs : List AV} {sz : Nat} {e : TypeId} {t : Rg.Tok} (h : GrowsS H0 xs sz e t K) : HLe H0 K := by
  rcases h with ⟨_, rfl⟩ | ⟨g, cap, h1, _, rfl⟩
  · exact HLe.refl _
  · exact (HLe.refl _).set_new h1
theorem growsS_app {P : Program} {n : Nat} {Q : Post} {ρ : Nat → AV} {k : List AItem} {full : Array Oper} {dst : Option Tmp} {r : List Oper} {T e : TypeId} {xs ys : List AV} {t : Rg.Tok} {sz by_ : Nat} {H0 K : Heap} (he : ElemOk P T e sz by_) (hg : GrowsS H0 xs sz e t K) (hl : HLe K H)
    (h0 : ys ≠ []) (hx : szs sz xs = true) (hy : szs sz ys = true) (hb : (xs.length + ys.length) * by_ ≤ 140737488355328) (hm : xs.length + ys.length ≤ maxLen)
    (h : ∀ t' K' Hn, GrowsS H0 (xs ++ ys) sz e t' K' → HLe K' Hn → AGo P n Q (.ops full r :: k) (aput n dst (.sl (xs ++ ys) t') ρ) Hn) : AApp P n Q full dst r k ρ H T e xs t ys := by
  rcases hg with ⟨rfl, rfl⟩ | hg
  · refine AApp.new he (.inr rfl) h0 hx hy hb hm fun g cap hgn => h _ (K.set g (.open (xs.length + ys.length) cap sz e)) _ (.inr ⟨g, cap, hl.none hgn, rfl, by simp⟩) hl.set_mono
  · refine AApp.grows he (.inr hg) hl h0 hx hy hb hm fun t' K' Hn hg' hl' => h t' K' Hn ?_ hl'
    rcases hg' with ⟨h1, _, _⟩ | h1
    · exact absurd (List.append_eq_nil_iff.1 h1).2 h0
    · exact .inr h1
def GrowsK (H0 : Heap) (n sz : Nat) (e : TypeId) (t : Rg.Tok) (K : Heap) : Prop := (t = .nil ∧ n = 0) ∨ ∃ g cap, H0 g = none ∧ t = .own g cap sz e ∧ K g = some (.open n cap sz e)
theorem GrowsK.up {H0 K K' : Heap} {n sz : Nat} {e : TypeId} {t : Rg.Tok} (h : GrowsK H0 n sz e t K) (hle : HLe K K') : GrowsK H0 n sz e t K' :=
  h.imp id fun ⟨g, cap, h1, h2, h3⟩ => ⟨g, cap, h1, h2, hle _ _ h3⟩
theorem GrowsK.grows {H0 K : Heap} {xs : List AV} {sz : Nat} {e : TypeId} {t : Rg.Tok} (h : GrowsK H0 xs.length sz e t K) (hl : HLe H0 K) :
    ∃ G0 G, Grows G0 xs sz e t G ∧ HLe G K ∧ HLe H0 G0 ∧ ∀ p o, K p = some o → (∀ n cap, o ≠ .open n cap sz e) → G0 p = some o := by
  rcases h with ⟨rfl, hn⟩ | ⟨g, cap, h3, rfl, h4⟩
  · obtain rfl := List.length_eq_zero_iff.1 hn
    exact ⟨K, K, .zero, HLe.refl _, hl, fun _ _ h _ => h⟩
  · refine ⟨K.del g, (K.del g).set g (.open xs.length cap sz e), .inr ⟨g, cap, by simp [Heap.del], rfl, rfl⟩, fun b ob hb => ?_, HLe.del_new hl h3, fun p o hp ho => ?_⟩
    · by_cases hbg : b = g
      · subst hbg
        simp only [Heap.set, if_true] at hb
        rw [← hb]; exact h4
      · simpa [Heap.set, Heap.del, hbg] using hb
    · have : p ≠ g := by rintro rfl; rw [h4] at hp; cases hp; exact ho _ _ rfl
      simp [Heap.del, this, hp]
theorem GrowsK.of {H0 G0 K' Hn : Heap} {xs : List AV} {sz : Nat} {e : TypeId} {t' : Rg.Tok} (h1 : HLe H0 G0) (h4 : Grows G0 xs sz e t' K') (h5 : HLe K' Hn) : GrowsK H0 xs.length sz e t' Hn ∧ HLe H0 Hn := by
  refine ⟨?_, (h1.trans h4.le).trans h5⟩
  rcases h4 with ⟨rfl, rfl, rfl⟩ | ⟨g, cap, g1, rfl, rfl⟩
  · exact .inl ⟨rfl, rfl⟩
  · exact .inr ⟨g, cap, h1.none g1, rfl, h5 g _ (by simp [Heap.set])⟩
theorem GrowsK.other {H0 K G0 K' Hn : Heap} {xs : List AV} {n sz sz' : Nat} {e e' : TypeId} {t t' : Rg.Tok} (h : GrowsK H0 n sz e t K) (hne : sz ≠ sz') (hg : ∀ p o, K p = some o → (∀ n cap, o ≠ .open n cap sz' e') → G0 p = some o) (h4 : Grows G0 xs sz' e' t' K') (h5 : HLe K' Hn) : GrowsK H0 n sz e t Hn :=
  h.imp id fun ⟨g, cap, h1, h2, h3⟩ => ⟨g, cap, h1, h2, h5 _ _ (h4.le _ _ (hg _ _ h3 (fun n cap h => by cases h; exact hne rfl)))⟩
theorem set_del {H : Heap} {g : Nat} {o : AObj} (h : H g = none) : (H.set g o).del g = H := by
  funext b
  by_cases hb : b = g
  · subst hb; simp [Heap.del, h]
  · simp [Heap.del, Heap.set, hb]
theorem aes_growsF {P : Program} {n : Nat} {Q : Post} {ρ : Nat → AV} {k : List AItem} {full : Array Oper} {dst : Option Tmp} {l rest : List Oper} {T e : TypeId} {xs ys : List AV} {t : Rg.Tok} {sz by_ : Nat} {H0 H1 K : Heap} (he : ElemOk P T e sz by_) (hg : GrowsF H1 xs sz e t K)
    (hx : szs sz xs = true) (hy : szs sz ys = true) (hb : (xs.length + ys.length) * by_ ≤ 140737488355328) (hm : xs.length + ys.length ≤ maxLen)
    (h : ∀ t' K', GrowsF H1 (xs ++ ys) sz e t' K' → ABK P n H0 Q full l rest k (aput n dst (.sl (xs ++ ys) t') ρ) K') : AES P n H0 Q full dst l rest k ρ K (.app T e xs t ys) := by
  rcases hg with ⟨rfl, ht, rfl⟩ | ⟨g, cap, hg1, rfl, rfl⟩
  · by_cases h0 : ys = []
    · subst h0
      refine AES.same he ht hx (by simp) (by simp [maxLen]) ?_
      exact h t _ (.inl ⟨rfl, ht, rfl⟩)
    · exact AES.new he ht h0 hx hy hb hm fun g cap hgn => h _ _ (.inr ⟨g, cap, hgn, rfl, by simp⟩)
  · refine AES.own he (by simp [Heap.set]) hx hy hb hm fun g' cap' hg' => ?_
    rw [set_del hg1] at hg' ⊢
    exact h _ _ (.inr ⟨g', cap', hg', rfl, by simp⟩)
end Go.Proofs.YtmoncokklkiikaaGreatDoor
namespace Go.Proofs.YtmoncokklkiikaaGreatDoor
open Rg Go
variable {H : Heap}
abbrev jobsAV (js : List Jb) : List AV := js.map fun j => jbAV j .no
theorem c_runsSame {b : Nat} {a j : Jb} {t u : Rg.Tok} (hb : H b = some (.cells (jbC j u) 25)) (hl : a.deps.length ≤ 1000000) : AOk Tryz.prog 172 [jbAV a t, ptr b] H (.sc (.bool (sameJ a j))) H := by
  refine ACalls.into Tryz.func172 rfl Tryz.ntmps172 Tryz.results172 (by simp) ?_
  simp -implicitDefEqProofs
  refine AAlloc.intro fun b2 h2 => ?_
  have n : b ≠ b2 := by rintro rfl; rw [hb] at h2; cases h2
  simp -implicitDefEqProofs [n, hb]
  refine ACall.eq (c_jobSame a j t u hl) ?_
  simp -implicitDefEqProofs
  repeat (first | exact HWk.refl _ | refine HWk.new (by assumption) ?_)
set_option maxHeartbeats 4000000 in
theorem c_indexJob {b : Nat} {js : List Jb} {i : Nat} {j : Jb} {u : Rg.Tok} (hj : js[i]? = some j) (hid : (js.map Jb.id).Nodup) (hb : H b = some (.cells (jbC j u) 25)) (hjs : js.length ≤ 1000000) (hl : ∀ j ∈ js, j.deps.length ≤ 1000000) :
    AOk Tryz.prog 70 [.sl (jobsAV js) .no, .sc (.func (.func 172) #[] #[.pointer (some ⟨b, 0, none⟩)])] H (.sc (.int .i64 (i : Int))) H := by
  obtain ⟨hi, hij⟩ := List.getElem?_eq_some_iff.1 hj
  refine ACalls.into Tryz.func70 rfl Tryz.ntmps70 Tryz.results70 (by simp) ?_
  simp -implicitDefEqProofs
  refine AGo.rounds (fun μ ρ K => ∃ k : Nat, μ = i - k ∧ k ≤ i ∧ ρ 0 = .sl (jobsAV js) .no ∧ ρ 1 = .sc (.func (.func 172) #[] #[.pointer (some ⟨b, 0, none⟩)]) ∧ ρ 7 = .sc (.int .i64 (js.length : Int)) ∧ ρ 8 = .sc (.int .i64 (k : Int)) ∧ K = H) ?_ (m := i) (HLe.refl _)
    ⟨0, by omega, by omega, by simp, by simp, by simp, by simp, rfl⟩
  rintro μ ρ K ih ⟨k, rfl, hk, r0, r1, r7, r8, rfl⟩
  have hkl : k < js.length := by omega
  obtain ⟨a, ha, ha'⟩ := getAt hkl
  have hal := hl a (List.mem_of_getElem? ha')
  have hw : IntKind.i64.wrap ((k : Int) + 1) = ((k + 1 : Nat) : Int) := wadd (b := 1) rfl (by omega)
  simp -implicitDefEqProofs [r0, r1, r7, r8, hkl, ha]
  refine ACall.eq (c_runsSame hb hal) ?_
  by_cases hki : k = i
  · subst hki
    rw [hj] at ha'
    obtain rfl := Option.some.inj ha'
    have hs : sameJ j j = true := sameJ_iff.2 rfl
    simp -implicitDefEqProofs [hs]
  · have hs : sameJ a j = false := by
      refine Bool.eq_false_iff.2 fun h => hki ?_
      rw [sameJ_iff] at h
      subst h
      have := List.pairwise_iff_getElem.1 hid k i (by simpa using hkl) (by simpa using hi) (by omega)
      rw [List.getElem_map, List.getElem_map, ha, hij] at this
      exact absurd rfl this
    simp -implicitDefEqProofs [hs, r8, hw]
    exact AGo.again ih (m' := i - (k + 1)) (by omega) (HLe.refl _) ⟨k + 1, rfl, by omega, by simp [r0], by simp [r1], by simp [r7], by simp, rfl⟩
def EachR (js : List Jb) (fr tt : Int) (H : Heap) (r : AV) (K : Heap) : Prop :=
  ∃ bj bf bt, r = .sc (.func (.func 173) #[] #[.pointer (some ⟨bf, 0, none⟩), .pointer (some ⟨bt, 0, none⟩), .pointer (some ⟨bj, 0, none⟩)]) ∧ HLe H K ∧
    K bj = some (.cells [.sl (jobsAV js) .no] 95) ∧ K bf = some (.cells [.sc (.int .i64 fr)] 2) ∧ K bt = some (.cells [.sc (.int .i64 tt)] 2) ∧ H bt = none
theorem c_each (js : List Jb) (fr tt : Int) : ACalls Tryz.prog 130 [.sl (jobsAV js) .no, .sc (.int .i64 fr), .sc (.int .i64 tt)] H (EachR js fr tt H) := by
  refine ACalls.into Tryz.func130 rfl Tryz.ntmps130 Tryz.results130 (by simp) ?_
  simp -implicitDefEqProofs
  refine AAlloc.intro fun b3 h3 => ?_
  simp -implicitDefEqProofs
  refine AAlloc.intro fun b4 h4 => ?_
  simp -implicitDefEqProofs
  refine AAlloc.intro fun b5 h5 => ?_
  have n34 : b3 ≠ b4 := by intro e; subst e; simp [Heap.set] at h4
  have n35 : b3 ≠ b5 := by intro e; subst e; simp [Heap.set, n34] at h5
  have n45 : b4 ≠ b5 := by intro e; subst e; simp [Heap.set] at h5
  simp -implicitDefEqProofs
  refine ⟨_, _, wk_refl _, HWk.refl _, b3, b4, b5, rfl, ((HLe.set_fresh h3).trans (HLe.set_fresh h4)).trans (HLe.set_fresh h5), ?_, ?_, ?_⟩
  · simp [Heap.set, n34, n35]
  · simp [Heap.set, n45]
  · exact ⟨by simp [Heap.set], ((HLe.set_fresh h3).trans (HLe.set_fresh h4)).none h5⟩
abbrev runC (y : PI) : List AV := [.sc (.int .i64 (y.at_ : Int)), .sc (.int .u64 (y.job : Int)), .sc (.int .i64 ((y.at_ + y.tmo : Nat) : Int)), .sc (.int .i64 y.lim), .sc (.int .i64 (y.place : Int))]
abbrev runAV (y : PI) : AV := .agg (runC y)
structure JRun (K1 : Heap) (L : List AV) (b9 bt l D : Nat) (tt : Int) (r : ARec) (m : Nat) (j : Nat) (K : Heap) : Prop where
  lt : j < m
  row : RowZ 5 189 186 K1 b9 (L.take j).length (fun t => [.sl (L.take j) t]) K
  kl : K l = some (.lrec r)
  kD : K D = some .dfr
  kt : K bt = some (.cells [.sc (.int .i64 tt)] 2)
structure XRun (K1 : Heap) (L : List AV) (b9 l D : Nat) (p : Option Code) (K : Heap) : Prop where
  row : RowZ 5 189 186 K1 b9 L.length (fun t => [.sl L t]) K
  kl : ∃ r, K l = some (.lrec r) ∧ r.st ≠ .busy ∧ r.pe = p
  kD : K D = some .dfr
set_option maxHeartbeats 8000000 in
theorem c_runs (hG : Glob H) (hT : GlobT H) {js : List Jb} (fr tt most : Int) (hjs : js.length ≤ 1000000) (hex : ∀ j ∈ js, j.ex.length ≤ 9223372036854775807) (hl : ∀ j ∈ js, j.deps.length ≤ 1000000) (hid : (js.map Jb.id).Nodup) (hmost : most ≤ 1000000) :
    AOk Tryz.prog 127 [.sl (jobsAV js) .no, .sc (.int .i64 fr), .sc (.int .i64 tt), .sc (.int .i64 most)] H (.sl (((planZ js fr tt).take most.toNat).map fun z => runAV (itemOf js z)) .no) H := by
  obtain ⟨E, hE⟩ : ∃ E, planZ js fr tt = E := ⟨_, rfl⟩
  obtain ⟨L, hLL⟩ : ∃ L, ((E.take most.toNat).map fun z => runAV (itemOf js z)) = L := ⟨_, rfl⟩
  rw [hE, hLL]
  refine ACalls.into Tryz.func127 rfl Tryz.ntmps127 Tryz.results127 (by simp) ?_
  simp -implicitDefEqProofs
  refine AAlloc.intro fun b4 h4 => ?_
  simp -implicitDefEqProofs
  refine AAlloc.intro fun b7 h7 => ?_
  have n47 : b4 ≠ b7 := by intro e; subst e; simp [Heap.set] at h7
  have e7 : H b7 = none := (HLe.set_fresh h4).none h7
  simp -implicitDefEqProofs
  generalize hK : Heap.set _ b7 _ = K1
  have k4 : K1 b4 = some (.cells [.sl (jobsAV js) .no] 95) := by rw [← hK]; simp [Heap.set, n47]
  have k7 : K1 b7 = some (.cells [.sc (.int .i64 most)] 3) := by rw [← hK]; simp [Heap.set]
  have kG : Glob K1 := by rw [← hK]; exact (hG.le (HLe.set_fresh h4)).le (HLe.set_fresh h7)
  have kT : GlobT K1 := by rw [← hK]; exact (hT.new h4).new h7
  have kW : HLe H K1 := by rw [← hK]; exact (HLe.set_fresh h4).trans (HLe.set_fresh h7)
  clear hK h4 h7
  refine AAlloc.intro fun b9 h9 => ?_
  have n49 : b4 ≠ b9 := by rintro rfl; rw [k4] at h9; cases h9
  have n79 : b7 ≠ b9 := by rintro rfl; rw [k7] at h9; cases h9
  have e9 : H b9 = none := kW.none h9
  by_cases hm : most < 1
  · have e : L = [] := by rw [← hLL, show most.toNat = 0 by omega]; rfl
    subst e
    simp -implicitDefEqProofs [n49, n79, k7, hm]
    exact HWk.new e9 kW.wk
  · have hmn : (most.toNat : Int) = most := by omega
    simp -implicitDefEqProofs [n49, n79, k7, k4, hm]
    generalize hK : Heap.set K1 b9 _ = K2
    have hR : RowZ 5 189 186 K1 b9 0 (fun t => [.sl [] t]) K2 := by
      rw [← hK]
      exact ⟨HLe.set_fresh h9, h9, .nil, by simp [Heap.set], .inl ⟨rfl, rfl⟩⟩
    clear hK
    refine ACall.intro (c_each js fr tt) fun v K3 hv => ?_
    obtain ⟨bj, bf, bt, rfl, hle, q1, q2, q3, _⟩ := hv
    simp -implicitDefEqProofs
    have hT3 : GlobT K3 := (kT.wk (hR.le.trans hle))
    have hG3 : Glob K3 := kG.le (hR.le.trans hle)
    have hR3 := hR.up hle
    clear hR hle
    refine atRhoT fun ρ1 hρ1 => ?_
    have r4 : ρ1 4 = ptr b4 := by rw [hρ1]; simp
    have r7 : ρ1 7 = ptr b7 := by rw [hρ1]; simp
    have r9 : ρ1 9 = ptr b9 := by rw [hρ1]; simp
    have r18 : ρ1 18 = .sc (.func (.func 173) #[] #[.pointer (some ⟨bf, 0, none⟩), .pointer (some ⟨bt, 0, none⟩), .pointer (some ⟨bj, 0, none⟩)]) := by rw [hρ1]; simp
    clear hρ1
    refine AGo.rangeF (gf := 173) (lb := #[.pointer (some ⟨bf, 0, none⟩), .pointer (some ⟨bt, 0, none⟩), .pointer (some ⟨bj, 0, none⟩)])
      (fun D l _ K => XRun K1 L b9 l D none K ∨ XRun K1 L b9 l D (some (.exit 0)) K) rfl r18 (by simp) ?_ ?_ ?_
    · intro D l hD hl'
      generalize hr : ARec.mk _ _ _ _ _ _ _ _ = r0
      have hst : r0.st = .ready := by rw [← hr]
      have hpe : r0.pe = none := by rw [← hr]
      have hps : r0.ps.size = 2 := by rw [← hr]; rfl
      have hDl : D ≠ l := by intro e; subst e; simp [Heap.set] at hl'
      have hl3 : K3 l = none := by simpa [Heap.set, hDl.symm] using hl'
      have ne1 : ∀ {c : Nat} {o : AObj}, K3 c = some o → c ≠ D := by rintro c o hc rfl; rw [hc] at hD; cases hD
      have ne2 : ∀ {c : Nat} {o : AObj}, K3 c = some o → c ≠ l := by rintro c o hc rfl; rw [hc] at hl3; cases hl3
      have eD : K1 D = none := hR3.le.none hD
      have el : K1 l = none := hR3.le.none hl3
      obtain ⟨t9, q9, _⟩ := hR3.row
      have b9D := ne1 q9
      have b9l := ne2 q9
      have btD := ne1 q3
      have btl := ne2 q3
      have bfD := ne1 q2
      have bfl := ne2 q2
      have bjD := ne1 q1
      have bjl := ne2 q1
      have btb9 : bt ≠ b9 := by rintro rfl; rw [q3] at q9; simp at q9
      generalize hKs : (K3.set D .dfr).set l (.lrec r0) = Ks
      have l3 : HLe K3 Ks := by rw [← hKs]; exact (HLe.set_fresh hD).trans (HLe.set_fresh hl')
      have sl : Ks l = some (.lrec r0) := by rw [← hKs]; simp [Heap.set]
      have sD : Ks D = some .dfr := by rw [← hKs]; simp [Heap.set, hDl]
      clear hKs
      refine (c_eachIt (l := l) (bj := bj) (bf := bf) (bt := bt) (js := js) (fr := fr) (tt := tt) (hG3.le l3) (hT3.wk l3) hjs hex
        (JRun K1 L b9 bt l D tt r0 most.toNat) (XRun K1 L b9 l D (some (.exit 0))) ?_ ?_ ?_ ?_ ?_ (l3 _ _ q1) (l3 _ _ q2)).mono ?_
      · rintro j K ⟨_, h2, _, _, h5⟩
        exact ⟨kT.wk h2.le, h5⟩
      · rintro j K K' ⟨h1, h2, h3, h4, h5⟩ hle
        exact ⟨h1, h2.up hle, hle _ _ h3, hle _ _ h4, hle _ _ h5⟩
      · rintro j K p o o' ⟨h1, h2, h3, h4, h5⟩ hp hK hno
        have np : ∀ {c : Nat} {o : AObj}, Ks c = some o → c ≠ p := by rintro c o hc rfl; rw [hc] at hp; cases hp
        have p1 := np sl
        have p2 := np sD
        have p3 := np (l3 _ _ q3)
        have p4 := np (l3 _ _ q9)
        exact ⟨h1, h2.setO (hR3.le.none (l3.none hp)) p4.symm hK hno, by simp [Heap.set, p1, h3], by simp [Heap.set, p2, h4], by simp [Heap.set, p3, h5]⟩
      · rintro j K z hz ⟨h1, h2, h3, h4, h5⟩
        rw [hE] at hz
        have hLj : L[j]? = some (runAV (itemOf js z)) := by
          rw [← hLL, List.getElem?_map, List.getElem?_take, if_pos h1, hz]
          rfl
        have hLlt := (List.getElem?_eq_some_iff.1 hLj).1
        have hLt : L.take (j + 1) = L.take j ++ [runAV (itemOf js z)] := by
          rw [List.take_succ_eq_append_getElem hLlt]
          rw [List.getElem?_eq_getElem hLlt] at hLj
          rw [Option.some.inj hLj]
        have hLl : (L.take j).length = j := by rw [List.length_take]; omega
        have hzp : z.2 < js.length ∧ liveJ (jobOf js z.2) = true ∧ z.1 < 13569465600 := by
          have hzE := List.mem_of_getElem? hz
          rw [← hE] at hzE
          unfold planZ at hzE
          split at hzE
          · rename_i hc
            have h := plan_mem hzE
            have h' := plan_le hzE
            have := momP_iff.1 hc.2.1
            exact ⟨h.1, h.2.1, by omega⟩
          · cases hzE
        have hjob : js[z.2]? = some (jobOf js z.2) := by
          unfold jobOf
          rw [List.getD_eq_getElem?_getD, List.getElem?_eq_getElem hzp.1]; rfl
        have htim := live_tim hzp.2.1
        obtain ⟨tmo, htmo⟩ : ∃ q : Nat, (jobOf js z.2).tim = (q : Int) := ⟨(jobOf js z.2).tim.toNat, by omega⟩
        obtain ⟨un, hun⟩ : ∃ q, z.1 + tmo = q := ⟨_, rfl⟩
        have hadd : IntKind.i64.wrap ((z.1 : Int) + (tmo : Int)) = (un : Int) := wadd hun (by omega)
        have hix := fun (K : Heap) b (h : K b = some (.cells (jbC (jobOf js z.2) .no) 25)) => c_indexJob hjob hid h hjs hl
        have hitem : runAV (itemOf js z) = .agg [.sc (.int .i64 (z.1 : Int)), .sc (.int .u64 ((jobOf js z.2).id : Int)), .sc (.int .i64 (un : Int)), .sc (.int .i64 (jobOf js z.2).lim), .sc (.int .i64 (z.2 : Int))] := by
          unfold itemOf
          simp only [htmo, Int.toNat_natCast, runAV, runC, hun]
        have hszL : szs 5 (L.take j) = true := by
          refine szs_take ?_ j
          rw [← hLL]
          exact szs_map (f := fun z => runAV (itemOf js z)) (fun _ => rfl) _
        rw [hitem] at hLt hLj
        generalize L.take j = xs at *
        refine ACalls.round h3 (by simp [hps]) ?_
        obtain ⟨r9', hr9⟩ : ∃ r9, r0 = r9 := ⟨_, rfl⟩
        clear hps hst hpe
        subst hr
        simp -implicitDefEqProofs [aputs]
        refine AAlloc.intro fun b10 f10 => ?_
        simp -implicitDefEqProofs
        refine AAlloc.intro fun b11 f11 => ?_
        simp -implicitDefEqProofs
        generalize hKa : Heap.set _ b11 _ = Ka
        have la : HLe K Ka := by rw [← hKa]; exact (HLe.set_fresh f10).trans (HLe.set_fresh f11)
        have n1011 : b10 ≠ b11 := by rintro rfl; simp [Heap.set] at f11
        have k10 : Ka b10 = some (.cells [.sc (.int .i64 (z.1 : Int)), .sc (.int .u64 ((jobOf js z.2).id : Int))] 111) := by rw [← hKa]; simp [Heap.set, n1011]
        have k11 : Ka b11 = some (.cells (jbC (jobOf js z.2) .no) 25) := by rw [← hKa]; simp [Heap.set]
        clear hKa
        have g3 := la _ _ h3
        refine AGo.bgn rfl g3 rfl ?_
        rw [hr9] at h3 g3 sl ⊢
        generalize hrb : ARec.mk _ _ _ _ _ _ _ _ = rb
        generalize hKb : Heap.set Ka l _ = Kb
        have b10l : b10 ≠ l := by rintro rfl; rw [k10] at g3; simp at g3
        have b11l : b11 ≠ l := by rintro rfl; rw [k11] at g3; simp at g3
        have kb10 : Kb b10 = some (.cells [.sc (.int .i64 (z.1 : Int)), .sc (.int .u64 ((jobOf js z.2).id : Int))] 111) := by rw [← hKb]; simp only [Heap.set, if_neg b10l]; exact k10
        have kb11 : Kb b11 = some (.cells (jbC (jobOf js z.2) .no) 25) := by rw [← hKb]; simp only [Heap.set, if_neg b11l]; exact k11
        have rowb : RowZ 5 189 186 K1 b9 xs.length (fun t => [.sl xs t]) Kb := by rw [← hKb]; exact (h2.up la).setO el b9l.symm g3 (by simp)
        have kbl : Kb l = some (.lrec rb) := by rw [← hKb]; simp [Heap.set]
        have kbD : Kb D = some .dfr := by rw [← hKb]; simp only [Heap.set, if_neg hDl]; exact la _ _ h4
        have kbt : Kb bt = some (.cells [.sc (.int .i64 tt)] 2) := by rw [← hKb]; simp only [Heap.set, if_neg btl]; exact la _ _ h5
        have kb4 := rowb.le _ _ k4
        have kb7 := rowb.le _ _ k7
        obtain ⟨tk, kb9, _⟩ := rowb.row
        have hkeep : KeepN Ks K Kb := by
          intro p o hp hK _
          have : p ≠ l := by rintro rfl; rw [sl] at hp; cases hp
          rw [← hKb]
          simp only [Heap.set, if_neg this]
          exact la _ _ hK
        clear hKb k10 k11 g3
        simp -implicitDefEqProofs [r4, r7, r9, kb4]
        refine ACall.eq (hix _ _ kb11) ?_
        simp -implicitDefEqProofs [r9, kb9, kb10, kb11, htmo, hadd]
        obtain ⟨tk', G0, G', g1, g2, g3, g4, g5, g6⟩ := rowb.grows'
        obtain rfl : tk = tk' := by rw [kb9] at g1; simpa using g1
        refine AApp.grows el_186 g2 g3 (by simp) hszL (by simp [szs]) (by simp; omega) (by simp [maxLen]; omega) fun t' K4 Hn hg' hl' => ?_
        have hn9 := hl' _ _ (hg'.le _ _ g5)
        have kp : ∀ {p : Nat} {o : AObj}, Kb p = some o → (∀ n cap sz e, o ≠ .open n cap sz e) → Hn p = some o := fun {p o} hp ho => hl' _ _ (hg'.le _ _ (g6 p o hp ho))
        have hn7 := kp kb7 (by simp)
        have hnl := kp kbl (by simp)
        have hnD := kp kbD (by simp)
        have hnt := kp kbt (by simp)
        have hsd := RowZ.stored (T := 186) (F := fun t' => [.sl (xs ++ [.agg [.sc (.int .i64 (z.1 : Int)), .sc (.int .u64 ((jobOf js z.2).id : Int)), .sc (.int .i64 (un : Int)), .sc (.int .i64 (jobOf js z.2).lim), .sc (.int .i64 (z.2 : Int))]]) t']) g4 h9 g5 hg' hl'
        have hnk : KeepN Ks K Hn := fun p o hp hK ho => kp (hkeep p o hp hK ho) ho
        have hkn : ∀ o, KeepN Ks K ((Hn.set b9 (.cells [.sl (xs ++ [.agg [.sc (.int .i64 (z.1 : Int)), .sc (.int .u64 ((jobOf js z.2).id : Int)), .sc (.int .i64 (un : Int)), .sc (.int .i64 (jobOf js z.2).lim), .sc (.int .i64 (z.2 : Int))]]) t'] 186)).set l o) := by
          intro o p o2 hp hK ho
          have p1 : p ≠ l := by rintro rfl; rw [sl] at hp; cases hp
          have p2 : p ≠ b9 := by rintro rfl; rw [l3 _ _ q9] at hp; cases hp
          simp only [Heap.set, if_neg p1, if_neg p2]
          exact hnk p o2 hp hK ho
        have hso : ∀ r', RowZ 5 189 186 K1 b9 (xs ++ [(.agg [.sc (.int .i64 (z.1 : Int)), .sc (.int .u64 ((jobOf js z.2).id : Int)), .sc (.int .i64 (un : Int)), .sc (.int .i64 (jobOf js z.2).lim), .sc (.int .i64 (z.2 : Int))] : AV)]).length (fun t' => [.sl (xs ++ [.agg [.sc (.int .i64 (z.1 : Int)), .sc (.int .u64 ((jobOf js z.2).id : Int)), .sc (.int .i64 (un : Int)), .sc (.int .i64 (jobOf js z.2).lim), .sc (.int .i64 (z.2 : Int))]]) t'])
            ((Hn.set b9 (.cells [.sl (xs ++ [.agg [.sc (.int .i64 (z.1 : Int)), .sc (.int .u64 ((jobOf js z.2).id : Int)), .sc (.int .i64 (un : Int)), .sc (.int .i64 (jobOf js z.2).lim), .sc (.int .i64 (z.2 : Int))]]) t'] 186)).set l (.lrec r')) := fun r' => hsd.setO el b9l.symm (by simp [Heap.set, b9l.symm]; exact hnl) (by simp)
        by_cases hjm : j + 1 = most.toNat
        · have hjm' : (xs.length : Int) + 1 = most := by omega
          simp -implicitDefEqProofs [r7, r9, hn7, hn9, n79, hjm']
          refine ⟨rb, by simp [Heap.set, b9l.symm, hnl], .inr ?_⟩
          have hLe : L = L.take (j + 1) := by rw [List.take_of_length_le]; rw [← hLL]; simp; omega
          rw [hLe, hLt]
          exact ⟨rfl, hso _, ⟨_, by simp [Heap.set]; rfl, by simp, by simp⟩, by simp [Heap.set, hDl, b9D.symm, b9l, hnD]⟩
        · have hjm' : ¬ (xs.length : Int) + 1 = most := by omega
          simp -implicitDefEqProofs [r7, r9, hn7, hn9, n79, hjm']
          refine ⟨rb, by simp [Heap.set, b9l.symm, hnl], .inl ⟨rfl, ?_, hkn _⟩⟩
          refine ⟨Nat.lt_of_le_of_ne h1 hjm, ?_, by simp [Heap.set]; rw [← hrb, ← hr9], by simp [Heap.set, hDl, b9D.symm, hnD], by simp [Heap.set, btl, btb9, hnt]⟩
          rw [hLt]
          exact hso _
      · refine ⟨by omega, ?_, sl, sD, l3 _ _ q3⟩
        rw [List.take_zero]
        exact hR3.up l3
      · rintro v K (⟨h1, h2, h3, h4, h5⟩ | h)
        · rw [hE] at h1 h2
          have hLl : L.length = min most.toNat E.length := by rw [← hLL]; simp
          rw [List.take_of_length_le (by omega)] at h2
          exact .inl ⟨h2, ⟨_, h3, by rw [hst]; simp, hpe⟩, h4⟩
        · exact .inr h
    · rintro D l v K hD hl (⟨_, ⟨r, h1, h2, _⟩, _⟩ | ⟨_, ⟨r, h1, h2, _⟩, _⟩)
      · exact ⟨r, h1, h2⟩
      · exact ⟨r, h1, h2⟩
    · rintro D l v K r hD hl hres hK
      have hDl : D ≠ l := by intro e; subst e; simp [Heap.set] at hl
      have hl3 : K3 l = none := by simpa [Heap.set, hDl.symm] using hl
      have eD := kW.none (hR3.le.none hD)
      have el := kW.none (hR3.le.none hl3)
      obtain ⟨p, hp, row, ⟨r', gl, _, hpe⟩, gD⟩ : ∃ p, (p = none ∨ p = some (.exit 0)) ∧ XRun K1 L b9 l D p K := by
        rcases hres with h | h
        · exact ⟨_, .inl rfl, h⟩
        · exact ⟨_, .inr rfl, h⟩
      rw [gl] at hK
      cases hK
      obtain ⟨tk, k9, _⟩ := row.row
      have b9l : b9 ≠ l := by rintro rfl; rw [k9] at gl; simp at gl
      have b9D : b9 ≠ D := by rintro rfl; rw [k9] at gD; simp at gD
      have gW := kW.wk.trans row.le.wk
      rcases hp with rfl | rfl
      · simp -implicitDefEqProofs [hpe, del_apply, r9, b9l, b9D, k9, mark_ret, mark_nrm, hDl, gD]
        exact HWk.delNew eD (HWk.delNew el gW)
      · simp -implicitDefEqProofs [hpe, del_apply, r9, b9l, b9D, k9, mark_ret, mark_nrm, hDl, gD]
        exact HWk.delNew eD (HWk.delNew el gW)
end Go.Proofs.YtmoncokklkiikaaGreatDoor
