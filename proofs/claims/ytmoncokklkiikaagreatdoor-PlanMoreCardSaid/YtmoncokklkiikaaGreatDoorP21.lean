/- Which row of a plan is next. The best row is the earliest, the first of those. A plan's rows, as they go on: what is left of each, and which is next. A plan's items, gone over: the rows lie in a row of their own, and go on in place. A plan's items, gone over: each round is told an item and its job. Rows that are the same: what slices.Equal tells. Jobs that are the same. A cell, one of whose places holds a row that grows. -/
import Derived.Test.YtmoncokklkiikaaGreatDoorP20
import Derived.Test.YtmoncokklkiikaaGreatDoorP16
import Derived.Test.YtmoncokklkiikaaGreatDoorP10
set_option linter.unusedSimpArgs false
set_option linter.unusedVariables false
set_option linter.unnecessarySimpa false
namespace Go.Proofs.YtmoncokklkiikaaGreatDoor
open Rg Go
variable {H : Heap}
def ahead (rs : List PRow) (tt : Int) (r : PRow) (b : Option Nat) : Bool :=
  !r.over && decide (r.at_ ≤ tt) && (match b with | none => true | some k => match rs[k]? with | none => false | some q => decide (r.at_ < q.at_))
def bestGo (rs : List PRow) (tt : Int) : Nat → Option Nat → Option Nat
  | 0, b => b
  | m + 1, b => bestGo rs tt m (match rs[rs.length - (m + 1)]? with
    | none => b
    | some r => if ahead rs tt r b = true then some (rs.length - (m + 1)) else b)
def bestI (b : Option Nat) : Int := match b with | none => -1 | some k => (k : Int)
theorem row_cells (rs : List PRow) (zs : List AV) {i : Nat} (h : i < rs.length) : (((rs.map prAV).flatMap AV.cells ++ zs).drop (i * 24)).take 24 = rowC rs[i] .no := by
  have hlen : ∀ l : List PRow, ((l.map prAV).flatMap AV.cells).length = l.length * 24 := fun l => by
    rw [flat_length (szs_spec (szs_map (f := prAV) (sz := 24) (fun _ => rfl) l)), List.length_map]
  have es : rs.map prAV = (rs.take i).map prAV ++ prAV rs[i] :: (rs.drop (i + 1)).map prAV := by
    rw [← List.map_cons, ← List.drop_eq_getElem_cons h, ← List.map_append, List.take_append_drop]
  rw [es, List.flatMap_append, List.flatMap_cons, List.append_assoc, List.append_assoc, List.drop_left' (by rw [hlen, List.length_take]; congr 1; omega)]
  exact List.take_left' (l₁ := rowC rs[i] .no) rfl
theorem rows_len (rs : List PRow) (zs : List AV) : rs.length * 24 ≤ ((rs.map prAV).flatMap AV.cells ++ zs).length := by
  rw [List.length_append, flat_length (szs_spec (szs_map (f := prAV) (sz := 24) (fun _ => rfl) rs)), List.length_map]
  omega
set_option maxHeartbeats 4000000 in
theorem c_planFirst {b0 b1 g cap : Nat} {rs : List PRow} {zs : List AV} {tt : Int} (hrs : rs.length ≤ 1000000) (h0 : H b0 = some (.cells [.sc (.slice (some ⟨g, 0, none⟩) rs.length cap)] 226)) (h1 : H b1 = some (.cells [.sc (.int .i64 tt)] 2))
    (hg : H g = some (.cells ((rs.map prAV).flatMap AV.cells ++ zs) 229)) (hc : rs.length ≤ cap) :
    AOk Tryz.prog 175 [ptr b0, ptr b1] H (.sc (.int .i64 (bestI (bestGo rs tt rs.length none)))) H := by
  have hrowF := fun i h => row_cells rs zs (i := i) h
  have hFl := rows_len rs zs
  generalize (rs.map prAV).flatMap AV.cells ++ zs = F at *
  refine ACalls.into Tryz.func175 rfl Tryz.ntmps175 Tryz.results175 (by simp) ?_
  simp -implicitDefEqProofs [h0]
  refine AGo.rounds (fun μ ρ K => ∃ (i : Nat) (b : Option Nat), μ = rs.length - i ∧ i ≤ rs.length ∧ bestGo rs tt (rs.length - i) b = bestGo rs tt rs.length none ∧ (∀ k, b = some k → k < rs.length) ∧ ρ 0 = ptr b0 ∧ ρ 1 = ptr b1 ∧ ρ 3 = .sc (.int .i64 (bestI b)) ∧
    ρ 6 = .sc (.slice (some ⟨g, 0, none⟩) rs.length cap) ∧ ρ 7 = .sc (.int .i64 (rs.length : Int)) ∧ ρ 8 = .sc (.int .i64 (i : Int)) ∧ HLe H K) ?_ (m := rs.length) (HLe.refl _)
    ⟨0, none, by omega, by omega, by simp, by simp, by simp, by simp, by simp [bestI], by simp, by simp, by simp, HLe.refl _⟩
  rintro μ ρ K ih ⟨i, b, rfl, hi, hgo, hb, r0, r1, r3, r6, r7, r8, hle⟩
  have q0 := hle _ _ h0
  have q1 := hle _ _ h1
  have qg := hle _ _ hg
  rcases Nat.lt_or_ge i rs.length with hlt | hge
  · obtain ⟨r, hr, _⟩ := getAt hlt
    have hrow := hrowF i hlt
    rw [hr] at hrow
    have hfit : i * 24 + 24 ≤ F.length := by omega
    have hwi : IntKind.i64.wrap ((i : Int) + 1) = ((i + 1 : Nat) : Int) := wadd (b := 1) rfl (by omega)
    have hst : bestGo rs tt (rs.length - (i + 1)) (if ahead rs tt r b = true then some i else b) = bestGo rs tt rs.length none := by
      obtain ⟨m, hm⟩ : ∃ m, rs.length - i = m + 1 := ⟨rs.length - i - 1, by omega⟩
      rw [hm, bestGo, show rs.length - (m + 1) = i by omega, List.getElem?_eq_getElem hlt, hr] at hgo
      rw [show rs.length - (i + 1) = m by omega]
      exact hgo
    simp -implicitDefEqProofs [r6, r7, r8, hlt, qg, hrow, hfit]
    refine AAlloc.intro fun b5 h5 => ?_
    simp -implicitDefEqProofs
    have hl2 : ∀ o, HLe H (K.set b5 o) := fun o => hle.trans (HLe.set_fresh h5)
    have n5 : ∀ {c : Nat} {o : AObj}, K c = some o → (c = b5) = False := fun hc => eq_false (by rintro rfl; rw [h5] at hc; cases hc)
    have n05 := n5 q0
    have n15 := n5 q1
    have ng5 := n5 qg
    refine go_draw 23 f_mixed (by decide +kernel) ?_
    cases b with
    | none =>
      cases ho : r.over with
      | true =>
        have hah : ahead rs tt r none = false := by unfold ahead; rw [ho]; rfl
        rw [hah, if_neg (by simp)] at hst
        simp -implicitDefEqProofs [ho, r3, bestI, r8, hwi]
        exact AGo.again ih (m' := rs.length - (i + 1)) (by omega) (HLe.refl _) ⟨i + 1, none, rfl, by omega, hst, by simp, by simp [r0], by simp [r1], by simp [r3, bestI], by simp [r6], by simp [r7], by simp, hl2 _⟩
      | false =>
        by_cases hle' : r.at_ ≤ tt
        · have hah : ahead rs tt r none = true := by unfold ahead; rw [ho]; simp [hle']
          rw [hah, if_pos rfl] at hst
          simp -implicitDefEqProofs [ho, r1, q1, n15, hle', r3, bestI, r8, hwi]
          exact AGo.again ih (m' := rs.length - (i + 1)) (by omega) (HLe.refl _) ⟨i + 1, some i, rfl, by omega, hst, fun k hk => by cases hk; exact hlt, by simp [r0], by simp [r1], by simp [bestI], by simp [r6], by simp [r7], by simp, hl2 _⟩
        · have hah : ahead rs tt r none = false := by unfold ahead; rw [ho]; simp [hle']
          rw [hah, if_neg (by simp)] at hst
          simp -implicitDefEqProofs [ho, r1, q1, n15, hle', r3, bestI, r8, hwi]
          exact AGo.again ih (m' := rs.length - (i + 1)) (by omega) (HLe.refl _) ⟨i + 1, none, rfl, by omega, hst, by simp, by simp [r0], by simp [r1], by simp [r3, bestI], by simp [r6], by simp [r7], by simp, hl2 _⟩
    | some k =>
      have hk := hb k rfl
      obtain ⟨q, hq, hq'⟩ := getAt hk
      have hrk := hrowF k hk
      rw [hq] at hrk
      have hat : F[k * 24 + 22]? = some (.sc (.int .i64 q.at_)) := by
        have := congrArg (fun l => l[22]?) hrk
        simpa [List.getElem?_take, List.getElem?_drop] using this
      have hk0 : ¬ (k : Int) < 0 := by omega
      cases ho : r.over with
      | true =>
        have hah : ahead rs tt r (some k) = false := by unfold ahead; rw [ho]; rfl
        rw [hah, if_neg (by simp)] at hst
        simp -implicitDefEqProofs [ho, r3, bestI, r8, hwi]
        exact AGo.again ih (m' := rs.length - (i + 1)) (by omega) (HLe.refl _) ⟨i + 1, some k, rfl, by omega, hst, hb, by simp [r0], by simp [r1], by simp [r3, bestI], by simp [r6], by simp [r7], by simp, hl2 _⟩
      | false =>
        by_cases hle' : r.at_ ≤ tt
        · by_cases hlt' : r.at_ < q.at_
          · have hah : ahead rs tt r (some k) = true := by unfold ahead; rw [ho]; simp [hle', hq', hlt', hk, hq]
            rw [hah, if_pos rfl] at hst
            simp -implicitDefEqProofs [ho, r0, r1, q0, q1, n05, n15, ng5, qg, hle', r3, bestI, r8, hwi, hk, hk0, hat, hlt']
            exact AGo.again ih (m' := rs.length - (i + 1)) (by omega) (HLe.refl _) ⟨i + 1, some i, rfl, by omega, hst, fun k hk => by cases hk; exact hlt, by simp [r0], by simp [r1], by simp [bestI], by simp [r6], by simp [r7], by simp, hl2 _⟩
          · have hah : ahead rs tt r (some k) = false := by unfold ahead; rw [ho]; simp [hle', hq', hlt', hk, hq]
            rw [hah, if_neg (by simp)] at hst
            simp -implicitDefEqProofs [ho, r0, r1, q0, q1, n05, n15, ng5, qg, hle', r3, bestI, r8, hwi, hk, hk0, hat, hlt']
            exact AGo.again ih (m' := rs.length - (i + 1)) (by omega) (HLe.refl _) ⟨i + 1, some k, rfl, by omega, hst, hb, by simp [r0], by simp [r1], by simp [r3, bestI], by simp [r6], by simp [r7], by simp, hl2 _⟩
        · have hah : ahead rs tt r (some k) = false := by unfold ahead; rw [ho]; simp [hle']
          rw [hah, if_neg (by simp)] at hst
          simp -implicitDefEqProofs [ho, r1, q1, n15, hle', r3, bestI, r8, hwi]
          exact AGo.again ih (m' := rs.length - (i + 1)) (by omega) (HLe.refl _) ⟨i + 1, some k, rfl, by omega, hst, hb, by simp [r0], by simp [r1], by simp [r3, bestI], by simp [r6], by simp [r7], by simp, hl2 _⟩
  · have hn : ¬ i < rs.length := by omega
    have e : rs.length - i = 0 := by omega
    rw [e] at hgo
    have hgo' : b = bestGo rs tt rs.length none := hgo
    rw [← hgo']
    simp -implicitDefEqProofs [r3, r7, r8, hn]
    exact hle.wk
end Go.Proofs.YtmoncokklkiikaaGreatDoor
namespace Go.Proofs.YtmoncokklkiikaaGreatDoor
open Rg Go
def liveR (tt : Int) (r : PRow) : Prop := r.over = false ∧ r.at_ ≤ tt
def BestR (rs : List PRow) (tt : Int) (i : Nat) : Option Nat → Prop
  | none => ∀ (j : Nat) (q : PRow), j < i → rs[j]? = some q → ¬ liveR tt q
  | some k => k < i ∧ ∃ r, rs[k]? = some r ∧ liveR tt r ∧ ∀ (j : Nat) (q : PRow), j < i → rs[j]? = some q → liveR tt q → r.at_ ≤ q.at_ ∧ (j < k → r.at_ < q.at_)
theorem best_step {rs : List PRow} {tt : Int} {i : Nat} {r : PRow} {b : Option Nat} (hr : rs[i]? = some r) (h : BestR rs tt i b) : BestR rs tt (i + 1) (if ahead rs tt r b = true then some i else b) := by
  cases b with
  | none =>
    by_cases hl : liveR tt r
    · have ha : ahead rs tt r none = true := by unfold ahead; simp [hl.1, hl.2]
      rw [ha, if_pos rfl]
      refine ⟨by omega, r, hr, hl, fun j q hj hq hlq => ?_⟩
      by_cases hji : j = i
      · subst hji; rw [hr] at hq; cases hq; exact ⟨by omega, fun h => by omega⟩
      · exact absurd hlq (h j q (by omega) hq)
    · have ha : ahead rs tt r none = false := by
        unfold ahead liveR at *
        cases ho : r.over
        · have : ¬ r.at_ ≤ tt := fun h => hl ⟨ho, h⟩
          simp [this]
        · rfl
      rw [ha, if_neg (by simp)]
      intro j q hj hq
      by_cases hji : j = i
      · subst hji; rw [hr] at hq; cases hq; exact hl
      · exact h j q (by omega) hq
  | some k =>
    obtain ⟨hk, p, hp, hlp, hall⟩ := h
    by_cases hl : liveR tt r ∧ r.at_ < p.at_
    · have ha : ahead rs tt r (some k) = true := by unfold ahead; simp [hl.1.1, hl.1.2, hp, hl.2]
      rw [ha, if_pos rfl]
      refine ⟨by omega, r, hr, hl.1, fun j q hj hq hlq => ?_⟩
      by_cases hji : j = i
      · subst hji; rw [hr] at hq; cases hq; exact ⟨by omega, fun h => by omega⟩
      · have := (hall j q (by omega) hq hlq).1
        have := hl.2
        exact ⟨by omega, fun _ => by omega⟩
    · have ha : ahead rs tt r (some k) = false := by
        unfold ahead liveR at *
        cases ho : r.over
        · by_cases h1 : r.at_ ≤ tt
          · have : ¬ r.at_ < p.at_ := fun h => hl ⟨⟨ho, h1⟩, h⟩
            simp only [hp, this, decide_false, Bool.and_false]
          · simp [h1]
        · rfl
      rw [ha, if_neg (by simp)]
      refine ⟨by omega, p, hp, hlp, fun j q hj hq hlq => ?_⟩
      by_cases hji : j = i
      · subst hji
        rw [hr] at hq
        cases hq
        have : ¬ r.at_ < p.at_ := fun h => hl ⟨hlq, h⟩
        exact ⟨by omega, fun h => by omega⟩
      · exact hall j q (by omega) hq hlq
theorem bestGo_is {rs : List PRow} {tt : Int} : ∀ (m : Nat) (b : Option Nat), m ≤ rs.length → BestR rs tt (rs.length - m) b → BestR rs tt rs.length (bestGo rs tt m b)
  | 0, b, _, h => h
  | m + 1, b, hm, h => by
    have hlt : rs.length - (m + 1) < rs.length := by omega
    rw [bestGo, List.getElem?_eq_getElem hlt]
    refine bestGo_is m _ (by omega) ?_
    have := best_step (List.getElem?_eq_getElem hlt) h
    rw [show rs.length - m = rs.length - (m + 1) + 1 by omega]
    exact this
theorem best_all (rs : List PRow) (tt : Int) : BestR rs tt rs.length (bestGo rs tt rs.length none) :=
  bestGo_is rs.length none (Nat.le_refl _) (fun j q hj _ => by omega)
end Go.Proofs.YtmoncokklkiikaaGreatDoor
namespace Go.Proofs.YtmoncokklkiikaaGreatDoor
open Rg Go
variable {H : Heap}
def jb0 : Jb := ⟨0, [], [], 0, 0, 0, 0, 0, [], false, 0, 0⟩
def restR (tt : Nat) (r : PRow) : List Nat := if r.over = false ∧ r.at_ ≤ (tt : Int) then r.at_.toNat :: firesL r.x r.at_.toNat tt else []
structure RowOk (r : PRow) : Prop where
  ok : r.x.ok
  may : mayX r.x = true
  nat : ∃ a : Nat, r.at_ = (a : Int) ∧ a < 13569465600
theorem RowOk.next {r : PRow} (h : RowOk r) {a : Nat} {n : Option Nat} (hn : IsNext r.x a n) : RowOk (r.next n) := by
  refine ⟨h.ok, h.may, optN n, rfl, ?_⟩
  cases n with
  | none => simp [optN]
  | some t => exact hn.2.1
theorem rest_next {r : PRow} {tt a : Nat} (ht : tt < 13569465600) {n : Option Nat} (hn : IsNext r.x a n) : restR tt (r.next n) = firesL r.x a tt := by
  cases n with
  | none =>
    rw [fires_over (by omega) hn (fun t h => by cases h)]
    rfl
  | some t =>
    by_cases h : t ≤ tt
    · rw [fires_next hn (by omega)]
      unfold restR PRow.next
      simp only [optN, Option.isNone_some, Int.toNat_natCast, true_and]
      rw [if_pos (by omega)]
    · rw [fires_over (by omega) hn (fun u hu => by cases hu; omega)]
      unfold restR PRow.next
      simp only [optN, Option.isNone_some, Int.toNat_natCast, true_and]
      rw [if_neg (by omega)]
theorem rest_sorted {r : PRow} {tt : Nat} : (restR tt r).Pairwise (· < ·) := by
  unfold restR
  split
  · refine List.pairwise_cons.2 ⟨fun u hu => ?_, fires_sorted _ _ _⟩
    have := (fires_mem.1 hu).2.1
    omega
  · exact List.Pairwise.nil
theorem rest_live {r : PRow} {tt u : Nat} {Q : List Nat} (h : restR tt r = u :: Q) (hr : RowOk r) : liveR tt r ∧ r.at_ = (u : Int) := by
  unfold restR at h
  split at h
  · rename_i h1
    obtain ⟨a, ha, _⟩ := hr.nat
    rw [List.cons.injEq] at h
    exact ⟨h1, by omega⟩
  · cases h
theorem best_none {rs : List PRow} {tt : Nat} (h : BestR rs tt rs.length none) : ∀ R ∈ rs.map (restR tt), R = [] := by
  intro R hR
  obtain ⟨r, hr, rfl⟩ := List.mem_map.1 hR
  obtain ⟨i, hi, e⟩ := List.mem_iff_getElem.1 hr
  have := h i r hi (by rw [List.getElem?_eq_getElem hi, e])
  exact if_neg this
theorem best_some {rs : List PRow} {tt k : Nat} (hok : ∀ r ∈ rs, RowOk r) (h : BestR rs tt rs.length (some k)) :
    ∃ r, rs[k]? = some r ∧ r.at_.toNat ≤ tt ∧ IsPick (rs.map (restR tt)) k r.at_.toNat (firesL r.x r.at_.toNat tt) := by
  obtain ⟨hk, r, hr, hl, hall⟩ := h
  obtain ⟨a, ha, _⟩ := (hok r (List.mem_of_getElem? hr)).nat
  have hla := hl.2
  refine ⟨r, hr, by omega, ⟨by rw [List.getElem?_map, hr]; exact congrArg some (if_pos hl), fun k' u Q hq => ?_⟩⟩
  rw [List.getElem?_map] at hq
  obtain ⟨q, hq1, hq2⟩ := Option.map_eq_some_iff.1 hq
  obtain ⟨hlq, hu⟩ := rest_live hq2 (hok q (List.mem_of_getElem? hq1))
  have := hall k' q (List.getElem?_eq_some_iff.1 hq1).1 hq1 hlq
  omega
def restJ (a tt : Nat) (j : Jb) : List Nat := if liveJ j = true then firesL (cronK j.ex).1 a tt else []
def planL (js : List Jb) (a tt : Nat) : List PIt := putAll 0 [] (js.map (restJ a tt))
theorem restJ_sorted (a tt : Nat) (j : Jb) : (restJ a tt j).Pairwise (· < ·) := by
  unfold restJ
  split
  · exact fires_sorted _ _ _
  · exact List.Pairwise.nil
theorem planL_merged (js : List Jb) (a tt : Nat) : Merged (js.map (restJ a tt)) (planL js a tt) := merged_put fun R hR => by
  obtain ⟨j, _, rfl⟩ := List.mem_map.1 hR
  exact restJ_sorted a tt j
theorem live_row {j : Jb} {a : Nat} (ha : a < 13569465600) (h : liveJ j = true) : RowOk (firstRow a j) := by
  have hm : mayJ j = 0 := by unfold liveJ at h; simp at h; exact h.2
  exact RowOk.next (r := ⟨j, (cronK j.ex).1, a, false⟩) ⟨cronK_lt j.ex, cronK_may (live_ex hm), a, rfl, ha⟩ (nextOf_is _ a)
theorem rows_ok {js : List Jb} {a : Nat} (ha : a < 13569465600) : ∀ r ∈ rowsP js a, RowOk r := fun r hr => by
  obtain ⟨j, hj, rfl⟩ := List.mem_map.1 hr
  exact live_row ha (List.mem_filter.1 hj).2
theorem rows_jobs (js : List Jb) (a : Nat) : (rowsP js a).map PRow.j = js.filter liveJ := by
  unfold rowsP
  rw [List.map_map]
  exact List.map_id' _
theorem rows_rest (js : List Jb) {a tt : Nat} (ht : tt < 13569465600) : (rowsP js a).map (restR tt) = (js.filter liveJ).map (restJ a tt) := by
  unfold rowsP
  rw [List.map_map]
  refine List.map_congr_left fun j hj => ?_
  have hl := (List.mem_filter.1 hj).2
  unfold restJ
  rw [if_pos hl]
  exact rest_next (r := ⟨j, (cronK j.ex).1, a, false⟩) ht (nextOf_is _ a)
def liveIx (js : List Jb) : List Nat := (List.range js.length).filter fun i => liveJ (js.getD i jb0)
theorem liveIx_sorted (js : List Jb) : (liveIx js).Pairwise (· < ·) := List.Pairwise.filter _ List.pairwise_lt_range
theorem filter_ix : ∀ js : List Jb, js.filter liveJ = ((List.range js.length).filter fun i => liveJ (js.getD i jb0)).map fun i => js.getD i jb0 := fun js => by
  have h : js = (List.range js.length).map fun i => js.getD i jb0 := by
    refine List.ext_getElem (by simp) fun i h1 h2 => ?_
    simp [h1]
  conv => lhs; rw [h, List.filter_map]
  rfl
theorem live_at {js : List Jb} {k : Nat} (hk : k < (liveIx js).length) : (js.filter liveJ)[k]? = some (js.getD (liveIx js)[k] jb0) := by
  rw [filter_ix]
  show ((liveIx js).map _)[k]? = _
  rw [List.getElem?_map, List.getElem?_eq_getElem hk, Option.map_some]
theorem live_len (js : List Jb) : (js.filter liveJ).length = (liveIx js).length := by
  conv => lhs; rw [filter_ix]
  rw [List.length_map]; rfl
theorem liveIx_lt {js : List Jb} {k : Nat} (hk : k < (liveIx js).length) : (liveIx js)[k] < js.length ∧ liveJ (js.getD (liveIx js)[k] jb0) = true := by
  have := List.getElem_mem hk
  obtain ⟨h1, h2⟩ := List.mem_filter.1 this
  exact ⟨List.mem_range.1 h1, h2⟩
theorem mono_ix {L : List Nat} (h : L.Pairwise (· < ·)) {i k : Nat} (hik : i < k) (hk : k < L.length) : L.getD i 0 < L.getD k 0 := by
  rw [List.getD_eq_getElem?_getD, List.getD_eq_getElem?_getD, List.getElem?_eq_getElem hk, List.getElem?_eq_getElem (by omega)]
  exact List.pairwise_iff_getElem.1 h i k (by omega) hk hik
theorem merged_lift {js : List Jb} {a tt : Nat} {M : List PIt} (h : Merged ((js.filter liveJ).map (restJ a tt)) M) : M.map (fun z => (z.1, (liveIx js).getD z.2 0)) = planL js a tt := by
  have hlt : ∀ z ∈ M, z.2 < (liveIx js).length := fun ⟨t, i⟩ hz => by
    obtain ⟨R, hR, _⟩ := (h.mem t i).1 hz
    have := (List.getElem?_eq_some_iff.1 hR).1
    rwa [List.length_map, live_len] at this
  have hgd : ∀ {k : Nat} (hk : k < (liveIx js).length), (liveIx js).getD k 0 = (liveIx js)[k] := fun hk => by
    rw [List.getD_eq_getElem?_getD, List.getElem?_eq_getElem hk]; rfl
  refine Merged.one (Rs := js.map (restJ a tt)) ⟨?_, fun t i => ?_⟩ (planL_merged js a tt)
  · rw [List.pairwise_map]
    refine List.Pairwise.imp_of_mem (fun {z w} hz hw hzw => ?_) h.srt
    rcases hzw with h1 | ⟨h1, h2⟩
    · exact .inl h1
    · exact .inr ⟨h1, mono_ix (liveIx_sorted js) h2 (hlt w hw)⟩
  · rw [List.mem_map]
    constructor
    · rintro ⟨⟨u, k⟩, hz, e⟩
      cases e
      have hk := hlt _ hz
      obtain ⟨R, hR, ht⟩ := (h.mem u k).1 hz
      rw [List.getElem?_map, live_at hk, Option.map_some] at hR
      cases hR
      simp only at hk
      refine ⟨_, ?_, ht⟩
      rw [hgd hk, List.getElem?_map, List.getElem?_eq_getElem (liveIx_lt hk).1, Option.map_some]
      simp [(liveIx_lt hk).1]
    · rintro ⟨R, hR, ht⟩
      rw [List.getElem?_map] at hR
      obtain ⟨j, hj, rfl⟩ := Option.map_eq_some_iff.1 hR
      obtain ⟨hi, hj'⟩ := List.getElem?_eq_some_iff.1 hj
      have hd : js.getD i jb0 = j := by rw [List.getD_eq_getElem?_getD, hj]; rfl
      have hl : liveJ j = true := by
        refine Classical.byContradiction fun hn => ?_
        unfold restJ at ht
        rw [if_neg hn] at ht
        cases ht
      have hm : i ∈ liveIx js := List.mem_filter.2 ⟨List.mem_range.2 hi, by rw [hd]; exact hl⟩
      obtain ⟨k, hk, e⟩ := List.mem_iff_getElem.1 hm
      refine ⟨(t, k), (h.mem t k).2 ⟨restJ a tt j, ?_, ht⟩, by simp only [hgd hk, e]⟩
      rw [List.getElem?_map, live_at hk, e, hd]
      rfl
def jobOf (js : List Jb) (i : Nat) : Jb := js.getD i jb0
theorem merged_jobs {js : List Jb} {a tt : Nat} {M : List PIt} (h : Merged ((js.filter liveJ).map (restJ a tt)) M) : M.map (fun z => (z.1, (js.filter liveJ).getD z.2 jb0)) = (planL js a tt).map fun z => (z.1, jobOf js z.2) := by
  rw [← merged_lift h, List.map_map]
  refine List.map_congr_left fun ⟨t, k⟩ hz => ?_
  obtain ⟨R, hR, _⟩ := (h.mem t k).1 hz
  have hk := (List.getElem?_eq_some_iff.1 hR).1
  rw [List.length_map, live_len] at hk
  have e : (liveIx js).getD k 0 = (liveIx js)[k] := by rw [List.getD_eq_getElem?_getD, List.getElem?_eq_getElem hk]; rfl
  simp only [Function.comp_apply, List.getD_eq_getElem?_getD (l := js.filter liveJ), live_at hk, e, Option.getD_some, jobOf]
theorem plan_mem {js : List Jb} {a tt : Nat} {z : PIt} (h : z ∈ planL js a tt) : z.2 < js.length ∧ liveJ (jobOf js z.2) = true ∧ z.1 ∈ firesL (cronK (jobOf js z.2).ex).1 a tt := by
  obtain ⟨t, i⟩ := z
  obtain ⟨R, hR, ht⟩ := ((planL_merged js a tt).mem t i).1 h
  rw [List.getElem?_map] at hR
  obtain ⟨j, hj, rfl⟩ := Option.map_eq_some_iff.1 hR
  have hd : jobOf js i = j := by unfold jobOf; rw [List.getD_eq_getElem?_getD, hj]; rfl
  unfold restJ at ht
  split at ht
  · rename_i hl
    simp only
    rw [hd]
    exact ⟨(List.getElem?_eq_some_iff.1 hj).1, hl, ht⟩
  · cases ht
theorem plan_le {js : List Jb} {a tt : Nat} {z : PIt} (h : z ∈ planL js a tt) : z.1 ≤ tt ∧ a < z.1 := by
  have := fires_mem.1 (plan_mem h).2.2
  omega
def itemOf (js : List Jb) (z : PIt) : PI := ⟨z.1, (jobOf js z.2).id, z.2, (jobOf js z.2).tim.toNat, (jobOf js z.2).lim⟩
theorem live_bad {j : Jb} (h : liveJ j = true) : badJ j = false ∧ j.deps.length ≤ 8 := by
  have hm : mayJ j = 0 := by unfold liveJ at h; simp at h; exact h.2
  unfold mayJ at hm
  split at hm
  · cases hm
  · split at hm
    · cases hm
    · split at hm
      · rename_i hc; exact absurd hm hc
      · split at hm
        · cases hm
        · split at hm
          · cases hm
          · rename_i h1 h2
            exact ⟨by simpa using h2, by omega⟩
theorem live_tim {j : Jb} (h : liveJ j = true) : 1 ≤ j.tim ∧ j.tim ≤ 86400 ∧ 1 ≤ j.lim ∧ j.lim ≤ 8 := by
  have := (live_bad h).1
  unfold badJ at this
  simp only [Bool.or_eq_false_iff, decide_eq_false_iff_not] at this
  omega
theorem planItem_ok {js : List Jb} {a tt : Nat} (ht : tt < 13569465600) {z : PIt} (h : z ∈ planL js a tt) : (itemOf js z).ok := by
  have h1 := plan_le h
  have h2 := live_tim (plan_mem h).2.1
  unfold PI.ok itemOf
  simp only
  omega
end Go.Proofs.YtmoncokklkiikaaGreatDoor
namespace Go.Proofs.YtmoncokklkiikaaGreatDoor
open Rg Go
variable {H : Heap}
theorem rows_split (rs : List PRow) (zs : List AV) {i : Nat} (h : i < rs.length) : (rs.map prAV).flatMap AV.cells ++ zs = ((rs.take i).map prAV).flatMap AV.cells ++ (rowC rs[i] .no ++ (((rs.drop (i + 1)).map prAV).flatMap AV.cells ++ zs)) := by
  conv => lhs; rw [← List.take_append_drop i rs, List.drop_eq_getElem_cons h]
  simp only [List.map_append, List.map_cons, List.flatMap_append, List.flatMap_cons, List.append_assoc]
  rfl
theorem rows_flat (l : List PRow) : ((l.map prAV).flatMap AV.cells).length = l.length * 24 := by
  rw [flat_length (szs_spec (szs_map (f := prAV) (sz := 24) (fun _ => rfl) l)), List.length_map]
theorem row_set (rs : List PRow) (zs : List AV) {i : Nat} (h : i < rs.length) (n : Option Nat) :
    (((rs.map prAV).flatMap AV.cells ++ zs).set (i * 24 + 22) (.sc (.int .i64 (optN n : Nat)))).set (i * 24 + 23) (.sc (.bool n.isNone)) = ((rs.set i (rs[i].next n)).map prAV).flatMap AV.cells ++ zs := by
  have hl : (((rs.take i).map prAV).flatMap AV.cells).length = i * 24 := by rw [rows_flat, List.length_take]; congr 1; omega
  rw [rows_split rs zs h, rows_split (rs.set i (rs[i].next n)) zs (i := i) (by simpa using h), List.set_append_right _ _ (by omega), List.set_append_right _ _ (by omega), hl]
  have e1 : (rs.set i (rs[i].next n)).take i = rs.take i := by rw [List.take_set_of_le (Nat.le_refl i)]
  have e2 : (rs.set i (rs[i].next n)).drop (i + 1) = rs.drop (i + 1) := by rw [List.drop_set_of_lt (by omega)]
  rw [e1, e2, List.getElem_set_self, show i * 24 + 22 - i * 24 = 22 by omega, show i * 24 + 23 - i * 24 = 23 by omega]
  rfl
set_option maxHeartbeats 4000000 in
theorem c_stepsAt {g i : Nat} {r : PRow} {F : List AV} (hG : GlobT H) (hb : H g = some (.cells F 229)) (hrow : (F.drop (i * 24)).take 24 = rowC r .no) (hfit : i * 24 + 24 ≤ F.length) (hr : RowOk r) {a : Nat} (he : r.at_ = (a : Int)) {n : Option Nat} (hn : IsNext r.x a n) :
    AOk Tryz.prog 176 [.sc (.pointer (some ⟨g, i * 24, none⟩))] H (.tup []) (H.set g (.cells ((F.set (i * 24 + 22) (.sc (.int .i64 (optN n : Nat)))).set (i * 24 + 23) (.sc (.bool n.isNone))) 229)) := by
  refine ACalls.into Tryz.func176 rfl Tryz.ntmps176 Tryz.results176 (by simp) ?_
  obtain ⟨a', ha', hlt⟩ := hr.nat
  obtain rfl : a' = a := by omega
  have hA := fun K (h : GlobT K) => c_after h hr.ok hr.may hlt hn
  have hx : (F.drop (i * 24 + 12)).take 10 = exC r.x := by
    have := congrArg (fun l => (l.drop 12).take 10) hrow
    rw [List.drop_take, List.take_take, List.drop_drop] at this
    exact this
  have hat : F[i * 24 + 22]? = some (.sc (.int .i64 (a' : Int))) := by
    have := congrArg (fun l => l[22]?) hrow
    simp only [List.getElem?_take, List.getElem?_drop] at this
    rw [← he]
    simpa using this
  have hf2 : i * 24 + 12 + 10 ≤ F.length := by omega
  have hf3 : i * 24 + 22 < F.length := by omega
  have hf4 : i * 24 + 23 < F.length := by omega
  have hf5 : i * 24 + 22 + 1 ≤ F.length := by omega
  have hf6 : i * 24 + 23 + 1 ≤ F.length := by omega
  simp -implicitDefEqProofs [hb]
  refine go_draw 14 f_mixed (by decide +kernel) ?_
  simp -implicitDefEqProofs [hb, hx, hat, hf2]
  refine AQS.eq (hA _ hG) ?_
  cases n with
  | none =>
    simp -implicitDefEqProofs [outAV, optN, errN, hb, hf3, hf4, hf5, hf6]
  | some u =>
    simp -implicitDefEqProofs [outAV, optN, errN, hb, hf3, hf4, hf5, hf6]
end Go.Proofs.YtmoncokklkiikaaGreatDoor
namespace Go.Proofs.YtmoncokklkiikaaGreatDoor
open Rg Go
variable {H : Heap}
def NotOpen (o : AObj) : Prop := ∀ n cap sz e, o ≠ .open n cap sz e
theorem NotOpen.cells {cs : List AV} {T : TypeId} : NotOpen (.cells cs T) := fun _ _ _ _ h => by cases h
theorem NotOpen.lrec {r : ARec} : NotOpen (.lrec r) := fun _ _ _ _ h => by cases h
theorem NotOpen.dfr : NotOpen .dfr := fun _ _ _ _ h => by cases h
def KeepN (H K K' : Heap) : Prop := ∀ p o, H p = none → K p = some o → NotOpen o → K' p = some o
theorem KeepN.refl {H K : Heap} : KeepN H K K := fun _ _ _ h _ => h
theorem KeepN.of_le {H K K' : Heap} (h : HLe K K') : KeepN H K K' := fun p o _ hp _ => h p _ hp
theorem KeepN.mono {H H' K K' : Heap} (h : KeepN H K K') (hl : HLe H H') : KeepN H' K K' := fun p o hp => h p o (hl.none hp)
def planZ (js : List Jb) (fr tt : Int) : List PIt := if momP fr = true ∧ momP tt = true ∧ fr < tt then planL js fr.toNat tt.toNat else []
theorem c_planFirst0 {b0 b1 : Nat} {tt : Int} (h0 : H b0 = some (.cells [.sc (.slice none 0 0)] 226)) (h1 : H b1 = some (.cells [.sc (.int .i64 tt)] 2)) :
    AOk Tryz.prog 175 [ptr b0, ptr b1] H (.sc (.int .i64 (-1))) H := by
  refine ACalls.into Tryz.func175 rfl Tryz.ntmps175 Tryz.results175 (by simp) ?_
  simp -implicitDefEqProofs [h0]
  refine AGo.rounds (fun μ ρ K => ρ 3 = .sc (.int .i64 (-1)) ∧ ρ 7 = .sc (.int .i64 0) ∧ ρ 8 = .sc (.int .i64 0) ∧ K = H) ?_ (m := 0) (HLe.refl _) ⟨by simp, by simp, by simp, rfl⟩
  rintro μ ρ K ih ⟨r3, r7, r8, rfl⟩
  simp -implicitDefEqProofs [r3, r7, r8]
def RowsAt (H0 : Heap) (rs : List PRow) (A : Option Addr) (cap : Nat) (K : Heap) : Prop :=
  (rs = [] ∧ A = none ∧ cap = 0) ∨ ∃ g zs, H0 g = none ∧ A = some ⟨g, 0, none⟩ ∧ K g = some (.cells ((rs.map prAV).flatMap AV.cells ++ zs) 229) ∧ rs.length ≤ cap
theorem RowsAt.of {H0 : Heap} {rs : List PRow} {A : Option Addr} {cap : Nat} {K : Heap} (h : RawRowZ 24 H0 229 (rs.map prAV) (.sc (.slice A rs.length cap)) K) : RowsAt H0 rs A cap K := by
  rcases h.2 with ⟨h1, h2⟩ | ⟨g, zs, c, h1, h2, h3, _, h4, _⟩
  · simp only [AV.sc.injEq, Value.slice.injEq] at h2
    exact .inl ⟨List.map_eq_nil_iff.1 h1, h2.1, h2.2.2⟩
  · simp only [AV.sc.injEq, Value.slice.injEq] at h2
    obtain ⟨rfl, _, rfl⟩ := h2
    exact .inr ⟨g, zs, h1, rfl, h3, by simpa using h4⟩
theorem RowsAt.le {H0 : Heap} {rs : List PRow} {A : Option Addr} {cap : Nat} {K K' : Heap} (h : RowsAt H0 rs A cap K) (hk : KeepN H0 K K') : RowsAt H0 rs A cap K' :=
  h.imp id fun ⟨g, zs, h1, h2, h3, h4⟩ => ⟨g, zs, h1, h2, hk _ _ h1 h3 .cells, h4⟩
theorem c_planNext {H0 : Heap} {b0 b1 cap : Nat} {rs : List PRow} {A : Option Addr} {tt : Int} (hrs : rs.length ≤ 1000000) (h : RowsAt H0 rs A cap H) (h0 : H b0 = some (.cells [.sc (.slice A rs.length cap)] 226)) (h1 : H b1 = some (.cells [.sc (.int .i64 tt)] 2)) :
    AOk Tryz.prog 175 [ptr b0, ptr b1] H (.sc (.int .i64 (bestI (bestGo rs tt rs.length none)))) H := by
  rcases h with ⟨rfl, rfl, rfl⟩ | ⟨g, zs, _, rfl, h3, h4⟩
  · exact c_planFirst0 h0 h1
  · exact c_planFirst hrs h0 h1 h3 h4
abbrev planItAV (z : PIt) (js : List Jb) : AV := .agg [.sc (.int .i64 (z.1 : Int)), .sc (.int .u64 ((jobOf js z.2).id : Int))]
set_option maxHeartbeats 8000000 in
theorem c_eachIt {l bj bf bt : Nat} {js : List Jb} {fr tt : Int} (hG : Glob H) (hT : GlobT H) (hjs : js.length ≤ 1000000) (hex : ∀ j ∈ js, j.ex.length ≤ 9223372036854775807)
    (J : Nat → Heap → Prop) (Jx : Heap → Prop)
    (hJ : ∀ j K, J j K → GlobT K ∧ K bt = some (.cells [.sc (.int .i64 tt)] 2))
    (hL : ∀ j K K', J j K → HLe K K' → J j K')
    (hS : ∀ j K p o o', J j K → H p = none → K p = some o → NotOpen o → J j (K.set p o'))
    (hY : ∀ (j : Nat) (K : Heap) (z : PIt), (planZ js fr tt)[j]? = some z → J j K →
      ACalls Tryz.prog (Tryz.prog.funcs.size + 1 + l) [planItAV z js, jbAV (jobOf js z.2) .no] K (fun v K' => (v = .sc (.bool true) ∧ J (j + 1) K' ∧ KeepN H K K') ∨ (v = .sc (.bool false) ∧ Jx K')))
    (h0 : J 0 H) (kj : H bj = some (.cells [.sl (js.map fun j => jbAV j .no) .no] 95)) (kf : H bf = some (.cells [.sc (.int .i64 fr)] 2)) :
    ACalls Tryz.prog 173 [.sc (.func (.yield l) #[] #[]), ptr bf, ptr bt, ptr bj] H (fun _ K => J (planZ js fr tt).length K ∨ Jx K) := by
  have kt := (hJ 0 H h0).2
  have hm1 := fun K : Heap => c_planMoment (H := K) fr
  have hm2 := fun K : Heap => c_planMoment (H := K) tt
  obtain ⟨E, hE⟩ : ∃ E, planZ js fr tt = E := ⟨_, rfl⟩
  rw [hE] at hY ⊢
  unfold planZ at hE
  refine ACalls.into Tryz.func173 rfl Tryz.ntmps173 Tryz.results173 (by simp) ?_
  simp -implicitDefEqProofs [kf]
  refine ACall.eq (hm1 _) ?_
  cases h1 : momP fr with
  | false =>
    rw [h1, if_neg (by simp)] at hE
    subst hE
    simp -implicitDefEqProofs
    exact ⟨_, _, wk_refl _, HWk.refl _, .inl h0⟩
  | true =>
  simp -implicitDefEqProofs [kt]
  first | refine ACall.eq (hm2 _) ?_ | refine AQS.eq (hm2 _) ?_
  cases h2 : momP tt with
  | false =>
    rw [h2, if_neg (by simp)] at hE
    subst hE
    simp -implicitDefEqProofs
    exact ⟨_, _, wk_refl _, HWk.refl _, .inl h0⟩
  | true =>
  by_cases h3 : fr < tt
  · rw [if_pos ⟨h1, h2, h3⟩] at hE
    rw [momP_iff] at h1 h2
    obtain ⟨a, rfl⟩ := Int.eq_ofNat_of_zero_le h1.1
    obtain ⟨t, rfl⟩ := Int.eq_ofNat_of_zero_le h2.1
    simp only [Int.toNat_natCast] at hE
    have h3' : ¬ (t : Int) ≤ (a : Int) := by omega
    have ht : t < 13569465600 := by omega
    simp -implicitDefEqProofs [kf, kt, h3, h3', kj]
    refine ACall.intro (c_planRows hG hT js (by omega) hjs hex) fun v K hR => ?_
    obtain ⟨A, cap, hv⟩ := form_raw hR
    subst hv
    rw [List.length_map] at hR ⊢
    have hrl : (rowsP js a).length ≤ 1000000 := by
      unfold rowsP
      rw [List.length_map]
      have := List.length_filter_le liveJ js
      omega
    have hok := rows_ok (js := js) (a := a) (by omega)
    have hjb := rows_jobs js a
    obtain ⟨M, hMJ, hM⟩ : ∃ M, M.map (fun z => (z.1, (js.filter liveJ).getD z.2 jb0)) = E.map (fun z => (z.1, jobOf js z.2)) ∧ Merged ((rowsP js a).map (restR t)) M := by
      have h := merged_put (Rs := (rowsP js a).map (restR t)) fun R hR => by
        obtain ⟨r, _, rfl⟩ := List.mem_map.1 hR
        exact rest_sorted
      refine ⟨_, ?_, h⟩
      rw [rows_rest js ht] at h ⊢
      rw [merged_jobs h, hE]
    have hRA := RowsAt.of hR
    have hJK : J 0 K := hL _ _ _ h0 hR.1
    have hLE : HLe H K := hR.1
    clear hR
    generalize rowsP js a = rs at *
    simp -implicitDefEqProofs
    refine AAlloc.intro fun b5 h5 => ?_
    have hH5 : H b5 = none := hLE.none h5
    have n5 : bt ≠ b5 := by rintro rfl; rw [kt] at hH5; cases hH5
    simp -implicitDefEqProofs
    generalize hK1 : Heap.set K b5 _ = K1
    have l1 : HLe K K1 := by rw [← hK1]; exact HLe.set_fresh h5
    have k5 : K1 b5 = some (.cells [.sc (.slice A rs.length cap)] 226) := by rw [← hK1]; simp [Heap.set]
    have hRA := hRA.le (KeepN.of_le l1)
    have hJK := hL _ _ _ hJK l1
    clear hK1 h5
    refine ACall.eq (c_planNext hrl hRA k5 (hJ _ _ hJK).2) ?_
    simp -implicitDefEqProofs
    have hEl : M.length = E.length := by have := congrArg List.length hMJ; simpa using this
    obtain ⟨lv, hlv⟩ : ∃ lv, js.filter liveJ = lv := ⟨_, rfl⟩
    rw [hlv] at hjb hMJ
    refine AGo.rounds (fun μ ρ K => ∃ (jx : Nat) (rs : List PRow) (M : List PIt), μ = M.length ∧ rs.length ≤ 1000000 ∧ Merged (rs.map (restR t)) M ∧ rs.map PRow.j = lv ∧ (∀ r ∈ rs, RowOk r) ∧ M.map (fun z => (z.1, lv.getD z.2 jb0)) = (E.map (fun z => (z.1, jobOf js z.2))).drop jx ∧ jx + M.length = E.length ∧
      ρ 0 = .sc (.func (.yield l) #[] #[]) ∧ ρ 5 = ptr b5 ∧ ρ 6 = .sc (.func (.func 175) #[] #[.pointer (some ⟨b5, 0, none⟩), .pointer (some ⟨bt, 0, none⟩)]) ∧ ρ 7 = .sc (.int .i64 (bestI (bestGo rs (t : Int) rs.length none))) ∧ J jx K ∧ RowsAt H rs A cap K ∧ K b5 = some (.cells [.sc (.slice A rs.length cap)] 226)) ?_ (m := M.length) (HLe.refl _)
      ⟨0, rs, M, rfl, hrl, hM, hjb, hok, by simpa using hMJ, by omega, by simp, by simp, by simp, by simp, hJK, hRA, k5⟩
    clear hRA hJK k5 hM hMJ hEl hjb hok hrl
    rintro μ ρ K ih ⟨jx, rs, M, rfl, hrl, hM, hjb, hok, hMJ, hEl, r0, r5, r6, r7, hJK, hRA, k5⟩
    have hbest := best_all rs (t : Int)
    generalize hbo : bestGo rs (t : Int) rs.length none = bo at *
    cases bo with
    | none =>
      have hM0 := hM.done (best_none hbest)
      subst hM0
      have hj : jx = E.length := by simpa using hEl
      subst hj
      simp -implicitDefEqProofs [r7, bestI]
      exact ⟨_, _, wk_refl _, HWk.refl _, .inl hJK⟩
    | some k =>
      obtain ⟨r, hr, hrt, hpick⟩ := best_some hok hbest
      have hro := hok r (List.mem_of_getElem? hr)
      obtain ⟨u, hu, hub⟩ := hro.nat
      rw [hu, Int.toNat_natCast] at hpick hrt
      obtain ⟨M', rfl, hM'⟩ := hM.pick (fun Q hQ => by
        obtain ⟨r, _, rfl⟩ := List.mem_map.1 hQ
        exact rest_sorted) hpick
      obtain ⟨hkl, hrk⟩ := List.getElem?_eq_some_iff.1 hr
      rcases hRA with ⟨rfl, _⟩ | ⟨g, zs, hHg, rfl, kg, hcap⟩
      · simp at hkl
      have hjlt : jx < E.length := by simp only [List.length_cons] at hEl; omega
      obtain ⟨z, hz, hz'⟩ := getAt hjlt
      have hlvk : lv.getD k jb0 = r.j := by rw [← hjb, List.getD_eq_getElem?_getD, List.getElem?_map, hr]; rfl
      rw [List.drop_eq_getElem_cons (by simpa using hjlt), List.map_cons, List.cons.injEq, List.getElem_map, hz, Prod.mk.injEq] at hMJ
      obtain ⟨⟨hzu, hzj⟩, hMJ'⟩ := hMJ
      simp only at hzu hzj
      rw [hlvk] at hzj
      have hrow := row_cells rs zs hkl
      rw [hrk] at hrow
      have hfl := rows_len rs zs
      have hset := row_set rs zs hkl (nextOf r.x u)
      rw [hrk] at hset
      generalize hF : (rs.map prAV).flatMap AV.cells ++ zs = F at *
      have hfit : k * 24 + 24 ≤ F.length := by omega
      have hat : F[k * 24 + 22]? = some (.sc (.int .i64 (u : Int))) := by
        have := congrArg (fun l => l[22]?) hrow
        simp only [List.getElem?_take, List.getElem?_drop] at this
        rw [← hu]
        simpa using this
      have hid : F[k * 24]? = some (.sc (.int .u64 (r.j.id : Int))) := by
        have := congrArg (fun l => l[0]?) hrow
        simp only [List.getElem?_take, List.getElem?_drop] at this
        simpa using this
      have hjob : (F.drop (k * 24)).take 12 = jbC r.j .no := by
        have := congrArg (fun l => l.take 12) hrow
        rw [List.take_take] at this
        exact this
      have hf1 : k * 24 + 12 ≤ F.length := by omega
      have hki : ¬ (k : Int) < 0 := by omega
      have hki2 : (0 : Int) ≤ (k : Int) := by omega
      have hcall := hY jx K z hz' hJK
      rw [planItAV, ← hzu, ← hzj] at hcall
      simp -implicitDefEqProofs [r7, bestI, hki2]
      refine go_draw 18 f_mixed (by decide +kernel) ?_
      simp -implicitDefEqProofs [r0, r5, r7, bestI, k5, kg, hkl, hki, hat, hid, hjob, hf1]
      refine ACall.intro hcall fun v K' hv => ?_
      rcases hv with ⟨rfl, hJ', hKK⟩ | ⟨rfl, hJx⟩
      · have k5' := hKK _ _ hH5 k5 .cells
        have kg' := hKK _ _ hHg kg .cells
        simp -implicitDefEqProofs [r5, r7, bestI, k5', hkl, hki]
        refine ACall.eq (c_stepsAt (hJ _ _ hJ').1 kg' hrow hfit hro hu (nextOf_is r.x u)) ?_
        rw [hset]
        generalize hK2 : Heap.set K' g _ = K2
        have gb5 : g ≠ b5 := by rintro rfl; rw [k5] at kg; simp at kg
        have kg2 : K2 g = some (.cells (((rs.set k (r.next (nextOf r.x u))).map prAV).flatMap AV.cells ++ zs) 229) := by rw [← hK2]; simp [Heap.set]
        have k52 : K2 b5 = some (.cells [.sc (.slice (some ⟨g, 0, none⟩) (rs.set k (r.next (nextOf r.x u))).length cap)] 226) := by rw [← hK2, List.length_set]; simp [Heap.set, gb5.symm, k5']
        have hJ2 : J (jx + 1) K2 := by rw [← hK2]; exact hS _ _ _ _ _ hJ' hHg kg' .cells
        have hRA2 : RowsAt H (rs.set k (r.next (nextOf r.x u))) (some ⟨g, 0, none⟩) cap K2 := .inr ⟨g, zs, hHg, rfl, kg2, by simpa using hcap⟩
        clear hK2
        simp -implicitDefEqProofs [r6]
        refine ACall.eq (c_planNext (by simpa using hrl) hRA2 k52 (hJ _ _ hJ2).2) ?_
        simp -implicitDefEqProofs
        refine AGo.again ih (m' := M'.length) (by simp) (HLe.refl _) ⟨jx + 1, rs.set k (r.next (nextOf r.x u)), M', rfl, by simpa using hrl, ?_, ?_, ?_, hMJ', by simp only [List.length_cons] at hEl; omega, by simp [r0], by simp [r5], by simp [r6], by simp, hJ2, hRA2, k52⟩
        · rw [List.map_set, rest_next ht (nextOf_is r.x u)]
          exact hM'
        · rw [List.map_set, hjb]
          have : lv[k]? = some r.j := by rw [← hjb, List.getElem?_map, hr]; rfl
          obtain ⟨h1, h2⟩ := List.getElem?_eq_some_iff.1 this
          show lv.set k r.j = lv
          rw [← h2, List.set_getElem_self]
        · intro q hq
          rcases List.mem_or_eq_of_mem_set hq with h | h
          · exact hok q h
          · rw [h]; exact hro.next (nextOf_is r.x u)
      · simp -implicitDefEqProofs
        exact ⟨_, _, wk_refl _, HWk.refl _, .inr hJx⟩
  · have h3' : tt ≤ fr := by omega
    rw [if_neg (fun h => h3 h.2.2)] at hE
    subst hE
    simp -implicitDefEqProofs [kf, kt, h3, h3']
    exact ⟨_, _, wk_refl _, HWk.refl _, .inl h0⟩
end Go.Proofs.YtmoncokklkiikaaGreatDoor
namespace Go.Proofs.YtmoncokklkiikaaGreatDoor
open Rg Go
variable {H : Heap}
theorem c_equalU (L M : List Nat) (t u : Rg.Tok) (hL : L.length ≤ 1000000) : AOk Tryz.prog 83 [.sl (L.map (fun n : Nat => (.sc (.int .u64 (n : Int)) : AV))) t, .sl (M.map (fun n : Nat => (.sc (.int .u64 (n : Int)) : AV))) u] H (.sc (.bool (decide (L = M)))) H := by
  refine ACalls.into Tryz.func83 rfl Tryz.ntmps83 Tryz.results83 (by simp) ?_
  simp -implicitDefEqProofs
  by_cases hl : L.length = M.length
  · have hl' : (L.length : Int) = (M.length : Int) := by omega
    simp -implicitDefEqProofs [hl, hl']
    refine AGo.rounds (fun m ρ K => ∃ i, m = L.length - i ∧ i ≤ L.length ∧ L.take i = M.take i ∧ ρ 13 = .sc (.int .i64 (i : Int)) ∧ ρ 0 = .sl (L.map (fun n : Nat => (.sc (.int .u64 (n : Int)) : AV))) t ∧ ρ 1 = .sl (M.map (fun n : Nat => (.sc (.int .u64 (n : Int)) : AV))) u ∧ ρ 12 = .sc (.int .i64 (M.length : Int)) ∧ K = H) ?_ (m := L.length) (HLe.refl _)
      ⟨0, rfl, by omega, by simp, by simp, by simp, by simp, by simp, rfl⟩
    rintro m ρ K ih ⟨i, rfl, hi, hti, r13, r0, r1, r12, rfl⟩
    rcases Nat.lt_or_ge i L.length with hlt | hge
    · have hlm : i < M.length := by omega
      obtain ⟨x, hx, hx2⟩ := getAt hlt
      obtain ⟨y, hy, hy2⟩ := getAt hlm
      have hlt' : (i : Int) < (L.length : Int) := by omega
      have hlm' : (i : Int) < (M.length : Int) := by omega
      have hw1 : IntKind.i64.wrap ((i : Int) + 1) = (i : Int) + 1 := wrap_i64 (by omega) (by omega)
      simp -implicitDefEqProofs [r13, r0, r1, r12, hlm, hlm']
      refine go_draw 9 f_mixed (by decide +kernel) ?_
      by_cases hxy : x = y
      · subst hxy
        simp -implicitDefEqProofs [r13, r0, r1, r12, hlt, hlm, hx, hy, hw1]
        refine AGo.again ih (m' := L.length - (i + 1)) (by omega) (HLe.refl _) ⟨i + 1, rfl, by omega, ?_, by simp, by simp [r0], by simp [r1], by simp [r12], rfl⟩
        rw [List.take_add_one, List.take_add_one, hti, hx2, hy2]
      · have hne : ¬ L = M := by
          intro e
          subst e
          rw [hx2] at hy2
          cases hy2
          exact hxy rfl
        have hxy' : ¬ (x : Int) = (y : Int) := by omega
        simp -implicitDefEqProofs [r13, r0, r1, r12, hlt, hlm, hx, hy, hxy, hxy', hne]
    · have hn : ¬ (i : Int) < (M.length : Int) := by omega
      have hn' : ¬ i < M.length := by omega
      have he : L = M := by rw [List.take_of_length_le hge, List.take_of_length_le (by omega)] at hti; exact hti
      simp -implicitDefEqProofs [r13, r0, r1, r12, hn, hn', he]
  · have hl' : ¬ (L.length : Int) = (M.length : Int) := by omega
    have hne : ¬ L = M := fun e => hl (by rw [e])
    simp -implicitDefEqProofs [hl, hl', hne]
end Go.Proofs.YtmoncokklkiikaaGreatDoor
namespace Go.Proofs.YtmoncokklkiikaaGreatDoor
open Rg Go
variable {H : Heap}
def sameJ (a b : Jb) : Bool := decide (a.id = b.id) && (a.name == b.name) && (a.ex == b.ex) && decide (a.pol = b.pol) && decide (a.gr = b.gr) && decide (a.lim = b.lim) && decide (a.ret = b.ret) && decide (a.tim = b.tim) && decide (a.deps = b.deps) && (a.pau == b.pau) && decide (a.ver = b.ver) && decide (a.seen = b.seen)
theorem sameJ_iff {a b : Jb} : sameJ a b = true ↔ a = b := by
  simp only [sameJ, Bool.and_eq_true, decide_eq_true_eq, beq_iff_eq]
  constructor
  · rintro ⟨⟨⟨⟨⟨⟨⟨⟨⟨⟨⟨h1, h2⟩, h3⟩, h4⟩, h5⟩, h6⟩, h7⟩, h8⟩, h9⟩, h10⟩, h11⟩, h12⟩
    cases a; cases b; simp_all
  · rintro rfl
    simp
set_option maxHeartbeats 4000000 in
theorem c_jobSame (a b : Jb) (t u : Rg.Tok) (hl : a.deps.length ≤ 1000000) : AOk Tryz.prog 19 [jbAV a t, jbAV b u] H (.sc (.bool (sameJ a b))) H := by
  have heq := fun K => c_equalU (H := K) a.deps b.deps t u hl
  unfold sameJ
  obtain ⟨c0, hc0⟩ : ∃ c, decide (a.id = b.id) = c := ⟨_, rfl⟩
  have hi0 : decide ((a.id : Int) = (b.id : Int)) = c0 := by rw [← hc0]; congr 1; exact propext ⟨fun h => by omega, fun h => by omega⟩
  obtain ⟨c1, hc1⟩ : ∃ c, (a.name == b.name) = c := ⟨_, rfl⟩
  obtain ⟨c2, hc2⟩ : ∃ c, (a.ex == b.ex) = c := ⟨_, rfl⟩
  obtain ⟨c3, hc3⟩ : ∃ c, decide (a.pol = b.pol) = c := ⟨_, rfl⟩
  obtain ⟨c4, hc4⟩ : ∃ c, decide (a.gr = b.gr) = c := ⟨_, rfl⟩
  obtain ⟨c5, hc5⟩ : ∃ c, decide (a.lim = b.lim) = c := ⟨_, rfl⟩
  obtain ⟨c6, hc6⟩ : ∃ c, decide (a.ret = b.ret) = c := ⟨_, rfl⟩
  obtain ⟨c7, hc7⟩ : ∃ c, decide (a.tim = b.tim) = c := ⟨_, rfl⟩
  obtain ⟨c8, hc8⟩ : ∃ c, decide (a.deps = b.deps) = c := ⟨_, rfl⟩
  obtain ⟨c9, hc9⟩ : ∃ c, (a.pau == b.pau) = c := ⟨_, rfl⟩
  obtain ⟨c10, hc10⟩ : ∃ c, decide (a.ver = b.ver) = c := ⟨_, rfl⟩
  have hi10 : decide ((a.ver : Int) = (b.ver : Int)) = c10 := by rw [← hc10]; congr 1; exact propext ⟨fun h => by omega, fun h => by omega⟩
  obtain ⟨c11, hc11⟩ : ∃ c, decide (a.seen = b.seen) = c := ⟨_, rfl⟩
  rw [hc0, hc1, hc2, hc3, hc4, hc5, hc6, hc7, hc8, hc9, hc10, hc11]
  rw [hc8] at heq
  refine ACalls.into Tryz.func19 rfl Tryz.ntmps19 Tryz.results19 (by simp) ?_
  simp -implicitDefEqProofs
  refine AAlloc.intro fun p hp => ?_
  simp -implicitDefEqProofs
  refine AAlloc.intro fun q hq => ?_
  have npq : p ≠ q := by rintro rfl; simp [Heap.set] at hq
  simp -implicitDefEqProofs [npq]
  generalize hK : Heap.set _ q _ = K
  have kp : K p = some (.cells (jbC a t) 25) := by rw [← hK]; simp [Heap.set, npq]
  have kq : K q = some (.cells (jbC b u) 25) := by rw [← hK]; simp [Heap.set]
  have kW : HWk H K := by rw [← hK]; exact (HLe.set_new (HLe.set_fresh hp) ((HLe.set_fresh hp).none hq)).wk
  clear hK
  simp -implicitDefEqProofs [kp, kq, hc0, hi0]
  cases c0 with
  | false =>
    simp -implicitDefEqProofs [kp, kq, kW]
  | true =>
    simp -implicitDefEqProofs [kp, kq, hc1]
    cases c1 with
    | false =>
      simp -implicitDefEqProofs [kp, kq, kW]
    | true =>
      simp -implicitDefEqProofs [kp, kq, hc2]
      cases c2 with
      | false =>
        simp -implicitDefEqProofs [kp, kq, kW]
      | true =>
        simp -implicitDefEqProofs [kp, kq, hc3]
        cases c3 with
        | false =>
          simp -implicitDefEqProofs [kp, kq, kW]
        | true =>
          simp -implicitDefEqProofs [kp, kq, hc4]
          cases c4 with
          | false =>
            simp -implicitDefEqProofs [kp, kq, kW]
          | true =>
            simp -implicitDefEqProofs [kp, kq, hc5]
            cases c5 with
            | false =>
              simp -implicitDefEqProofs [kp, kq, kW]
            | true =>
              simp -implicitDefEqProofs [kp, kq, hc6]
              cases c6 with
              | false =>
                simp -implicitDefEqProofs [kp, kq, kW]
              | true =>
                simp -implicitDefEqProofs [kp, kq, hc7]
                cases c7 with
                | false =>
                  simp -implicitDefEqProofs [kp, kq, kW]
                | true =>
                  simp -implicitDefEqProofs [kp, kq, hc8]
                  refine ACall.eq (heq K) ?_
                  simp -implicitDefEqProofs [kp, kq]
                  cases c8 with
                  | false =>
                    simp -implicitDefEqProofs [kp, kq, kW]
                  | true =>
                    simp -implicitDefEqProofs [kp, kq, hc9]
                    cases c9 with
                    | false =>
                      simp -implicitDefEqProofs [kp, kq, kW]
                    | true =>
                      simp -implicitDefEqProofs [kp, kq, hc10, hi10]
                      cases c10 with
                      | false =>
                        simp -implicitDefEqProofs [kp, kq, kW]
                      | true =>
                        simp -implicitDefEqProofs [kp, kq, hc11]
                        cases c11 with
                        | false =>
                          simp -implicitDefEqProofs [kp, kq, kW]
                        | true =>
                          simp -implicitDefEqProofs [kp, kq, kW]
end Go.Proofs.YtmoncokklkiikaaGreatDoor
namespace Go.Proofs.YtmoncokklkiikaaGreatDoor
open Rg Go
variable {H : Heap}
theorem atRhoT {P : Program} {n : Nat} {Q : Post} {ρ : Nat → AV} {k : List AItem} {K : Heap} (h : ∀ ρ1, ρ1 = ρ → AGo P n Q k ρ1 K) : AGo P n Q k ρ K := h ρ rfl
structure RowZ (sz : Nat) (e T : TypeId) (H0 : Heap) (c n : Nat) (F : Rg.Tok → List AV) (K : Heap) : Prop where
  le : HLe H0 K
  no : H0 c = none
  row : ∃ t, K c = some (.cells (F t) T) ∧ ((t = .nil ∧ n = 0) ∨ ∃ g cap, g ≠ c ∧ H0 g = none ∧ t = .own g cap sz e ∧ K g = some (.open n cap sz e))
theorem RowZ.new {sz : Nat} {e T : TypeId} {H0 K : Heap} {c n p : Nat} {F : Rg.Tok → List AV} {o : AObj} (h : RowZ sz e T H0 c n F K) (hp : K p = none) : RowZ sz e T H0 c n F (K.set p o) := by
  obtain ⟨t, h1, h2⟩ := h.row
  have hpc : c ≠ p := by rintro rfl; rw [h1] at hp; cases hp
  refine ⟨h.le.trans (HLe.set_fresh hp), h.no, t, by simp [Heap.set, hpc, h1], h2.imp id ?_⟩
  rintro ⟨g, cap, g1, g2, g3, g4⟩
  have : g ≠ p := by rintro rfl; rw [hp] at g4; cases g4
  exact ⟨g, cap, g1, g2, g3, by simp [Heap.set, this, g4]⟩
theorem RowZ.grows {sz : Nat} {e T : TypeId} {H0 K : Heap} {c : Nat} {F : Rg.Tok → List AV} {xs : List AV} (h : RowZ sz e T H0 c xs.length F K) :
    ∃ t G0 G, K c = some (.cells (F t) T) ∧ Grows G0 xs sz e t G ∧ HLe G K ∧ HLe H0 G0 ∧ G0 c = some (.cells (F t) T) ∧ ∀ p cs T', K p = some (.cells cs T') → G0 p = some (.cells cs T') := by
  obtain ⟨t, h1, ⟨rfl, hn⟩ | ⟨g, cap, h2, h3, rfl, h4⟩⟩ := h.row
  · obtain rfl := List.length_eq_zero_iff.1 hn
    exact ⟨_, K, K, h1, .zero, HLe.refl _, h.le, h1, fun _ _ _ h => h⟩
  · refine ⟨_, K.del g, (K.del g).set g (.open xs.length cap sz e), h1, .inr ⟨g, cap, by simp [Heap.del], rfl, rfl⟩, fun b ob hb => ?_, HLe.del_new h.le h3, by simp [Heap.del, Ne.symm h2, h1], fun p cs T' hp => ?_⟩
    · by_cases hbg : b = g
      · subst hbg
        simp only [Heap.set, if_true] at hb
        rw [← hb]; exact h4
      · simpa [Heap.set, Heap.del, hbg] using hb
    · have : p ≠ g := by rintro rfl; rw [h4] at hp; cases hp
      simp [Heap.del, this, hp]
theorem RowZ.stored {sz : Nat} {e T : TypeId} {H0 G0 K' Hn : Heap} {c : Nat} {xs : List AV} {F : Rg.Tok → List AV} {t' : Rg.Tok} {o : AObj} (h1 : HLe H0 G0) (h2 : H0 c = none) (h3 : G0 c = some o) (h4 : Grows G0 xs sz e t' K') (h5 : HLe K' Hn) :
    RowZ sz e T H0 c xs.length F (Hn.set c (.cells (F t') T)) := by
  have hle := (h1.trans h4.le).trans h5
  refine ⟨HLe.set_new hle h2, h2, t', by simp [Heap.set], ?_⟩
  rcases h4 with ⟨rfl, rfl, rfl⟩ | ⟨g, cap, g1, rfl, rfl⟩
  · exact .inl ⟨rfl, rfl⟩
  · have hgc : g ≠ c := by rintro rfl; rw [h3] at g1; cases g1
    exact .inr ⟨g, cap, hgc, h1.none g1, rfl, by simp [Heap.set, hgc]; exact h5 g _ (by simp [Heap.set])⟩
theorem RowZ.setO {sz : Nat} {e T : TypeId} {H0 K : Heap} {c n p : Nat} {F : Rg.Tok → List AV} {o o' : AObj} (h : RowZ sz e T H0 c n F K) (hp0 : H0 p = none) (hpc : p ≠ c) (hp : K p = some o) (ho : ∀ n cap sz e, o ≠ .open n cap sz e) : RowZ sz e T H0 c n F (K.set p o') := by
  obtain ⟨t, h1, h2⟩ := h.row
  refine ⟨HLe.set_new h.le hp0, h.no, t, by simp [Heap.set, hpc.symm, h1], h2.imp id ?_⟩
  rintro ⟨g, cap, g1, g2, g3, g4⟩
  have : g ≠ p := by rintro rfl; rw [hp] at g4; cases g4; exact ho _ _ _ _ rfl
  exact ⟨g, cap, g1, g2, g3, by simp [Heap.set, this, g4]⟩
theorem RowZ.grows' {sz : Nat} {e T : TypeId} {H0 K : Heap} {c : Nat} {F : Rg.Tok → List AV} {xs : List AV} (h : RowZ sz e T H0 c xs.length F K) :
    ∃ t G0 G, K c = some (.cells (F t) T) ∧ Grows G0 xs sz e t G ∧ HLe G K ∧ HLe H0 G0 ∧ G0 c = some (.cells (F t) T) ∧ ∀ p o, K p = some o → (∀ n cap sz e, o ≠ .open n cap sz e) → G0 p = some o := by
  obtain ⟨t, h1, ⟨rfl, hn⟩ | ⟨g, cap, h2, h3, rfl, h4⟩⟩ := h.row
  · obtain rfl := List.length_eq_zero_iff.1 hn
    exact ⟨_, K, K, h1, .zero, HLe.refl _, h.le, h1, fun _ _ h _ => h⟩
  · refine ⟨_, K.del g, (K.del g).set g (.open xs.length cap sz e), h1, .inr ⟨g, cap, by simp [Heap.del], rfl, rfl⟩, fun b ob hb => ?_, HLe.del_new h.le h3, by simp [Heap.del, Ne.symm h2, h1], fun p o hp ho => ?_⟩
    · by_cases hbg : b = g
      · subst hbg
        simp only [Heap.set, if_true] at hb
        rw [← hb]; exact h4
      · simpa [Heap.set, Heap.del, hbg] using hb
    · have : p ≠ g := by rintro rfl; rw [h4] at hp; cases hp; exact ho _ _ _ _ rfl
      simp [Heap.del, this, hp]
theorem RowZ.cell {sz : Nat} {e T : TypeId} {H0 K : Heap} {c n : Nat} {F F' : Rg.Tok → List AV} {t : Rg.Tok} {cs : List AV} (h : RowZ sz e T H0 c n F K) (hc : K c = some (.cells cs T)) (ht : ∀ t', cs = F t' → F' t' = F' t) : RowZ sz e T H0 c n F' (K.set c (.cells (F' t) T)) := by
  obtain ⟨t', h1, h2⟩ := h.row
  rw [hc] at h1
  have h1' : cs = F t' := by simpa using h1
  refine ⟨HLe.set_new h.le h.no, h.no, t', by simp [Heap.set, ht t' h1'], h2.imp id ?_⟩
  rintro ⟨g, cap, g1, g2, g3, g4⟩
  exact ⟨g, cap, g1, g2, g3, by simp [Heap.set, g1, g4]⟩
theorem RowZ.up {sz : Nat} {e T : TypeId} {H0 K K' : Heap} {c n : Nat} {F : Rg.Tok → List AV} (h : RowZ sz e T H0 c n F K) (hle : HLe K K') : RowZ sz e T H0 c n F K' := by
  obtain ⟨r1, r2, t, r3, r4⟩ := h
  refine ⟨r1.trans hle, r2, t, hle _ _ r3, r4.imp id ?_⟩
  rintro ⟨g, cap, g1, g2, g3, g4⟩
  exact ⟨g, cap, g1, g2, g3, hle _ _ g4⟩
def GrowsS (H0 : Heap) (xs : List AV) (sz : Nat) (e : TypeId) (t : Rg.Tok) (K : Heap) : Prop :=
  (t = .full ∧ K = H0) ∨ ∃ g cap, H0 g = none ∧ t = .own g cap sz e ∧ K = H0.set g (.open xs.length cap sz e)
theorem GrowsS.le {H0 K : Heap} {xs : List AV} {sz : Nat} {e : TypeId} {t : Rg.Tok} (h : GrowsS H0 xs sz e t K) : HLe H0 K := by
  rcases h with ⟨_, rfl⟩ | ⟨g, cap, h1, _, rfl⟩
  · exact HLe.refl _
  · exact (HLe.refl _).set_new h1
theorem growsS_app {P : Program} {n : Nat} {Q : Post} {ρ : Nat → AV} {k : List AItem} {full : Array Oper} {dst : Option Tmp} {r : List Oper} {T e : TypeId} {xs ys : List AV} {t : Rg.Tok} {sz by_ : Nat} {H0 K : Heap} (he : ElemOk P T e sz by_) (hg : GrowsS H0 xs sz e t K) (hl : HLe K H)
    (h0 : ys ≠ []) (hx : szs sz xs = true) (hy : szs sz ys = true) (hb : (xs.length + ys.length) * by_ ≤ 140737488355328) (hm : xs.length + ys.length ≤ maxLen)
    (h : ∀ t' K' Hn, GrowsS H0 (xs ++ ys) sz e t' K' → HLe K' Hn → AGo P n Q (.ops full r :: k) (aput n dst (.sl (xs ++ ys) t') ρ) Hn) : AApp P n Q full dst r k ρ H T e xs t ys := by
  rcases hg with ⟨rfl, rfl⟩ | hg
  · refine AApp.new he (.inr rfl) h0 hx hy hb hm fun g cap hgn => h _ (K.set g (.open (xs.length + ys.length) cap sz e)) _ (.inr ⟨g, cap, hl.none hgn, rfl, by simp⟩) hl.set_mono
  · refine AApp.grows he (.inr hg) hl h0 hx hy hb hm fun t' K' Hn hg' hl' => h t' K' Hn ?_ hl'
    rcases hg' with ⟨h1, _, _⟩ | h1
    · exact absurd (List.append_eq_nil_iff.1 h1).2 h0
    · exact .inr h1
def GrowsK (H0 : Heap) (n sz : Nat) (e : TypeId) (t : Rg.Tok) (K : Heap) : Prop := (t = .nil ∧ n = 0) ∨ ∃ g cap, H0 g = none ∧ t = .own g cap sz e ∧ K g = some (.open n cap sz e)
theorem GrowsK.up {H0 K K' : Heap} {n sz : Nat} {e : TypeId} {t : Rg.Tok} (h : GrowsK H0 n sz e t K) (hle : HLe K K') : GrowsK H0 n sz e t K' :=
  h.imp id fun ⟨g, cap, h1, h2, h3⟩ => ⟨g, cap, h1, h2, hle _ _ h3⟩
theorem GrowsK.grows {H0 K : Heap} {xs : List AV} {sz : Nat} {e : TypeId} {t : Rg.Tok} (h : GrowsK H0 xs.length sz e t K) (hl : HLe H0 K) :
    ∃ G0 G, Grows G0 xs sz e t G ∧ HLe G K ∧ HLe H0 G0 ∧ ∀ p o, K p = some o → (∀ n cap, o ≠ .open n cap sz e) → G0 p = some o := by
  rcases h with ⟨rfl, hn⟩ | ⟨g, cap, h3, rfl, h4⟩
  · obtain rfl := List.length_eq_zero_iff.1 hn
    exact ⟨K, K, .zero, HLe.refl _, hl, fun _ _ h _ => h⟩
  · refine ⟨K.del g, (K.del g).set g (.open xs.length cap sz e), .inr ⟨g, cap, by simp [Heap.del], rfl, rfl⟩, fun b ob hb => ?_, HLe.del_new hl h3, fun p o hp ho => ?_⟩
    · by_cases hbg : b = g
      · subst hbg
        simp only [Heap.set, if_true] at hb
        rw [← hb]; exact h4
      · simpa [Heap.set, Heap.del, hbg] using hb
    · have : p ≠ g := by rintro rfl; rw [h4] at hp; cases hp; exact ho _ _ rfl
      simp [Heap.del, this, hp]
theorem GrowsK.of {H0 G0 K' Hn : Heap} {xs : List AV} {sz : Nat} {e : TypeId} {t' : Rg.Tok} (h1 : HLe H0 G0) (h4 : Grows G0 xs sz e t' K') (h5 : HLe K' Hn) : GrowsK H0 xs.length sz e t' Hn ∧ HLe H0 Hn := by
  refine ⟨?_, (h1.trans h4.le).trans h5⟩
  rcases h4 with ⟨rfl, rfl, rfl⟩ | ⟨g, cap, g1, rfl, rfl⟩
  · exact .inl ⟨rfl, rfl⟩
  · exact .inr ⟨g, cap, h1.none g1, rfl, h5 g _ (by simp [Heap.set])⟩
theorem GrowsK.other {H0 K G0 K' Hn : Heap} {xs : List AV} {n sz sz' : Nat} {e e' : TypeId} {t t' : Rg.Tok} (h : GrowsK H0 n sz e t K) (hne : sz ≠ sz') (hg : ∀ p o, K p = some o → (∀ n cap, o ≠ .open n cap sz' e') → G0 p = some o) (h4 : Grows G0 xs sz' e' t' K') (h5 : HLe K' Hn) : GrowsK H0 n sz e t Hn :=
  h.imp id fun ⟨g, cap, h1, h2, h3⟩ => ⟨g, cap, h1, h2, h5 _ _ (h4.le _ _ (hg _ _ h3 (fun n cap h => by cases h; exact hne rfl)))⟩
theorem set_del {H : Heap} {g : Nat} {o : AObj} (h : H g = none) : (H.set g o).del g = H := by
  funext b
  by_cases hb : b = g
  · subst hb; simp [Heap.del, h]
  · simp [Heap.del, Heap.set, hb]
theorem aes_growsF {P : Program} {n : Nat} {Q : Post} {ρ : Nat → AV} {k : List AItem} {full : Array Oper} {dst : Option Tmp} {l rest : List Oper} {T e : TypeId} {xs ys : List AV} {t : Rg.Tok} {sz by_ : Nat} {H0 H1 K : Heap} (he : ElemOk P T e sz by_) (hg : GrowsF H1 xs sz e t K)
    (hx : szs sz xs = true) (hy : szs sz ys = true) (hb : (xs.length + ys.length) * by_ ≤ 140737488355328) (hm : xs.length + ys.length ≤ maxLen)
    (h : ∀ t' K', GrowsF H1 (xs ++ ys) sz e t' K' → ABK P n H0 Q full l rest k (aput n dst (.sl (xs ++ ys) t') ρ) K') : AES P n H0 Q full dst l rest k ρ K (.app T e xs t ys) := by
  rcases hg with ⟨rfl, ht, rfl⟩ | ⟨g, cap, hg1, rfl, rfl⟩
  · by_cases h0 : ys = []
    · subst h0
      refine AES.same he ht hx (by simp) (by simp [maxLen]) ?_
      exact h t _ (.inl ⟨rfl, ht, rfl⟩)
    · exact AES.new he ht h0 hx hy hb hm fun g cap hgn => h _ _ (.inr ⟨g, cap, hgn, rfl, by simp⟩)
  · refine AES.own he (by simp [Heap.set]) hx hy hb hm fun g' cap' hg' => ?_
    rw [set_del hg1] at hg' ⊢
    exact h _ _ (.inr ⟨g', cap', hg', rfl, by simp⟩)
end Go.Proofs.YtmoncokklkiikaaGreatDoor
