/- A table of jobs: copies, and the job of which something is so. A table of jobs: Find, Named, List, Nodes. A table of jobs: what is wrong with the row; Add, Change, Remove. A table of jobs: Add. A table of jobs: has, Pause, See, Remove. -/
import Derived.Test.YtlhgpodfhdddkaaGreatDoorP18
import Derived.Test.YtlhgpodfhdddkaaGreatDoorP19
import Derived.Test.YtlhgpodfhdddkaaGreatDoorP25
import Derived.Test.YtlhgpodfhdddkaaGreatDoorP26
set_option linter.unusedSimpArgs false
set_option linter.unusedVariables false
set_option linter.unnecessarySimpa false
namespace Go.Proofs.YtlhgpodfhdddkaaGreatDoor
open Rg Go Go.RowKit
variable {H : Heap}
theorem c_mapsClone {m ck : Nat} {es : List (AV × AV × Nat)} (hm : H m = some (.map es ck)) :
    ACalls Tryz.prog 41 [.sc (.map (some m))] H (fun v K => ∃ m', H m' = none ∧ v = .sc (.map (some m')) ∧ K = H.set m' (.map es ck)) := by
  intro W0 C w vs hi ha
  obtain ⟨x, vs', rfl, hx, ha⟩ := ha.uncons
  obtain rfl := ha.nil_inv
  obtain rfl := hx.sc_inv
  obtain ⟨ens, h1, h2, h3, h4⟩ := map_open hi hm
  refine .inl ((AnyW.maps_Clone Tryz.lMapsClone m ens.toArray ck w h1).mono fun e w' ⟨he, hw⟩ => ?_)
  subst hw
  refine ⟨.sc (.map (some w.heap.size)), H.set w.heap.size (.map es ck), C, _, he, ⟨w.heap.size, hi.heap_fresh, rfl, rfl⟩, CLe.refl C, Rel.sc _, ?_⟩
  exact hi.newObj _ _ ⟨ens, heap_alloc_new w _, h2, hi.fresh⟩ hi.below.size
theorem c_cloneU (l : List Nat) (hl : l.length ≤ 1000000) : ACalls Tryz.prog 53 [.sl (nuK l) .no] H (fun v K => v = .sl (nuK l) .no ∧ HLe H K) := by
  refine ACalls.nilCase (pre := []) (post := []) (fun h => ?_) ?_
  · obtain rfl := List.map_eq_nil_iff.1 h
    simp only [List.nil_append]
    refine ACalls.into Tryz.func53 rfl Tryz.ntmps53 Tryz.results53 (by simp) ?_
    simp -implicitDefEqProofs [Tok.isNil]
    exact ⟨.sl [] .no, _, by simp [wk], HWk.refl _, rfl, HLe.refl _⟩
  · simp only [List.nil_append]
    have hsz : szs 1 (nuK l) = true := szs_map (f := fun n : Nat => (.sc (.int .u64 (n : Int)) : AV)) (fun _ => rfl) _
    have hxl : (nuK l).length = l.length := List.length_map _
    generalize nuK l = xs at *
    refine ACalls.into Tryz.func53 rfl Tryz.ntmps53 Tryz.results53 (by simp) ?_
    simp -implicitDefEqProofs [Tok.isNil]
    refine AApp.growsF el_31 GrowsF.zero (HLe.refl _) (by simp) hsz (by simp; omega) (by simp [maxLen]; omega) fun t' K' Hn hg hl => ?_
    rw [List.nil_append] at hg ⊢
    simp -implicitDefEqProofs
    exact ⟨.sl xs .no, _, by simp [wk, wkL_refl], HWk.refl _, rfl, hg.le.trans hl⟩
theorem c_tclone (j : Jb) (hl : j.deps.length ≤ 1000000) : ACalls Tryz.prog 31 [jbAV j .no] H (fun v K => v = jbAV j .no ∧ HLe H K) := by
  generalize hR : (fun (v : AV) (K : Heap) => v = jbAV j .no ∧ HLe H K) = R
  refine ACalls.into Tryz.func31 rfl Tryz.ntmps31 Tryz.results31 (by simp) ?_
  simp -implicitDefEqProofs [AV.cells]
  refine AAlloc.intro fun b1 h1 => ?_
  simp -implicitDefEqProofs
  refine AAlloc.intro fun b2 h2 => ?_
  have n12 : b1 ≠ b2 := by rintro rfl; simp [Heap.set] at h2
  simp -implicitDefEqProofs [n12]
  refine ACall.intro (c_cloneU j.deps hl) fun v K hv => ?_
  obtain ⟨rfl, hK⟩ := hv
  have k1 := hK b1 _ (by simp [Heap.set, n12]; rfl)
  have k2 := hK b2 _ (by simp [Heap.set]; rfl)
  have hHK : HLe H K := ((HLe.set_fresh h1).trans (HLe.set_fresh h2)).trans hK
  have e1 : H b2 = none := (HLe.set_fresh h1).none h2
  simp -implicitDefEqProofs [k1, k2, n12, n12.symm]
  subst hR
  exact AFin.intro _ _ (wk_refl _) (HWk.refl _) ⟨rfl, HLe.set_new (HLe.set_new hHK h1) e1⟩
abbrev jME (r : Jb × Nat) : ME := (r.1.id, jbAV r.1 .no, r.2)
structure TabAt (b m ck : Nat) (R : List (Jb × Nat)) (last : Nat) (K : Heap) : Prop where
  bl : K b = some (.cells [.sc (.map (some m)), .sc (.int .u64 (last : Int))] 60)
  at_ : K m = some (.map ((R.map jME).map meAV) ck)
  lt : ∀ r ∈ R, r.2 < ck
  nb : (R.map fun r => r.2).Nodup
  nk : (R.map fun r => r.1.id).Nodup
theorem TabAt.up {b m ck last : Nat} {R : List (Jb × Nat)} {K K' : Heap} (h : TabAt b m ck R last K) (hl : HLe K K') : TabAt b m ck R last K' := ⟨hl _ _ h.bl, hl _ _ h.at_, h.lt, h.nb, h.nk⟩
theorem TabAt.ne {b m ck last : Nat} {R : List (Jb × Nat)} {K : Heap} (h : TabAt b m ck R last K) : b ≠ m := by
  rintro rfl
  have h1 := h.bl
  rw [h.at_] at h1
  cases h1
theorem TabAt.born {b m ck last : Nat} {R : List (Jb × Nat)} {K : Heap} (h : TabAt b m ck R last K) : (∀ e ∈ R.map jME, e.2.2 < ck) ∧ ((R.map jME).map fun e => e.2.2).Nodup ∧ ((R.map jME).map fun e => e.1).Nodup := by
  refine ⟨fun e he => ?_, ?_, ?_⟩
  · obtain ⟨r, hr, rfl⟩ := List.mem_map.1 he
    exact h.lt r hr
  · rw [List.map_map]; exact h.nb
  · rw [List.map_map]; exact h.nk
theorem c_there {b m ck last : Nat} {R : List (Jb × Nat)} (h : TabAt b m ck R last H) : AOk Tryz.prog 28 [ptr b] H (.sc (.bool true)) H := by
  have kb := h.bl
  refine ACalls.into Tryz.func28 rfl Tryz.ntmps28 Tryz.results28 (by simp) ?_
  simp -implicitDefEqProofs [kb]
abbrev jbZ : Jb := ⟨0, [], [], 0, 0, 0, 0, 0, [], false, 0, 0⟩
abbrev zJ : List AV := [.sc (.int .u64 0), .sc (.string ByteArray.empty), .sc (.string ByteArray.empty), .sc (.int .i64 0), .sc (.int .i64 0), .sc (.int .i64 0), .sc (.int .i64 0), .sc (.int .i64 0), .sl [] .nil, .sc (.bool false), .sc (.int .u64 0), .sc (.int .i64 0)]
set_option maxHeartbeats 2000000 in
theorem c_find {b m ck last f c : Nat} {R : List (Jb × Nat)} (hcan : canCall Tryz.prog f = true) (h : TabAt b m ck R last H) (p : Jb → Bool) (hdl : ∀ r ∈ R, r.1.deps.length ≤ 1000000)
    (hu : ∀ r ∈ R, ∀ r' ∈ R, p r.1 = true → p r'.1 = true → r = r')
    (hp : ∀ r ∈ R, ∀ K, HLe H K → ACalls Tryz.prog f [jbAV r.1 .no, ptr c] K (fun v K' => v = .sc (.bool (p r.1)) ∧ HLe K K')) :
    ACalls Tryz.prog 45 [ptr b, .sc (.func (.func f) #[] #[.pointer (some ⟨c, 0, none⟩)])] H (fun v K => (match R.find? (fun r => p r.1) with | some r => v = .tup [jbAV r.1 .no, .sc (.bool true)] | none => v = .tup [jbAV jbZ .no, .sc (.bool false)]) ∧ HLe H K) := by
  generalize hR : (fun (v : AV) (K : Heap) => (match R.find? (fun r => p r.1) with | some r => v = .tup [jbAV r.1 .no, .sc (.bool true)] | none => v = .tup [jbAV jbZ .no, .sc (.bool false)]) ∧ HLe H K) = Q
  refine ACalls.into Tryz.func45 rfl Tryz.ntmps45 Tryz.results45 (by simp) ?_
  simp -implicitDefEqProofs [AV.cells]
  refine AAlloc.intro fun b4 h4 => ?_
  simp -implicitDefEqProofs
  generalize hK4 : Heap.set H b4 _ = K4
  have hl4 : HLe H K4 := by rw [← hK4]; exact HLe.set_fresh h4
  have k4 : K4 b4 = some (.cells zJ 33) := by rw [← hK4]; simp [Heap.set]
  clear hK4
  refine ACall.eq (c_there (h.up hl4)) ?_
  have kb := (h.up hl4).bl
  have hat := (h.up hl4).at_
  simp -implicitDefEqProofs [kb, st_range]
  refine ACall.intro (c_rangeMap m_jobs hat) fun v K hv => ?_
  obtain ⟨it, eit, rfl, rfl⟩ := hv
  simp -implicitDefEqProofs
  have hfi : H it = none := hl4.none eit
  have b4H : H b4 = none := h4
  obtain ⟨hb1, hb2, _⟩ := h.born
  refine AGo.rounds (fun μ ρ K => ∃ S : List (Jb × Nat), μ = R.length - S.length ∧ (∀ r ∈ S, r ∈ R ∧ p r.1 = false) ∧ (S.map fun r => r.2).Nodup ∧ HLe H K ∧ K b4 = some (.cells zJ 33) ∧ K it = some (.iter (some m) ck (S.map fun r => r.2) ck) ∧ ρ 1 = .sc (.func (.func f) #[] #[.pointer (some ⟨c, 0, none⟩)]) ∧ ρ 4 = ptr b4 ∧ ρ 16 = ptr it) ?_ (m := R.length) (HLe.refl _)
    ⟨[], rfl, by simp, by simp, hl4.trans (HLe.set_fresh eit), by
      have : b4 ≠ it := by rintro rfl; rw [eit] at k4; cases k4
      simp [Heap.set, this, k4], by simp [Heap.set], by simp, by simp, by simp⟩
  clear hat kb k4 eit
  rintro μ ρ K ih ⟨S, rfl, hSR, hSn, hHK, k4, hit, r1, r4, r16⟩
  have hm := hHK _ _ h.at_
  have hmi : m ≠ it := by rintro rfl; rw [hm] at hit; cases hit
  simp -implicitDefEqProofs [r16, st_next]
  refine ACall.intro (c_nextMap hit hm (fun e he => by obtain ⟨q, hq, rfl⟩ := List.mem_map.1 he; exact hb1 q hq)) fun v K2 hv => ?_
  rcases hv with ⟨e, he, hen, rfl, rfl⟩ | ⟨hall, rfl, rfl⟩
  · obtain ⟨e', he', rfl⟩ := List.mem_map.1 he
    obtain ⟨x, hx, rfl⟩ := List.mem_map.1 he'
    have hc := c_entry (P := Tryz.prog) (H := K.set it (.iter (some m) ck ((S.map fun r => r.2) ++ [x.2]) ck)) (it := it) (m := m) (ck := ck) (s := x.2) (seen := S.map fun r => r.2) (es := (R.map jME).map meAV) (e := meAV (jME x)) (by simp [Heap.set])
      (by simp [Heap.set, hmi, hm]) he rfl
      (fun e2 he2 hb => by
        obtain ⟨q, hq, rfl⟩ := List.mem_map.1 he2
        rw [show q = jME x from map_inj hb2 hq he' hb])
    have hlen : (S ++ [x]).length ≤ R.length := by
      have h1 : ((S ++ [x]).map fun r => r.2).Nodup := by
        rw [List.map_append, List.nodup_append]
        exact ⟨hSn, by simp, fun a ha b hb => by simp at hb; subst hb; rintro rfl; exact hen ha⟩
      have h2 : ∀ a ∈ (S ++ [x]).map (fun r => r.2), a ∈ R.map fun r => r.2 := fun a ha => by
        obtain ⟨q, hq, rfl⟩ := List.mem_map.1 ha
        rcases List.mem_append.1 hq with hq | hq
        · exact List.mem_map_of_mem (hSR q hq).1
        · rw [List.mem_singleton.1 hq]; exact List.mem_map_of_mem hx
      have := nodup_len _ _ h1 h2
      simpa using this
    have hb4i : b4 ≠ it := by rintro rfl; rw [k4] at hit; cases hit
    have hK3 : HLe H (K.set it (.iter (some m) ck ((S.map fun r => r.2) ++ [x.2]) ck)) := HLe.set_new hHK hfi
    have k43 : (K.set it (.iter (some m) ck ((S.map fun r => r.2) ++ [x.2]) ck)) b4 = some (.cells zJ 33) := by simp [Heap.set, hb4i, k4]
    have hit3 : (K.set it (.iter (some m) ck ((S.map fun r => r.2) ++ [x.2]) ck)) it = some (.iter (some m) ck ((S.map fun r => r.2) ++ [x.2]) ck) := by simp [Heap.set]
    generalize Heap.set K it _ = K3 at *
    simp -implicitDefEqProofs [r16, st_entry]
    refine ACall.eq hc ?_
    simp -implicitDefEqProofs [AV.cells]
    refine AAlloc.intro fun b7 h7 => ?_
    simp -implicitDefEqProofs [r1, hcan]
    generalize hK7 : Heap.set K3 b7 _ = K7
    have hl7 : HLe K3 K7 := by rw [← hK7]; exact HLe.set_fresh h7
    have k7 : K7 b7 = some (.cells (jbC x.1 .no) 33) := by rw [← hK7]; simp [Heap.set]
    clear hK7
    have hpc := hp x hx K7 (hK3.trans hl7)
    refine ACall.intro hpc fun v K5 hv => ?_
    obtain ⟨rfl, hK5⟩ := hv
    have k7 := hK5 _ _ k7
    have hl35 : HLe K3 K5 := hl7.trans hK5
    have k45 := hl35 _ _ k43
    have hit5 := hl35 _ _ hit3
    have hHK5 := hK3.trans hl35
    clear hK5 hl7 hl35 hpc
    cases hpx : p x.1 with
    | true =>
      simp -implicitDefEqProofs [k7]
      refine ACall.intro (c_tclone x.1 (hdl x hx)) fun v K6 hv => ?_
      obtain ⟨rfl, hK6⟩ := hv
      have k46 := hK6 _ _ k45
      simp -implicitDefEqProofs [r4, k46]
      have hfd : R.find? (fun r => p r.1) = some x := by
        cases hf : R.find? (fun r => p r.1) with
        | none =>
          have := List.find?_eq_none.1 hf x hx
          rw [hpx] at this
          simp at this
        | some y =>
          have h1 := List.mem_of_find?_eq_some hf
          have h2 : p y.1 = true := by simpa using List.find?_some hf
          rw [hu y h1 x hx h2 hpx]
      subst hR
      refine AFin.intro _ _ (wk_refl _) (HWk.refl _) ⟨?_, HLe.set_new (hHK5.trans hK6) b4H⟩
      rw [hfd]
    | false =>
      simp -implicitDefEqProofs
      exact AGo.again ih (m' := R.length - (S ++ [x]).length) (by simp only [List.length_append, List.length_singleton] at hlen ⊢; omega) (HLe.refl _) ⟨S ++ [x], rfl, fun a ha => by
        rcases List.mem_append.1 ha with ha | ha
        · exact hSR a ha
        · rw [List.mem_singleton.1 ha]; exact ⟨hx, hpx⟩, by
        rw [List.map_append, List.nodup_append]
        exact ⟨hSn, by simp, fun a ha b hb => by simp at hb; subst hb; rintro rfl; exact hen ha⟩, hHK5, k45, by simpa using hit5, by simp [r1], by simp [r4], by simp [r16]⟩
  · simp -implicitDefEqProofs [r4, k4]
    have hfd : R.find? (fun r => p r.1) = none := by
      rw [List.find?_eq_none]
      intro x hx
      have h1 := hall (meAV (jME x)) (List.mem_map_of_mem (List.mem_map_of_mem hx))
      obtain ⟨q, hq, hqa⟩ := List.mem_map.1 h1
      have h2 : jME q = jME x := map_inj hb2 (List.mem_map_of_mem (hSR q hq).1) (List.mem_map_of_mem hx) hqa
      have h3 : q = x := map_inj (f := fun r : Jb × Nat => r.2) h.nb (hSR q hq).1 hx (congrArg (fun e : ME => e.2.2) h2)
      rw [← h3, (hSR q hq).2]
      simp
    subst hR
    refine AFin.intro (.tup [jbAV jbZ .no, .sc (.bool false)]) _ ?_ (HWk.refl _) ⟨?_, HLe.set_new hHK b4H⟩
    · have hs : str [] = .sc (.string ByteArray.empty) := rfl
      simp [wk, hs]
    · rw [hfd]
end Go.Proofs.YtlhgpodfhdddkaaGreatDoor
namespace Go.Proofs.YtlhgpodfhdddkaaGreatDoor
open Rg Go Go.RowKit
variable {H : Heap}
abbrev tbOf (R : List (Jb × Nat)) (last : Nat) : Tb := ⟨R.map (fun r => r.1), last⟩
def ansJ : Option Jb → AV
  | some w => .tup [jbAV w .no, .sc (.bool true)]
  | none => .tup [jbAV jbZ .no, .sc (.bool false)]
theorem c_find1 (j : Jb) (id c : Nat) {T : TypeId} (kc : H c = some (.cells [.sc (.int .u64 (id : Int))] T)) : ACalls Tryz.prog 46 [jbAV j .no, ptr c] H (fun v K => v = .sc (.bool (decide (j.id = id))) ∧ HLe H K) := by
  generalize hR : (fun (v : AV) (K : Heap) => v = .sc (.bool (decide (j.id = id))) ∧ HLe H K) = R
  refine ACalls.into Tryz.func46 rfl Tryz.ntmps46 Tryz.results46 (by simp) ?_
  simp -implicitDefEqProofs [AV.cells]
  refine AAlloc.intro fun b1 h1 => ?_
  have nc : c ≠ b1 := by rintro rfl; rw [kc] at h1; cases h1
  have hl : ∀ o, HLe H (H.set b1 o) := fun o => HLe.set_fresh h1
  by_cases hj : j.id = id
  · have hj' : (j.id : Int) = (id : Int) := by omega
    simp -implicitDefEqProofs [nc, kc, hj, hj']
    subst hR
    exact AFin.intro _ _ (wk_refl _) (HWk.refl _) ⟨by simp [hj], hl _⟩
  · have hj' : ¬ (j.id : Int) = (id : Int) := by omega
    simp -implicitDefEqProofs [nc, kc, hj, hj']
    subst hR
    exact AFin.intro _ _ (wk_refl _) (HWk.refl _) ⟨by simp [hj], hl _⟩
theorem c_named1 (j : Jb) (n : List UInt8) (c : Nat) {T : TypeId} (kc : H c = some (.cells [str n] T)) : ACalls Tryz.prog 52 [jbAV j .no, ptr c] H (fun v K => v = .sc (.bool (decide (j.name = n))) ∧ HLe H K) := by
  generalize hR : (fun (v : AV) (K : Heap) => v = .sc (.bool (decide (j.name = n))) ∧ HLe H K) = R
  refine ACalls.into Tryz.func52 rfl Tryz.ntmps52 Tryz.results52 (by simp) ?_
  simp -implicitDefEqProofs [AV.cells]
  refine AAlloc.intro fun b1 h1 => ?_
  have nc : c ≠ b1 := by rintro rfl; rw [kc] at h1; cases h1
  have hl : ∀ o, HLe H (H.set b1 o) := fun o => HLe.set_fresh h1
  by_cases hj : j.name = n
  · simp -implicitDefEqProofs [nc, kc, hj]
    subst hR
    exact AFin.intro _ _ (wk_refl _) (HWk.refl _) ⟨by simp [hj], hl _⟩
  · simp -implicitDefEqProofs [nc, kc, hj]
    subst hR
    exact AFin.intro _ _ (wk_refl _) (HWk.refl _) ⟨by simp [hj], hl _⟩
theorem find_tb (R : List (Jb × Nat)) (p : Jb → Bool) : (R.map (fun r => r.1)).find? p = (R.find? (fun r => p r.1)).map (fun r => r.1) := by
  rw [List.find?_map]
  rfl
theorem c_tFind {b m ck last : Nat} {R : List (Jb × Nat)} (h : TabAt b m ck R last H) (hdl : ∀ r ∈ R, r.1.deps.length ≤ 1000000) (id : Nat) :
    ACalls Tryz.prog 22 [ptr b, .sc (.int .u64 (id : Int))] H (fun v K => v = ansJ (foundT (tbOf R last) id) ∧ HLe H K) := by
  unfold foundT
  rw [find_tb]
  generalize hR : (fun (v : AV) (K : Heap) => v = ansJ ((R.find? (fun r => decide (r.1.id = id))).map fun r => r.1) ∧ HLe H K) = Q
  refine ACalls.into Tryz.func22 rfl Tryz.ntmps22 Tryz.results22 (by simp) ?_
  simp -implicitDefEqProofs [AV.cells]
  refine AAlloc.intro fun b3 h3 => ?_
  simp -implicitDefEqProofs
  refine AAlloc.intro fun b4 h4 => ?_
  have n34 : b3 ≠ b4 := by rintro rfl; simp [Heap.set] at h4
  simp -implicitDefEqProofs
  generalize hK4 : Heap.set _ b4 _ = K4
  have hl4 : HLe H K4 := by rw [← hK4]; exact (HLe.set_fresh h3).trans (HLe.set_fresh h4)
  have k3 : K4 b3 = some (.cells [.sc (.int .u64 (id : Int))] 28) := by rw [← hK4]; simp [Heap.set, n34]
  have k4 : K4 b4 = some (.cells zJ 33) := by rw [← hK4]; simp [Heap.set]
  have e4 : H b4 = none := (HLe.set_fresh h3).none h4
  clear hK4
  refine ACall.intro (c_find (f := 46) (c := b3) (by simp) (h.up hl4) (fun j => decide (j.id = id)) hdl (fun r hr r' hr' e1 e2 => map_inj (f := fun r : Jb × Nat => r.1.id) h.nk hr hr' (by simp at e1 e2; omega)) (fun r hr K hK => c_find1 r.1 id b3 (hK _ _ k3))) fun v K hv => ?_
  obtain ⟨hv, hK⟩ := hv
  have k4 := hK _ _ k4
  have hHK := hl4.trans hK
  cases hf : R.find? (fun r => decide (r.1.id = id)) with
  | none =>
    rw [hf] at hv hR
    obtain rfl := hv
    simp -implicitDefEqProofs [k4]
    subst hR
    exact AFin.intro _ _ (wk_refl _) (HWk.refl _) ⟨rfl, HLe.set_new hHK e4⟩
  | some r =>
    rw [hf] at hv hR
    obtain rfl := hv
    simp -implicitDefEqProofs [k4]
    subst hR
    exact AFin.intro _ _ (wk_refl _) (HWk.refl _) ⟨rfl, HLe.set_new hHK e4⟩
theorem c_tNamed {b m ck last : Nat} {R : List (Jb × Nat)} (h : TabAt b m ck R last H) (hdl : ∀ r ∈ R, r.1.deps.length ≤ 1000000) (hn : (R.map fun r => r.1.name).Nodup) (nm : List UInt8) :
    ACalls Tryz.prog 30 [ptr b, str nm] H (fun v K => v = ansJ (namedT (tbOf R last) nm) ∧ HLe H K) := by
  have inj : ∀ (L : List (Jb × Nat)), (L.map fun r => r.1.name).Nodup → ∀ x ∈ L, ∀ y ∈ L, x.1.name = y.1.name → x = y := by
    intro L
    induction L with
    | nil => intro _ x hx; cases hx
    | cons a L ih =>
      intro hn x hx y hy e
      rw [List.map_cons, List.nodup_cons] at hn
      rcases List.mem_cons.1 hx with h1 | h1
      · rcases List.mem_cons.1 hy with h2 | h2
        · rw [h1, h2]
        · exact absurd (by rw [← h1, e]; exact List.mem_map_of_mem h2) hn.1
      · rcases List.mem_cons.1 hy with h2 | h2
        · exact absurd (by rw [← h2, ← e]; exact List.mem_map_of_mem h1) hn.1
        · exact ih hn.2 x h1 y h2 e
  unfold namedT
  rw [find_tb]
  generalize hR : (fun (v : AV) (K : Heap) => v = ansJ ((R.find? (fun r => decide (r.1.name = nm))).map fun r => r.1) ∧ HLe H K) = Q
  refine ACalls.into Tryz.func30 rfl Tryz.ntmps30 Tryz.results30 (by simp) ?_
  simp -implicitDefEqProofs [AV.cells]
  refine AAlloc.intro fun b3 h3 => ?_
  simp -implicitDefEqProofs
  refine AAlloc.intro fun b4 h4 => ?_
  have n34 : b3 ≠ b4 := by rintro rfl; simp [Heap.set] at h4
  simp -implicitDefEqProofs
  generalize hK4 : Heap.set _ b4 _ = K4
  have hl4 : HLe H K4 := by rw [← hK4]; exact (HLe.set_fresh h3).trans (HLe.set_fresh h4)
  have k3 : K4 b3 = some (.cells [str nm] 9) := by rw [← hK4]; simp [Heap.set, n34]
  have k4 : K4 b4 = some (.cells zJ 33) := by rw [← hK4]; simp [Heap.set]
  have e4 : H b4 = none := (HLe.set_fresh h3).none h4
  clear hK4
  refine ACall.intro (c_find (f := 52) (c := b3) (by simp) (h.up hl4) (fun j => decide (j.name = nm)) hdl (fun r hr r' hr' e1 e2 => inj _ hn r hr r' hr' (by simp at e1 e2; rw [e1, e2])) (fun r hr K hK => c_named1 r.1 nm b3 (hK _ _ k3))) fun v K hv => ?_
  obtain ⟨hv, hK⟩ := hv
  have k4 := hK _ _ k4
  have hHK := hl4.trans hK
  cases hf : R.find? (fun r => decide (r.1.name = nm)) with
  | none =>
    rw [hf] at hv hR
    obtain rfl := hv
    simp -implicitDefEqProofs [k4]
    subst hR
    exact AFin.intro _ _ (wk_refl _) (HWk.refl _) ⟨rfl, HLe.set_new hHK e4⟩
  | some r =>
    rw [hf] at hv hR
    obtain rfl := hv
    simp -implicitDefEqProofs [k4]
    subst hR
    exact AFin.intro _ _ (wk_refl _) (HWk.refl _) ⟨rfl, HLe.set_new hHK e4⟩
theorem sorted_eq : ∀ {A B : List Nat}, A.Perm B → A.Pairwise (· ≤ ·) → B.Pairwise (· ≤ ·) → A = B
  | [], B, hp, _, _ => (List.nil_perm.1 hp).symm
  | a :: A, [], hp, _, _ => by simpa using hp.length_eq
  | a :: A, b :: B, hp, ha, hb => by
    rw [List.pairwise_cons] at ha hb
    have h1 : a ≤ b := by
      rcases List.mem_cons.1 (hp.symm.subset (by simp : b ∈ b :: B)) with e | e
      · omega
      · exact ha.1 b e
    have h2 : b ≤ a := by
      rcases List.mem_cons.1 (hp.subset (by simp : a ∈ a :: A)) with e | e
      · omega
      · exact hb.1 a e
    have e : a = b := by omega
    subst e
    rw [sorted_eq (List.Perm.cons_inv hp) ha.2 hb.2]
set_option maxHeartbeats 2000000 in
theorem c_tList {b m ck last : Nat} {R : List (Jb × Nat)} (h : TabAt b m ck R last H) (hdl : ∀ r ∈ R, r.1.deps.length ≤ 1000000) (hasc : (R.map fun r => r.1).Pairwise fun a b => a.id < b.id) (hlen : R.length < 50) :
    ACalls Tryz.prog 20 [ptr b] H (fun v K => v = .sl (jbsAV (R.map fun r => r.1)) .no ∧ HLe H K) := by
  obtain ⟨L, hL⟩ : ∃ L, R.map (fun r => r.1) = L := ⟨_, rfl⟩
  rw [hL] at hasc ⊢
  have hLl : L.length = R.length := by rw [← hL, List.length_map]
  generalize hR : (fun (v : AV) (K : Heap) => v = .sl (jbsAV L) .no ∧ HLe H K) = Q
  obtain ⟨dk, hdk⟩ := ty_of (P := Tryz.prog) (T := 28) (by kernel_rfl)
  have kb := h.bl
  refine ACalls.into Tryz.func20 rfl Tryz.ntmps20 Tryz.results20 (by simp) ?_
  simp -implicitDefEqProofs
  refine ACall.eq (c_there h) ?_
  simp -implicitDefEqProofs [kb]
  refine ACall.intro (c_keys (m := m)) fun v K1 hv => ?_
  obtain ⟨c1, rfl, hK1, kc1⟩ := hv
  simp -implicitDefEqProofs
  obtain ⟨hb1, hb2, hb3⟩ := h.born
  refine ACall.intro (c_sortedF (lb := #[.pointer (some ⟨c1, 0, none⟩)]) (by simp; omega) (iter_keys hb1 hb2 (hK1 _ _ h.at_) kc1) (fun ks e => by rw [e.length_eq]; simp; omega)) fun v K2 hv => ?_
  obtain ⟨ks, ⟨k0, hp0, hp⟩, hs, rfl, hK2⟩ := hv
  have hks : ks = L.map fun j => j.id := by
    have := hp.trans hp0
    rw [List.map_map] at this
    have e : (R.map ((fun e : ME => e.1) ∘ jME)) = L.map fun j => j.id := by rw [← hL, List.map_map]; rfl
    rw [e] at this
    refine sorted_eq this hs ?_
    rw [List.pairwise_map]
    exact hasc.imp fun h => by omega
  have hkl : ks.length = R.length := by rw [hks, List.length_map, hLl]
  have hHK := hK1.trans hK2
  clear hp hp0 hs hK1 hK2 kc1 k0
  simp -implicitDefEqProofs
  refine AGo.rounds (fun μ ρ K => ∃ (i : Nat) (tk : Rg.Tok) (xs : List AV), μ = ks.length - i ∧ i ≤ ks.length ∧ xs = jbsAV (L.take i) ∧ HLe H K ∧ GrowsK H xs.length 12 33 tk K ∧ ρ 0 = ptr b ∧ ρ 3 = .sl xs tk ∧ ρ 14 = .sl (nuK ks) .no ∧ ρ 15 = .sc (.int .i64 (ks.length : Int)) ∧ ρ 16 = .sc (.int .i64 (i : Int))) ?_ (m := ks.length) (HLe.refl _)
    ⟨0, .nil, [], rfl, by omega, by simp, hHK, .inl ⟨rfl, rfl⟩, by simp, by simp, by simp, by simp, by simp⟩
  clear hHK
  rintro μ ρ K ih ⟨i, tk, xs, rfl, hi, hxs, hHK, hg, r0, r3, r14, r15, r16⟩
  by_cases hlt : i < ks.length
  · have hlt' : (i : Int) < (ks.length : Int) := by omega
    obtain ⟨y, hyj, hy⟩ := getAt hlt
    have w1 : IntKind.i64.wrap ((i : Int) + 1) = ((i + 1 : Nat) : Int) := by rw [wrap_i64 (by omega) (by omega)]; omega
    obtain ⟨r, hr⟩ : ∃ r, R[i]? = some r := ⟨R[i]'(by omega), List.getElem?_eq_getElem (by omega)⟩
    have hLi : L[i]? = some r.1 := by rw [← hL, List.getElem?_map, hr]; rfl
    have hyr : r.1.id = y := by
      rw [hks, List.getElem?_map, hLi] at hy
      simpa using hy
    have hj2 : (R.map jME)[i]? = some (jME r) := by rw [List.getElem?_map, hr]; rfl
    have hhit := hit_me hb3 hj2
    have hkey : uAV (jME r).1 = uAV y := by rw [← hyr]
    rw [hkey] at hhit
    have hd : jbsAV (L.take i) ++ [jbAV r.1 .no] = jbsAV (L.take (i + 1)) := by rw [List.take_add_one, hLi]; simp
    have hxl : (jbsAV (L.take i)).length = i := by simp; omega
    have hsz := szs_jbs (L.take i)
    obtain ⟨ys, hys⟩ : ∃ ys, jbsAV (L.take (i + 1)) = ys := ⟨_, rfl⟩
    rw [hys] at hd
    rw [← hxs] at hd hxl hsz
    have kb := hHK _ _ h.bl
    simp -implicitDefEqProofs [r0, r3, r14, r15, r16, hlt, hlt', hyj, kb, st_lookup]
    refine ACall.eq (c_lookup1 m_jobs hdk (hHK _ _ h.at_) (acheck_n y) hhit) ?_
    simp -implicitDefEqProofs
    refine ACall.intro (c_tclone r.1 (hdl r (List.mem_of_getElem? hr))) fun v K3 hv => ?_
    obtain ⟨rfl, hK3⟩ := hv
    obtain ⟨G0, G, g1, g2, g3, _⟩ := (hg.up hK3).grows (hHK.trans hK3)
    simp -implicitDefEqProofs
    refine AApp.grows el_27 g1 g2 (by simp) hsz (by simp [szs, AV.cells]) (by simp; omega) (by simp [maxLen]; omega) fun t' K4 Hn hg' hl' => ?_
    rw [hd] at hg' ⊢
    obtain ⟨c1, c2⟩ := GrowsK.of g3 hg' hl'
    simp -implicitDefEqProofs [r16, w1]
    exact AGo.again ih (m' := ks.length - (i + 1)) (by omega) (HLe.refl _) ⟨i + 1, t', ys, rfl, by omega, hys.symm, c2, c1, by simp [r0], by simp, by simp [r14], by simp [r15], by simp⟩
  · have hlt' : ¬ (i : Int) < (ks.length : Int) := by omega
    rw [List.take_of_length_le (by omega)] at hxs
    simp -implicitDefEqProofs [r0, r3, r14, r15, r16, hlt, hlt']
    subst hR
    exact AFin.intro (.sl (jbsAV L) .no) _ (by rw [hxs]; simp [wk]) (HWk.refl _) ⟨rfl, hHK⟩
set_option maxHeartbeats 2000000 in
theorem c_nodes (L : List Jb) (t : Rg.Tok) (hl : L.length ≤ 1000000) : ACalls Tryz.prog 50 [.sl (jbsAV L) t] H (fun v K => v = .sl (ndsAV (ndsOf L)) .no ∧ HLe H K) := by
  generalize hR : (fun (v : AV) (K : Heap) => v = .sl (ndsAV (ndsOf L)) .no ∧ HLe H K) = Q
  refine ACalls.into Tryz.func50 rfl Tryz.ntmps50 Tryz.results50 (by simp) ?_
  simp -implicitDefEqProofs
  refine AGo.rounds (fun μ ρ K => ∃ (i : Nat) (tk : Rg.Tok) (xs : List AV), μ = L.length - i ∧ i ≤ L.length ∧ xs = ndsAV (ndsOf (L.take i)) ∧ HLe H K ∧ GrowsK H xs.length 2 76 tk K ∧ ρ 3 = .sl xs tk ∧ ρ 6 = .sl (jbsAV L) t ∧ ρ 7 = .sc (.int .i64 (L.length : Int)) ∧ ρ 8 = .sc (.int .i64 (i : Int))) ?_ (m := L.length) (HLe.refl _)
    ⟨0, .nil, [], rfl, by omega, by simp, HLe.refl _, .inl ⟨rfl, rfl⟩, by simp, by simp, by simp, by simp⟩
  rintro μ ρ K ih ⟨i, tk, xs, rfl, hi, hxs, hHK, hg, r3, r6, r7, r8⟩
  by_cases hlt : i < L.length
  · have hlt' : (i : Int) < (L.length : Int) := by omega
    obtain ⟨y, hyj, hy⟩ := getAt hlt
    have w1 : IntKind.i64.wrap ((i : Int) + 1) = ((i + 1 : Nat) : Int) := by rw [wrap_i64 (by omega) (by omega)]; omega
    have hd : ndsAV (ndsOf (L.take i)) ++ [.agg [.sc (.int .u64 (y.id : Int)), .sl (nuAV y.deps) .no]] = ndsAV (ndsOf (L.take (i + 1))) := by rw [List.take_add_one, hy]; simp
    have hxl : (ndsAV (ndsOf (L.take i))).length = i := by simp; omega
    have hsz := szs_nds (ndsOf (L.take i))
    obtain ⟨ys, hys⟩ : ∃ ys, ndsAV (ndsOf (L.take (i + 1))) = ys := ⟨_, rfl⟩
    rw [hys] at hd
    rw [← hxs] at hd hxl hsz
    simp -implicitDefEqProofs [r3, r6, r7, r8, hlt, hlt', hyj, AV.cells]
    refine AAlloc.intro fun b5 h5 => ?_
    obtain ⟨G0, G, g1, g2, g3, _⟩ := hg.grows hHK
    simp -implicitDefEqProofs [r3]
    refine AApp.grows el_52 g1 (g2.trans (HLe.set_fresh h5)) (by simp) hsz (by simp [szs, AV.cells]) (by simp; omega) (by simp [maxLen]; omega) fun t' K4 Hn hg' hl' => ?_
    rw [hd] at hg' ⊢
    obtain ⟨c1, c2⟩ := GrowsK.of g3 hg' hl'
    simp -implicitDefEqProofs [r8, w1]
    exact AGo.again ih (m' := L.length - (i + 1)) (by omega) (HLe.refl _) ⟨i + 1, t', ys, rfl, by omega, hys.symm, c2, c1, by simp, by simp [r6], by simp [r7], by simp⟩
  · have hlt' : ¬ (i : Int) < (L.length : Int) := by omega
    rw [List.take_of_length_le (by omega)] at hxs
    simp -implicitDefEqProofs [r3, r6, r7, r8, hlt, hlt']
    subst hR
    exact AFin.intro (.sl (ndsAV (ndsOf L)) .no) _ (by rw [hxs]; simp [wk]) (HWk.refl _) ⟨rfl, hHK⟩
theorem c_tNodes {b m ck last : Nat} {R : List (Jb × Nat)} (h : TabAt b m ck R last H) (hdl : ∀ r ∈ R, r.1.deps.length ≤ 1000000) (hasc : (R.map fun r => r.1).Pairwise fun a b => a.id < b.id) (hlen : R.length < 50) :
    ACalls Tryz.prog 25 [ptr b] H (fun v K => v = .sl (ndsAV (ndsOf (R.map fun r => r.1))) .no ∧ HLe H K) := by
  generalize hR : (fun (v : AV) (K : Heap) => v = .sl (ndsAV (ndsOf (R.map fun r => r.1))) .no ∧ HLe H K) = Q
  refine ACalls.into Tryz.func25 rfl Tryz.ntmps25 Tryz.results25 (by simp) ?_
  simp -implicitDefEqProofs
  refine ACall.intro (c_tList h hdl hasc hlen) fun v K1 hv => ?_
  obtain ⟨rfl, hK1⟩ := hv
  obtain ⟨L, hL⟩ : ∃ L, R.map (fun r => r.1) = L := ⟨_, rfl⟩
  have hLl : L.length = R.length := by rw [← hL, List.length_map]
  rw [hL] at hR ⊢
  simp -implicitDefEqProofs
  refine ACall.intro (c_nodes L .no (by omega)) fun v K2 hv => ?_
  obtain ⟨rfl, hK2⟩ := hv
  simp -implicitDefEqProofs
  subst hR
  exact AFin.intro _ _ (wk_refl _) (HWk.refl _) ⟨by simp, hK1.trans hK2⟩
end Go.Proofs.YtlhgpodfhdddkaaGreatDoor
namespace Go.Proofs.YtlhgpodfhdddkaaGreatDoor
open Rg Go Go.RowKit
variable {H : Heap}
theorem c_tRowG {b m ck ck' last : Nat} {R R' : List (Jb × Nat)} {j : Jb} (h : TabAt b m ck R last H)
    (hup : ∀ K m', K m' = some (.map ((R.map jME).map meAV) ck) → AOk Tryz.prog Tryz.prog.funcs.size (pa 3 58 [.sc (.map (some m')), uAV j.id, jbAV j .no]) K (.sc undef) (K.set m' (.map ((R'.map jME).map meAV) ck')))
    (lt : ∀ r ∈ R', r.2 < ck') (nb : (R'.map fun r => r.2).Nodup) (hdl : ∀ r ∈ R', r.1.deps.length ≤ 1000000) (hasc : (R'.map fun r => r.1).Pairwise fun a b => a.id < b.id) (hlen : R'.length < 50) :
    ACalls Tryz.prog 32 [ptr b, jbAV j .no] H (fun v K => v = .sc (.int .i64 (mayN (ndsOf (R'.map fun r => r.1)))) ∧ HLe H K) := by
  generalize hR : (fun (v : AV) (K : Heap) => v = .sc (.int .i64 (mayN (ndsOf (R'.map fun r => r.1)))) ∧ HLe H K) = Q
  refine ACalls.into Tryz.func32 rfl Tryz.ntmps32 Tryz.results32 (by simp) ?_
  simp -implicitDefEqProofs [AV.cells]
  refine AAlloc.intro fun b3 h3 => ?_
  have nb3 : b ≠ b3 := by rintro rfl; rw [h.bl] at h3; cases h3
  have kb := h.bl
  simp -implicitDefEqProofs [nb3, kb]
  generalize hK3 : Heap.set H b3 _ = K3
  have hl3 : HLe H K3 := by rw [← hK3]; exact HLe.set_fresh h3
  have k3 : K3 b3 = some (.cells (jbC j .no) 33) := by rw [← hK3]; simp [Heap.set]
  clear hK3
  refine ACall.intro (c_mapsClone (hl3 _ _ h.at_)) fun v K4 hv => ?_
  obtain ⟨m', hm', rfl, rfl⟩ := hv
  have n3m : b3 ≠ m' := by rintro rfl; rw [k3] at hm'; cases hm'
  simp -implicitDefEqProofs [n3m, k3, st_update]
  refine ACall.eq (hup _ m' (by simp [Heap.set])) ?_
  simp -implicitDefEqProofs
  refine AAlloc.intro fun b' h' => ?_
  have nmb : m' ≠ b' := by rintro rfl; simp [Heap.set] at h'
  simp -implicitDefEqProofs
  generalize hK5 : Heap.set _ b' _ = K5
  have hl5 : HLe H K5 := by
    rw [← hK5]
    exact (hl3.trans (HLe.set_fresh hm')).trans (HLe.set_fresh h')
  have hT5 : TabAt b' m' ck' R' 0 K5 := by
    refine ⟨by rw [← hK5]; simp [Heap.set], by rw [← hK5]; simp [Heap.set, nmb], lt, nb, ?_⟩
    have := ids_nodup hasc
    rwa [List.map_map] at this
  clear hK5 h'
  refine ACall.intro (c_tNodes hT5 hdl hasc hlen) fun v K6 hv => ?_
  obtain ⟨rfl, hK6⟩ := hv
  obtain ⟨N, hN⟩ : ∃ N, ndsOf (R'.map fun r => r.1) = N := ⟨_, rfl⟩
  have hNl : N.length = R'.length := by rw [← hN]; simp
  have hNd : ∀ n ∈ N, n.2.length ≤ 1000000 := fun n hn => by
    rw [← hN] at hn
    obtain ⟨k, hk, rfl⟩ := List.mem_map.1 hn
    obtain ⟨r, hr, rfl⟩ := List.mem_map.1 hk
    exact hdl r hr
  rw [hN] at hR ⊢
  simp -implicitDefEqProofs
  refine ACall.intro (c_graphMay N .no (by omega) hNd) fun v K7 hv => ?_
  obtain ⟨rfl, hK7⟩ := hv
  simp -implicitDefEqProofs
  subst hR
  exact AFin.intro _ _ (wk_refl _) (HWk.refl _) ⟨rfl, hl5.trans (hK6.trans hK7)⟩
def Upd (b m : Nat) (H K : Heap) : Prop := ∀ p o, H p = some o → p ≠ b → p ≠ m → K p = some o
theorem Upd.le {b m : Nat} {H K : Heap} (h : HLe H K) : Upd b m H K := fun p o hp _ _ => h p o hp
theorem Upd.trans {b m : Nat} {H K L : Heap} (h : Upd b m H K) (h2 : Upd b m K L) : Upd b m H L := fun p o hp h3 h4 => h2 p o (h p o hp h3 h4) h3 h4
theorem Upd.set {b m : Nat} {H K : Heap} {c : Nat} {o : AObj} (h : Upd b m H K) (hc : c = b ∨ c = m) : Upd b m H (K.set c o) := fun p o' hp h3 h4 => by
  have : p ≠ c := by rintro rfl; rcases hc with e | e; exact h3 e; exact h4 e
  simp only [Heap.set, if_neg this]
  exact h p o' hp h3 h4
theorem Upd.new {b m : Nat} {H K : Heap} {c : Nat} {o : AObj} (h : Upd b m H K) (hc : H c = none) : Upd b m H (K.set c o) := fun p o' hp h3 h4 => by
  have : p ≠ c := by rintro rfl; rw [hc] at hp; cases hp
  simp only [Heap.set, if_neg this]
  exact h p o' hp h3 h4
theorem put_ent {R : List (Jb × Nat)} (hk : (R.map fun r => r.1.id).Nodup) {i : Nat} {r : Jb × Nat} (hr : R[i]? = some r) (x : Jb) : (R.set i (x, r.2)).map (fun r => r.1) = putT (R.map fun r => r.1) r.1.id x := by
  unfold putT
  rw [List.map_map]
  apply List.ext_getElem?
  intro k
  rw [List.getElem?_map, List.getElem?_map, List.getElem?_set]
  by_cases hik : i = k
  · subst hik
    obtain ⟨h1, h2⟩ := List.getElem?_eq_some_iff.1 hr
    rw [if_pos rfl, if_pos h1, hr]
    simp
  · rw [if_neg hik]
    cases hrk : R[k]? with
    | none => rfl
    | some q =>
      have : q.1.id ≠ r.1.id := fun e => hik (nodup_idx hk (i := i) (j := k) (a := r.1.id) (by rw [List.getElem?_map, hr]; rfl) (by rw [List.getElem?_map, hrk, ← e]; rfl))
      simp [this]
theorem set_births {R : List (Jb × Nat)} {i : Nat} {r : Jb × Nat} (hr : R[i]? = some r) (x : Jb) : (R.set i (x, r.2)).map (fun r => r.2) = R.map fun r => r.2 := by
  rw [List.map_set]
  obtain ⟨h1, h2⟩ := List.getElem?_eq_some_iff.1 hr
  apply List.ext_getElem?
  intro k
  rw [List.getElem?_set]
  by_cases hik : i = k
  · subst hik; simp [h1, h2]
  · simp [hik]
end Go.Proofs.YtlhgpodfhdddkaaGreatDoor
namespace Go.Proofs.YtlhgpodfhdddkaaGreatDoor
open Rg Go Go.RowKit
variable {H : Heap}
theorem hc_map {H0 H : Heap} {g : Nat} {o : AObj} (hc : HC H0 H) (h : rd (H0 g) = none) : HC H0 (H.set g o) := fun b cs e => by
  have hb : b ≠ g := by rintro rfl; rw [h] at e; cases e
  simp [Heap.set, hb]; exact hc b cs e
theorem Glob.upd {b m ck last : Nat} {R : List (Jb × Nat)} {K : Heap} (hG : Glob H) (h : TabAt b m ck R last H) (hu : Upd b m H K) : Glob K :=
  hG.mono fun c us e => hu c _ e (by rintro rfl; rw [h.bl] at e; cases e) (by rintro rfl; rw [h.at_] at e; cases e)
theorem nams_of (R : List (Jb × Nat)) {last n : Nat} (hok : TbOk (tbOf R last) n) : (R.map fun r => r.1.name).Nodup := by
  have := hok.nam
  rwa [List.map_map] at this
theorem may_deps {j : Jb} (h : mayJ j = 0) : j.deps.length ≤ 8 := by
  unfold mayJ at h
  by_cases h8 : 8 < j.deps.length
  · rw [if_pos h8] at h
    repeat first | split at h | omega
  · omega
theorem deps_of {R : List (Jb × Nat)} {last n : Nat} (hok : TbOk (tbOf R last) n) : ∀ r ∈ R, r.1.deps.length ≤ 1000000 := fun r hr => by
  have := may_deps (hok.may r.1 (List.mem_map_of_mem hr))
  omega
theorem len_of {R : List (Jb × Nat)} {last n : Nat} (hok : TbOk (tbOf R last) n) : R.length ≤ 32 := by
  have := hok.len
  simpa using this
theorem ans_some (w : Jb) : ansJ (some w) = .tup [jbAV w .no, .sc (.bool true)] := rfl
theorem ans_none : ansJ none = .tup [jbAV jbZ .no, .sc (.bool false)] := rfl
def After (b m : Nat) (T : Tb) (H K : Heap) : Prop := ∃ R last ck, T = tbOf R last ∧ TabAt b m ck R last K ∧ Upd b m H K
set_option maxHeartbeats 4000000 in
theorem c_tAdd {b m ck last n : Nat} {R : List (Jb × Nat)} (hG : Glob H) (h : TabAt b m ck R last H) (hok : TbOk (tbOf R last) n) (hn : n ≤ 1000) (j : Jb) (hs : j.ex.length ≤ 9223372036854775807) :
    ACalls Tryz.prog 8 [ptr b, jbAV j .no] H (fun v K => v = .tup [.sc (.int .u64 ((addT (tbOf R last) j).1 : Int)), .sc (.int .i64 (addT (tbOf R last) j).2.1)] ∧ After b m (addT (tbOf R last) j).2.2 H K) := by
  obtain ⟨res, hres⟩ : ∃ r, addT (tbOf R last) j = r := ⟨_, rfl⟩
  rw [hres]
  generalize hR : (fun (v : AV) (K : Heap) => v = .tup [.sc (.int .u64 (res.1 : Int)), .sc (.int .i64 res.2.1)] ∧ After b m res.2.2 H K) = Q
  unfold addT at hres
  have hRl := len_of hok
  have hdl := deps_of hok
  have hll : last ≤ n := hok.lst
  obtain ⟨dk, hdk⟩ := ty_of (P := Tryz.prog) (T := 28) (by kernel_rfl)
  have same : ∀ {K}, HLe H K → After b m (tbOf R last) H K := fun hK => ⟨R, last, ck, rfl, h.up hK, Upd.le hK⟩
  refine ACalls.into Tryz.func8 rfl Tryz.ntmps8 Tryz.results8 (by simp) ?_
  simp -implicitDefEqProofs [AV.cells]
  refine AAlloc.intro fun b3 h3 => ?_
  have nb3 : b ≠ b3 := by rintro rfl; rw [h.bl] at h3; cases h3
  simp -implicitDefEqProofs
  generalize hK3 : Heap.set H b3 _ = K3
  have l3 : HLe H K3 := by rw [← hK3]; exact HLe.set_fresh h3
  have k3 : K3 b3 = some (.cells (jbC j .no) 33) := by rw [← hK3]; simp [Heap.set]
  clear hK3
  refine ACall.eq (c_there (h.up l3)) ?_
  simp -implicitDefEqProofs [k3]
  refine ACall.eq (c_jobMay (hG.le l3) j .no hs) ?_
  by_cases hm : mayJ j ≠ 0
  · rw [if_pos hm] at hres
    simp -implicitDefEqProofs [hm]
    subst hR
    subst hres
    exact AFin.intro _ _ (wk_refl _) (HWk.refl _) ⟨by simp, same l3⟩
  rw [if_neg hm] at hres
  have hm0 : mayJ j = 0 := by simpa using hm
  have hj8 := may_deps hm0
  simp -implicitDefEqProofs [hm0, k3]
  refine ACall.intro (c_tNamed (h.up l3) hdl (nams_of R hok) j.name) fun v K4 hv => ?_
  obtain ⟨rfl, hK4⟩ := hv
  have l4 := l3.trans hK4
  have k34 := hK4 _ _ k3
  cases hnm : namedT (tbOf R last) j.name with
  | some w =>
    rw [hnm, if_pos (show (some w).isSome = true from rfl)] at hres
    simp -implicitDefEqProofs [ans_some, AV.cells]
    refine AAlloc.intro fun b7 h7 => ?_
    simp -implicitDefEqProofs
    subst hR
    subst hres
    exact AFin.intro _ _ (wk_refl _) (HWk.refl _) ⟨by simp, same (l4.trans (HLe.set_fresh h7))⟩
  | none =>
    rw [hnm, if_neg (show ¬ (none : Option Jb).isSome = true by simp)] at hres
    simp -implicitDefEqProofs [ans_none, AV.cells]
    refine AAlloc.intro fun b7 h7 => ?_
    have n37 : b3 ≠ b7 := by rintro rfl; rw [k34] at h7; cases h7
    have nb7 : b ≠ b7 := by rintro rfl; rw [(h.up l4).bl] at h7; cases h7
    have kb := (h.up l4).bl
    simp -implicitDefEqProofs [nb7, kb]
    generalize hK5 : Heap.set K4 b7 _ = K5
    have l45 : HLe K4 K5 := by rw [← hK5]; exact HLe.set_fresh h7
    clear hK5
    have l5 := l4.trans l45
    have k35 := l45 _ _ k34
    have kb := (h.up l5).bl
    refine ACall.eq (c_lenMap m_jobs (h.up l5).at_) ?_
    simp only [List.length_map] at hres ⊢
    by_cases h32 : 32 ≤ R.length
    · have h32' : 32 ≤ (R.length : Int) := by omega
      rw [if_pos h32] at hres
      simp -implicitDefEqProofs [h32, h32']
      subst hR
      subst hres
      exact AFin.intro _ _ (wk_refl _) (HWk.refl _) ⟨by simp, same l5⟩
    have h32' : ¬ 32 ≤ (R.length : Int) := by omega
    rw [if_neg h32] at hres
    simp -implicitDefEqProofs [h32, h32', k35]
    refine ACall.intro (c_tclone j (by omega)) fun v K6 hv => ?_
    obtain ⟨rfl, hK6⟩ := hv
    have l6 := l5.trans hK6
    have k36 := hK6 _ _ k35
    have kb := (h.up l6).bl
    have hposR : ∀ r ∈ R, r.1.id ≤ last := fun r hr => (hok.pos r.1 (List.mem_map_of_mem hr)).2
    unfold newJ at hres
    simp only at hres
    obtain ⟨L1, hL1⟩ : ∃ L1, last + 1 = L1 := ⟨_, rfl⟩
    rw [hL1] at hres
    have w1 : IntKind.u64.wrap ((last : Int) + 1) = (L1 : Int) := by rw [wrap_u64 (by omega) (by omega)]; omega
    obtain ⟨J, hJ⟩ : ∃ J : Jb, { j with id := L1, ver := 1 } = J := ⟨_, rfl⟩
    rw [hJ] at hres
    have hJid : J.id = L1 := by rw [← hJ]
    have hJd : J.deps.length ≤ 8 := by rw [← hJ]; exact hj8
    have hJC : jbC J .no = [.sc (.int .u64 (L1 : Int)), str j.name, str j.ex, .sc (.int .i64 j.pol), .sc (.int .i64 j.gr), .sc (.int .i64 j.lim), .sc (.int .i64 j.ret), .sc (.int .i64 j.tim), .sl (nuAV j.deps) .no, .sc (.bool j.pau), .sc (.int .u64 1), .sc (.int .i64 j.seen)] := by rw [← hJ]; rfl
    simp -implicitDefEqProofs [k36, nb3, nb3.symm, kb, w1]
    generalize hK7 : Heap.set K6 b3 _ = K7
    have k37 : K7 b3 = some (.cells (jbC J .no) 33) := by rw [← hK7, hJC]; simp [Heap.set]
    have e3 : H b3 = none := h3
    have l7 : HLe H K7 := by rw [← hK7]; exact HLe.set_new l6 e3
    clear hK7
    have hJA : AV.agg [.sc (.int .u64 (L1 : Int)), str j.name, str j.ex, .sc (.int .i64 j.pol), .sc (.int .i64 j.gr), .sc (.int .i64 j.lim), .sc (.int .i64 j.ret), .sc (.int .i64 j.tim), .sl (nuAV j.deps) .no, .sc (.bool j.pau), .sc (.int .u64 1), .sc (.int .i64 j.seen)] = jbAV J .no := by rw [← hJC]
    rw [hJA]
    have hmiss : ∀ e ∈ R.map jME, e.1 ≠ J.id := fun e he => by
      obtain ⟨r, hr, rfl⟩ := List.mem_map.1 he
      have := hposR r hr
      simp only
      omega
    have hent : (R.map jME).map meAV ++ [(uAV J.id, jbAV J .no, ck)] = ((R ++ [(J, ck)]).map jME).map meAV := by simp
    have hlt' : ∀ r ∈ R ++ [(J, ck)], r.2 < ck + 1 := fun r hr => by
      rcases List.mem_append.1 hr with hr | hr
      · have := h.lt r hr; omega
      · rw [List.mem_singleton.1 hr]; simp
    have hnb' : ((R ++ [(J, ck)]).map fun r => r.2).Nodup := by
      rw [List.map_append, List.nodup_append]
      refine ⟨h.nb, by simp, fun a ha b hb => ?_⟩
      simp at hb
      subst hb
      obtain ⟨r, hr, rfl⟩ := List.mem_map.1 ha
      have := h.lt r hr
      omega
    have hasc' : ((R ++ [(J, ck)]).map fun r => r.1).Pairwise fun a b => a.id < b.id := by
      rw [List.map_append, List.pairwise_append]
      refine ⟨hok.asc, by simp, fun a ha b hb => ?_⟩
      simp at hb
      subst hb
      obtain ⟨r, hr, rfl⟩ := List.mem_map.1 ha
      have := hposR r hr
      omega
    have hdl' : ∀ r ∈ R ++ [(J, ck)], r.1.deps.length ≤ 1000000 := fun r hr => by
      rcases List.mem_append.1 hr with hr | hr
      · exact hdl r hr
      · rw [List.mem_singleton.1 hr]; simp only; omega
    have hR' : (R ++ [(J, ck)]).map (fun r => r.1) = R.map (fun r => r.1) ++ [J] := by simp
    refine ACall.intro (c_tRowG (h.up l7) (R' := R ++ [(J, ck)]) (ck' := ck + 1) (fun K m' hm' => by rw [← hent]; exact c_insert m_jobs hdk hm' (acheck_n J.id) (miss_me hmiss) (jbAV J .no)) hlt' hnb' hdl' hasc' (by simp; omega)) fun v K8 hv => ?_
    obtain ⟨rfl, hK8⟩ := hv
    have l8 := l7.trans hK8
    have k38 := hK8 _ _ k37
    rw [hR'] at hasc' ⊢
    obtain ⟨e, he⟩ : ∃ e, mayN (ndsOf (R.map (fun r => r.1) ++ [J])) = e := ⟨_, rfl⟩
    rw [he] at hres ⊢
    by_cases h0 : e ≠ 0
    · rw [if_pos h0] at hres
      simp -implicitDefEqProofs [h0]
      subst hR
      subst hres
      exact AFin.intro _ _ (wk_refl _) (HWk.refl _) ⟨by simp, same l8⟩
    rw [if_neg h0] at hres
    have h00 : e = 0 := by simpa using h0
    have kb := (h.up l8).bl
    simp -implicitDefEqProofs [h00, kb, w1]
    have nbm := h.ne
    have nm3 : m ≠ b3 := by rintro rfl; rw [h.at_] at e3; cases e3
    generalize hK9 : Heap.set K8 b _ = K9
    have kb9 : K9 b = some (.cells [.sc (.map (some m)), .sc (.int .u64 (L1 : Int))] 60) := by rw [← hK9]; simp [Heap.set]
    have km9 : K9 m = some (.map ((R.map jME).map meAV) ck) := by rw [← hK9]; simp [Heap.set, nbm.symm, l8 _ _ h.at_]
    have k39 : K9 b3 = some (.cells (jbC J .no) 33) := by rw [← hK9]; simp [Heap.set, nb3.symm, k38]
    have u9 : Upd b m H K9 := by rw [← hK9]; exact (Upd.le l8).set (.inl rfl)
    clear hK9
    refine go_draw2 8 [0, 1, 2, 3, 4, 5, 6] [7] K9 f_mixed (by decide +kernel) (HC.refl _) ?_
    simp -implicitDefEqProofs [kb9, k39, st_update]
    refine AES.call (c_insert m_jobs hdk km9 (acheck_n J.id) (miss_me hmiss) (jbAV J .no)) fun v K hv => ?_
    obtain ⟨rfl, rfl⟩ := hv
    refine ⟨hc_map (HC.refl _) (by rw [km9]; rfl), ?_⟩
    rw [hent]
    simp -implicitDefEqProofs [k39, nm3.symm, hJid]
    subst hR
    subst hres
    refine AFin.intro _ _ (wk_refl _) (HWk.refl _) ⟨rfl, R ++ [(J, ck)], L1, ck + 1, by rw [tbOf, hR'], ⟨by simp [Heap.set, nbm, kb9], by simp [Heap.set], hlt', hnb', ?_⟩, u9.set (.inr rfl)⟩
    rw [List.map_append, List.nodup_append]
    refine ⟨h.nk, by simp, fun a ha b hb => ?_⟩
    simp at hb
    subst hb
    obtain ⟨r, hr, rfl⟩ := List.mem_map.1 ha
    exact hmiss (jME r) (List.mem_map_of_mem hr)
end Go.Proofs.YtlhgpodfhdddkaaGreatDoor
namespace Go.Proofs.YtlhgpodfhdddkaaGreatDoor
open Rg Go Go.RowKit
variable {H : Heap}
theorem found_ix {R : List (Jb × Nat)} {last id : Nat} {w : Jb} (h : foundT (tbOf R last) id = some w) : ∃ (i : Nat) (r : Jb × Nat), R[i]? = some r ∧ r.1 = w ∧ w.id = id := by
  obtain ⟨h1, h2⟩ := found_some h
  obtain ⟨r, hr, rfl⟩ := List.mem_map.1 h1
  obtain ⟨i, hi, e⟩ := List.getElem_of_mem hr
  exact ⟨i, r, by rw [List.getElem?_eq_getElem hi, e], rfl, h2⟩
theorem found_miss {R : List (Jb × Nat)} {last id : Nat} (h : foundT (tbOf R last) id = none) : ∀ e ∈ R.map jME, e.1 ≠ id := fun e he => by
  obtain ⟨r, hr, rfl⟩ := List.mem_map.1 he
  exact found_none h r.1 (List.mem_map_of_mem hr)
theorem TabAt.hit {b m ck last : Nat} {R : List (Jb × Nat)} {K : Heap} (h : TabAt b m ck R last K) {i : Nat} {r : Jb × Nat} (hr : R[i]? = some r) : afind Tryz.prog 28 (uAV r.1.id) ((R.map jME).map meAV) 0 = some (some (i, jbAV r.1 .no)) := by
  have hj2 : (R.map jME)[i]? = some (jME r) := by rw [List.getElem?_map, hr]; rfl
  exact hit_me h.born.2.2 hj2
theorem set_ent {R : List (Jb × Nat)} {i : Nat} {r : Jb × Nat} {J : Jb} (hJ : J.id = r.1.id) : ((R.map jME).map meAV).set i (uAV r.1.id, jbAV J .no, r.2) = ((R.set i (J, r.2)).map jME).map meAV := by
  rw [List.map_set, List.map_set, ← hJ]
theorem TabAt.put {b m ck last : Nat} {R : List (Jb × Nat)} {H K : Heap} (h : TabAt b m ck R last H) {i : Nat} {r : Jb × Nat} (hr : R[i]? = some r) {J : Jb} (hJ : J.id = r.1.id) (hK : HLe H K) :
    TabAt b m ck (R.set i (J, r.2)) last (K.set m (.map (((R.set i (J, r.2)).map jME).map meAV) ck)) := by
  refine ⟨by simp [Heap.set, h.ne, hK _ _ h.bl], by simp [Heap.set], fun q hq => ?_, ?_, ?_⟩
  · rcases List.mem_or_eq_of_mem_set hq with hq | hq
    · exact h.lt q hq
    · rw [hq]; exact h.lt r (List.mem_of_getElem? hr)
  · rw [set_births hr]; exact h.nb
  · have h1 := put_ent h.nk hr J
    have h2 : (R.set i (J, r.2)).map (fun r => r.1.id) = R.map fun r => r.1.id := by
      have e1 : (R.set i (J, r.2)).map (fun r => r.1.id) = ((R.set i (J, r.2)).map fun r => r.1).map fun j => j.id := by rw [List.map_map]; rfl
      rw [e1, h1, put_ids hJ, List.map_map]; rfl
    rw [h2]; exact h.nk
theorem TabAt.putAfter {b m ck last : Nat} {R : List (Jb × Nat)} {H K : Heap} (h : TabAt b m ck R last H) {i : Nat} {r : Jb × Nat} (hr : R[i]? = some r) {J : Jb} (hJ : J.id = r.1.id) (hK : HLe H K) :
    After b m ⟨putT (R.map fun r => r.1) r.1.id J, last⟩ H (K.set m (.map (((R.set i (J, r.2)).map jME).map meAV) ck)) :=
  ⟨R.set i (J, r.2), last, ck, by rw [tbOf, put_ent h.nk hr], h.put hr hJ hK, (Upd.le hK).set (.inr rfl)⟩
theorem c_tHas {b m ck last : Nat} {R : List (Jb × Nat)} (h : TabAt b m ck R last H) (id : Nat) :
    ACalls Tryz.prog 37 [ptr b, .sc (.int .u64 (id : Int))] H (fun v K => v = .sc (.int .i64 (if (foundT (tbOf R last) id).isSome = true then 0 else 5)) ∧ HLe H K) := by
  generalize hR : (fun (v : AV) (K : Heap) => v = .sc (.int .i64 (if (foundT (tbOf R last) id).isSome = true then 0 else 5)) ∧ HLe H K) = Q
  obtain ⟨dk, hdk⟩ := ty_of (P := Tryz.prog) (T := 28) (by kernel_rfl)
  have kb := h.bl
  refine ACalls.into Tryz.func37 rfl Tryz.ntmps37 Tryz.results37 (by simp) ?_
  simp -implicitDefEqProofs
  refine ACall.eq (c_there h) ?_
  simp -implicitDefEqProofs [kb, st_lookup]
  cases hf : foundT (tbOf R last) id with
  | some w =>
    obtain ⟨i, r, hr, hrw, hwi⟩ := found_ix hf
    have hhit := h.hit hr
    rw [hrw, hwi] at hhit
    rw [hf] at hR
    refine ACall.eq (c_lookup2 m_jobs hdk h.at_ (acheck_n id) hhit) ?_
    simp -implicitDefEqProofs [AV.cells]
    refine AAlloc.intro fun b5 h5 => ?_
    simp -implicitDefEqProofs
    subst hR
    exact AFin.intro _ _ (wk_refl _) (HWk.refl _) ⟨by simp, HLe.set_fresh h5⟩
  | none =>
    have hmiss := miss_me (found_miss hf)
    rw [hf] at hR
    have htz : tzero Tryz.prog 33 = some (.agg #[.int .u64 0, .string ByteArray.empty, .string ByteArray.empty, .int .i64 0, .int .i64 0, .int .i64 0, .int .i64 0, .int .i64 0, .slice none 0 0, .bool false, .int .u64 0, .int .i64 0]) := by kernel_rfl
    refine ACall.eq (c_lookup2_no m_jobs hdk h.at_ (acheck_n id) htz hmiss) ?_
    simp -implicitDefEqProofs [AV.cells]
    refine AAlloc.intro fun b5 h5 => ?_
    simp -implicitDefEqProofs
    subst hR
    exact AFin.intro _ _ (wk_refl _) (HWk.refl _) ⟨by simp, HLe.set_fresh h5⟩
set_option maxHeartbeats 2000000 in
theorem c_tSee {b m ck last n : Nat} {R : List (Jb × Nat)} (h : TabAt b m ck R last H) (hok : TbOk (tbOf R last) n) (id : Nat) (s : Int) :
    ACalls Tryz.prog 16 [ptr b, .sc (.int .u64 (id : Int)), .sc (.int .i64 s)] H (fun v K => v = .sc (.int .i64 (seeT (tbOf R last) id s).1) ∧ After b m (seeT (tbOf R last) id s).2 H K) := by
  obtain ⟨res, hres⟩ : ∃ r, seeT (tbOf R last) id s = r := ⟨_, rfl⟩
  rw [hres]
  generalize hR : (fun (v : AV) (K : Heap) => v = .sc (.int .i64 res.1) ∧ After b m res.2 H K) = Q
  unfold seeT at hres
  obtain ⟨dk, hdk⟩ := ty_of (P := Tryz.prog) (T := 28) (by kernel_rfl)
  have same : ∀ {K}, HLe H K → After b m (tbOf R last) H K := fun hK => ⟨R, last, ck, rfl, h.up hK, Upd.le hK⟩
  refine ACalls.into Tryz.func16 rfl Tryz.ntmps16 Tryz.results16 (by simp) ?_
  simp -implicitDefEqProofs
  refine ACall.intro (c_tHas h id) fun v K1 hv => ?_
  obtain ⟨rfl, l1⟩ := hv
  cases hf : foundT (tbOf R last) id with
  | none =>
    rw [hf] at hres
    simp -implicitDefEqProofs
    subst hR
    subst hres
    exact AFin.intro _ _ (wk_refl _) (HWk.refl _) ⟨rfl, same l1⟩
  | some w =>
    obtain ⟨i, r, hr, rfl, hwi⟩ := found_ix hf
    rw [hf] at hres
    simp only at hres
    have hhit := h.hit hr
    rw [hwi] at hhit
    have hws := may_seenB (hok.may r.1 (List.mem_map_of_mem (List.mem_of_getElem? hr)))
    by_cases hb : badT s
    · rw [if_pos hb] at hres
      unfold badT at hb
      by_cases h1 : s < -1
      · simp -implicitDefEqProofs [h1]
        subst hR
        subst hres
        exact AFin.intro _ _ (wk_refl _) (HWk.refl _) ⟨rfl, same l1⟩
      · have h2 : 13569465600 ≤ s := by omega
        simp -implicitDefEqProofs [h1, h2]
        subst hR
        subst hres
        exact AFin.intro _ _ (wk_refl _) (HWk.refl _) ⟨rfl, same l1⟩
    rw [if_neg hb] at hres
    unfold badT at hb
    have h1 : ¬ s < -1 := by omega
    have h2 : ¬ 13569465600 ≤ s := by omega
    have kb := (h.up l1).bl
    simp -implicitDefEqProofs [h1, h2, kb, st_lookup]
    refine ACall.eq (c_lookup1 m_jobs hdk (h.up l1).at_ (acheck_n id) hhit) ?_
    simp -implicitDefEqProofs [AV.cells]
    refine AAlloc.intro fun b8 h8 => ?_
    have nb8 : b ≠ b8 := by rintro rfl; rw [kb] at h8; cases h8
    have nm8 : m ≠ b8 := by rintro rfl; rw [(h.up l1).at_] at h8; cases h8
    have e8 : H b8 = none := l1.none h8
    have hJC : jbC (seeJ r.1 s) .no = [.sc (.int .u64 (r.1.id : Int)), str r.1.name, str r.1.ex, .sc (.int .i64 r.1.pol), .sc (.int .i64 r.1.gr), .sc (.int .i64 r.1.lim), .sc (.int .i64 r.1.ret), .sc (.int .i64 r.1.tim), .sl (nuAV r.1.deps) .no, .sc (.bool r.1.pau), .sc (.int .u64 (r.1.ver : Int)), .sc (.int .i64 (max r.1.seen s))] := rfl
    obtain ⟨J, hJ⟩ : ∃ J, seeJ r.1 s = J := ⟨_, rfl⟩
    have hJi : J.id = r.1.id := by rw [← hJ]
    rw [hJ] at hJC hres
    have hmx : (if r.1.seen < s then s else r.1.seen) = max r.1.seen s := by split <;> omega
    simp -implicitDefEqProofs [nb8, kb, hmx]
    generalize hK2 : Heap.set K1 b8 _ = K2
    have k8 : K2 b8 = some (.cells (jbC J .no) 33) := by rw [← hK2, hJC]; simp [Heap.set]
    have l2 : HLe H K2 := by rw [← hK2]; exact HLe.set_new l1 e8
    clear hK2
    have kb := (h.up l2).bl
    have km := (h.up l2).at_
    have he : ((R.map jME).map meAV)[i]? = some (uAV id, jbAV r.1 .no, r.2) := by rw [List.getElem?_map, List.getElem?_map, hr, ← hwi]; rfl
    have hse := set_ent (R := R) (i := i) hJi
    have hA := h.putAfter hr hJi l2
    rw [← hse, hwi] at hA
    obtain ⟨es, hes⟩ : ∃ es, ((R.map jME).map meAV).set i (uAV id, jbAV J .no, r.2) = es := ⟨_, rfl⟩
    rw [hes] at hA
    refine go_draw2 7 [0, 1, 2, 3, 4, 5] [6] K2 f_mixed (by decide +kernel) (HC.refl _) ?_
    simp -implicitDefEqProofs [kb, k8, st_update]
    refine AES.call (c_update m_jobs hdk km (acheck_n id) hhit he (jbAV J .no)) fun v K hv => ?_
    obtain ⟨rfl, rfl⟩ := hv
    refine ⟨hc_map (HC.refl _) (by rw [km]; rfl), ?_⟩
    rw [hes]
    simp -implicitDefEqProofs
    subst hR
    subst hres
    exact AFin.intro _ _ (wk_refl _) (HWk.refl _) ⟨rfl, hA⟩
set_option maxHeartbeats 2000000 in
theorem c_tPause {b m ck last n : Nat} {R : List (Jb × Nat)} (h : TabAt b m ck R last H) (hok : TbOk (tbOf R last) n) (id : Nat) (p : Bool) (s : Int) :
    ACalls Tryz.prog 14 [ptr b, .sc (.int .u64 (id : Int)), .sc (.bool p), .sc (.int .i64 s)] H (fun v K => v = .sc (.int .i64 (pauseT (tbOf R last) id p s).1) ∧ After b m (pauseT (tbOf R last) id p s).2 H K) := by
  obtain ⟨res, hres⟩ : ∃ r, pauseT (tbOf R last) id p s = r := ⟨_, rfl⟩
  rw [hres]
  generalize hR : (fun (v : AV) (K : Heap) => v = .sc (.int .i64 res.1) ∧ After b m res.2 H K) = Q
  unfold pauseT at hres
  obtain ⟨dk, hdk⟩ := ty_of (P := Tryz.prog) (T := 28) (by kernel_rfl)
  have same : ∀ {K}, HLe H K → After b m (tbOf R last) H K := fun hK => ⟨R, last, ck, rfl, h.up hK, Upd.le hK⟩
  refine ACalls.into Tryz.func14 rfl Tryz.ntmps14 Tryz.results14 (by simp) ?_
  simp -implicitDefEqProofs
  refine ACall.intro (c_tHas h id) fun v K1 hv => ?_
  obtain ⟨rfl, l1⟩ := hv
  cases hf : foundT (tbOf R last) id with
  | none =>
    rw [hf] at hres
    simp -implicitDefEqProofs
    subst hR
    subst hres
    exact AFin.intro _ _ (wk_refl _) (HWk.refl _) ⟨rfl, same l1⟩
  | some w =>
    obtain ⟨i, r, hr, rfl, hwi⟩ := found_ix hf
    rw [hf] at hres
    simp only at hres
    have hhit := h.hit hr
    rw [hwi] at hhit
    have hws := may_seenB (hok.may r.1 (List.mem_map_of_mem (List.mem_of_getElem? hr)))
    by_cases hb : badT s
    · rw [if_pos hb] at hres
      unfold badT at hb
      by_cases h1 : s < -1
      · simp -implicitDefEqProofs [h1]
        subst hR
        subst hres
        exact AFin.intro _ _ (wk_refl _) (HWk.refl _) ⟨rfl, same l1⟩
      · have h2 : 13569465600 ≤ s := by omega
        simp -implicitDefEqProofs [h1, h2]
        subst hR
        subst hres
        exact AFin.intro _ _ (wk_refl _) (HWk.refl _) ⟨rfl, same l1⟩
    rw [if_neg hb] at hres
    unfold badT at hb
    have h1 : ¬ s < -1 := by omega
    have h2 : ¬ 13569465600 ≤ s := by omega
    have kb := (h.up l1).bl
    simp -implicitDefEqProofs [h1, h2, kb, st_lookup]
    refine ACall.eq (c_lookup1 m_jobs hdk (h.up l1).at_ (acheck_n id) hhit) ?_
    simp -implicitDefEqProofs [AV.cells]
    refine AAlloc.intro fun b8 h8 => ?_
    have nb8 : b ≠ b8 := by rintro rfl; rw [kb] at h8; cases h8
    have nm8 : m ≠ b8 := by rintro rfl; rw [(h.up l1).at_] at h8; cases h8
    have e8 : H b8 = none := l1.none h8
    have hJC : jbC (pauJ r.1 p s) .no = [.sc (.int .u64 (r.1.id : Int)), str r.1.name, str r.1.ex, .sc (.int .i64 r.1.pol), .sc (.int .i64 r.1.gr), .sc (.int .i64 r.1.lim), .sc (.int .i64 r.1.ret), .sc (.int .i64 r.1.tim), .sl (nuAV r.1.deps) .no, .sc (.bool p), .sc (.int .u64 (r.1.ver : Int)), .sc (.int .i64 (if r.1.pau = true ∧ p = false then max r.1.seen s else r.1.seen))] := rfl
    obtain ⟨J, hJ⟩ : ∃ J, pauJ r.1 p s = J := ⟨_, rfl⟩
    have hJi : J.id = r.1.id := by rw [← hJ]
    rw [hJ] at hJC hres
    have hmx : (if r.1.seen < s then s else r.1.seen) = max r.1.seen s := by split <;> omega
    cases hp : r.1.pau with
    | true =>
      cases p with
      | true =>
        simp -implicitDefEqProofs [nb8, kb, hmx, hp]
        generalize hK2 : Heap.set K1 b8 _ = K2
        have k8 : K2 b8 = some (.cells (jbC J .no) 33) := by rw [← hK2, hJC]; simp [Heap.set, hp]
        have l2 : HLe H K2 := by rw [← hK2]; exact HLe.set_new l1 e8
        clear hK2
        have kb := (h.up l2).bl
        have km := (h.up l2).at_
        have he : ((R.map jME).map meAV)[i]? = some (uAV id, jbAV r.1 .no, r.2) := by rw [List.getElem?_map, List.getElem?_map, hr, ← hwi]; rfl
        have hse := set_ent (R := R) (i := i) hJi
        have hA := h.putAfter hr hJi l2
        rw [← hse, hwi] at hA
        obtain ⟨es, hes⟩ : ∃ es, ((R.map jME).map meAV).set i (uAV id, jbAV J .no, r.2) = es := ⟨_, rfl⟩
        rw [hes] at hA
        refine go_draw2 7 [0, 1, 2, 3, 4, 5] [6] K2 f_mixed (by decide +kernel) (HC.refl _) ?_
        simp -implicitDefEqProofs [kb, k8, st_update]
        refine AES.call (c_update m_jobs hdk km (acheck_n id) hhit he (jbAV J .no)) fun v K hv => ?_
        obtain ⟨rfl, rfl⟩ := hv
        refine ⟨hc_map (HC.refl _) (by rw [km]; rfl), ?_⟩
        rw [hes]
        simp -implicitDefEqProofs
        subst hR
        subst hres
        exact AFin.intro _ _ (wk_refl _) (HWk.refl _) ⟨rfl, hA⟩
      | false =>
        simp -implicitDefEqProofs [nb8, kb, hmx, hp]
        generalize hK2 : Heap.set K1 b8 _ = K2
        have k8 : K2 b8 = some (.cells (jbC J .no) 33) := by rw [← hK2, hJC]; simp [Heap.set, hp]
        have l2 : HLe H K2 := by rw [← hK2]; exact HLe.set_new l1 e8
        clear hK2
        have kb := (h.up l2).bl
        have km := (h.up l2).at_
        have he : ((R.map jME).map meAV)[i]? = some (uAV id, jbAV r.1 .no, r.2) := by rw [List.getElem?_map, List.getElem?_map, hr, ← hwi]; rfl
        have hse := set_ent (R := R) (i := i) hJi
        have hA := h.putAfter hr hJi l2
        rw [← hse, hwi] at hA
        obtain ⟨es, hes⟩ : ∃ es, ((R.map jME).map meAV).set i (uAV id, jbAV J .no, r.2) = es := ⟨_, rfl⟩
        rw [hes] at hA
        refine go_draw2 7 [0, 1, 2, 3, 4, 5] [6] K2 f_mixed (by decide +kernel) (HC.refl _) ?_
        simp -implicitDefEqProofs [kb, k8, st_update]
        refine AES.call (c_update m_jobs hdk km (acheck_n id) hhit he (jbAV J .no)) fun v K hv => ?_
        obtain ⟨rfl, rfl⟩ := hv
        refine ⟨hc_map (HC.refl _) (by rw [km]; rfl), ?_⟩
        rw [hes]
        simp -implicitDefEqProofs
        subst hR
        subst hres
        exact AFin.intro _ _ (wk_refl _) (HWk.refl _) ⟨rfl, hA⟩
    | false =>
      simp -implicitDefEqProofs [nb8, kb, hmx, hp]
      generalize hK2 : Heap.set K1 b8 _ = K2
      have k8 : K2 b8 = some (.cells (jbC J .no) 33) := by rw [← hK2, hJC]; simp [Heap.set, hp]
      have l2 : HLe H K2 := by rw [← hK2]; exact HLe.set_new l1 e8
      clear hK2
      have kb := (h.up l2).bl
      have km := (h.up l2).at_
      have he : ((R.map jME).map meAV)[i]? = some (uAV id, jbAV r.1 .no, r.2) := by rw [List.getElem?_map, List.getElem?_map, hr, ← hwi]; rfl
      have hse := set_ent (R := R) (i := i) hJi
      have hA := h.putAfter hr hJi l2
      rw [← hse, hwi] at hA
      obtain ⟨es, hes⟩ : ∃ es, ((R.map jME).map meAV).set i (uAV id, jbAV J .no, r.2) = es := ⟨_, rfl⟩
      rw [hes] at hA
      refine go_draw2 7 [0, 1, 2, 3, 4, 5] [6] K2 f_mixed (by decide +kernel) (HC.refl _) ?_
      simp -implicitDefEqProofs [kb, k8, st_update]
      refine AES.call (c_update m_jobs hdk km (acheck_n id) hhit he (jbAV J .no)) fun v K hv => ?_
      obtain ⟨rfl, rfl⟩ := hv
      refine ⟨hc_map (HC.refl _) (by rw [km]; rfl), ?_⟩
      rw [hes]
      simp -implicitDefEqProofs
      subst hR
      subst hres
      exact AFin.intro _ _ (wk_refl _) (HWk.refl _) ⟨rfl, hA⟩
end Go.Proofs.YtlhgpodfhdddkaaGreatDoor
