/- Plans' answers: items, peaks, gaps. make of a row of elements of one cell. What clashes: the program's, and the document's. What clashes, as the document has it. A plan, as the document has it: put in one by one. The chapter's rows on firings. -/
import Derived.Test.YtmoncokklkiikaaGreatDoorP21
import Derived.Test.YtmoncokklkiikaaGreatDoorP09
import Derived.Laws.MakeOwn
import Derived.Test.YtmoncokklkiikaaGreatDoorP20
import Derived.Test.YtmoncokklkiikaaGreatDoorP19
set_option linter.unusedSimpArgs false
set_option linter.unusedVariables false
set_option linter.unnecessarySimpa false
namespace Go.Proofs.YtmoncokklkiikaaGreatDoor
open Rg Go
variable {H : Heap}
def planI (js : List Jb) (fr tt most : Int) : List PI := ((planZ js fr tt).take most.toNat).map (itemOf js)
theorem planZ_mem {js : List Jb} {fr tt : Int} {z : PIt} (h : z ∈ planZ js fr tt) : momP fr = true ∧ momP tt = true ∧ z ∈ planL js fr.toNat tt.toNat := by
  unfold planZ at h
  split at h
  · rename_i hc; exact ⟨hc.1, hc.2.1, h⟩
  · cases h
theorem planI_ok {js : List Jb} {fr tt most : Int} : ∀ y ∈ planI js fr tt most, y.ok := fun y hy => by
  obtain ⟨z, hz, rfl⟩ := List.mem_map.1 hy
  obtain ⟨_, h2, h3⟩ := planZ_mem (List.mem_of_mem_take hz)
  have := momP_iff.1 h2
  exact planItem_ok (by omega) h3
theorem planI_len (js : List Jb) (fr tt most : Int) : (planI js fr tt most).length ≤ most.toNat := by
  unfold planI
  rw [List.length_map, List.length_take]
  omega
structure JobsOk (js : List Jb) : Prop where
  len : js.length ≤ 1000000
  ex : ∀ j ∈ js, j.ex.length ≤ 9223372036854775807
  dep : ∀ j ∈ js, j.deps.length ≤ 1000000
  id : (js.map Jb.id).Nodup
theorem c_runsI (hG : Glob H) (hT : GlobT H) {js : List Jb} (hj : JobsOk js) (fr tt most : Int) (hmost : most ≤ 1000000) :
    AOk Tryz.prog 127 [.sl (jobsAV js) .no, .sc (.int .i64 fr), .sc (.int .i64 tt), .sc (.int .i64 most)] H (.sl ((planI js fr tt most).map runAV) .no) H := by
  have := c_runs hG hT fr tt most hj.len hj.ex hj.dep hj.id hmost
  unfold planI
  rw [List.map_map]
  exact this
abbrev pitAV (y : PI) : AV := .agg [.sc (.int .i64 (y.at_ : Int)), .sc (.int .u64 (y.job : Int))]
set_option maxHeartbeats 4000000 in
theorem c_pFirst (hG : Glob H) (hT : GlobT H) {js : List Jb} (hj : JobsOk js) (fr tt most : Int) (hmost : most ≤ 1000000) :
    AOk Tryz.prog 61 [.sl (jobsAV js) .no, .sc (.int .i64 fr), .sc (.int .i64 tt), .sc (.int .i64 most)] H (.sl ((planI js fr tt most).map pitAV) .no) H := by
  have hr := c_runsI hG hT hj fr tt most hmost
  have hLm := planI_len js fr tt most
  generalize planI js fr tt most = L at *
  refine ACalls.into Tryz.func61 rfl Tryz.ntmps61 Tryz.results61 (by simp) ?_
  simp -implicitDefEqProofs
  refine ACall.eq hr ?_
  simp -implicitDefEqProofs
  refine AGo.rounds (fun μ ρ K => ∃ (i : Nat) (tk : Rg.Tok) (K3 : Heap), μ = L.length - i ∧ i ≤ L.length ∧ ρ 9 = .sl ((L.take i).map pitAV) tk ∧ ρ 16 = .sl (L.map runAV) .no ∧ ρ 17 = .sc (.int .i64 (L.length : Int)) ∧ ρ 18 = .sc (.int .i64 (i : Int)) ∧ Grows H ((L.take i).map pitAV) 2 111 tk K3 ∧ HLe K3 K) ?_ (m := L.length) (HLe.refl _)
    ⟨0, .nil, H, by omega, by omega, by simp, by simp, by simp, by simp, .zero, HLe.refl _⟩
  rintro μ ρ K ih ⟨i, tk, K3, rfl, hi, r9, r16, r17, r18, hg, hle⟩
  rcases Nat.lt_or_ge i L.length with hlt | hge
  · obtain ⟨x, hx, _⟩ := getAt hlt
    have hwi : IntKind.i64.wrap ((i : Int) + 1) = ((i + 1 : Nat) : Int) := wadd (b := 1) rfl (by omega)
    have hd : (L.take (i + 1)).map pitAV = (L.take i).map pitAV ++ [pitAV x] := by
      rw [List.take_succ_eq_append_getElem hlt, List.map_append, hx]; rfl
    have hxl : ((L.take i).map pitAV).length = i := by rw [List.length_map, List.length_take]; omega
    have hsz : szs 2 ((L.take i).map pitAV) = true := szs_map (f := pitAV) (fun _ => rfl) _
    generalize (L.take i).map pitAV = xs at *
    simp -implicitDefEqProofs [r16, r17, r18, hlt, hx]
    refine AAlloc.intro fun b5 h5 => ?_
    simp -implicitDefEqProofs [r9]
    refine AApp.grows el_105 hg (hle.trans (HLe.set_fresh h5)) (by simp) hsz (by simp [szs]) (by simp; omega) (by simp [maxLen]; omega) fun t' K4 Hn hg' hl' => ?_
    simp -implicitDefEqProofs [r18, hwi]
    refine AGo.again ih (m' := L.length - (i + 1)) (by omega) (HLe.refl _) ⟨i + 1, t', K4, rfl, by omega, by simp [hd], by simp [r16], by simp [r17], by simp, ?_, hl'⟩
    rw [hd]
    exact hg'
  · have hn : ¬ i < L.length := by omega
    rw [List.take_of_length_le hge] at r9 hg
    simp -implicitDefEqProofs [r9, r17, r18, hn]
    exact (hg.le.trans hle).wk
set_option maxHeartbeats 8000000 in
theorem c_pPeak (hG : Glob H) (hT : GlobT H) {js : List Jb} (hj : JobsOk js) (fr tt most : Int) (hmost : most ≤ 1000000) :
    AOk Tryz.prog 53 [.sl (jobsAV js) .no, .sc (.int .i64 fr), .sc (.int .i64 tt), .sc (.int .i64 most)] H (.tup [.sc (.int .i64 ((peakP (planI js fr tt most)).1 : Int)), .sc (.int .i64 ((peakP (planI js fr tt most)).2 : Int))]) H := by
  have hr := c_runsI hG hT hj fr tt most hmost
  have hLm := planI_len js fr tt most
  have hok := planI_ok (js := js) (fr := fr) (tt := tt) (most := most)
  generalize planI js fr tt most = L at *
  obtain ⟨R, hR⟩ : ∃ R, peakP L = R := ⟨_, rfl⟩
  rw [hR]
  refine ACalls.into Tryz.func53 rfl Tryz.ntmps53 Tryz.results53 (by simp) ?_
  simp -implicitDefEqProofs
  refine ACall.eq hr ?_
  simp -implicitDefEqProofs
  refine AGo.rounds (fun μ ρ K => ∃ (i : Nat) (s : Nat × Nat), μ = L.length - i ∧ i ≤ L.length ∧ peakGo L (L.drop i) s = R ∧ ρ 10 = .sl (L.map runAV) .no ∧ ρ 21 = .sl (L.map runAV) .no ∧ ρ 22 = .sc (.int .i64 (L.length : Int)) ∧ ρ 8 = .sc (.int .i64 (s.1 : Int)) ∧ ρ 9 = .sc (.int .i64 (s.2 : Int)) ∧ ρ 23 = .sc (.int .i64 (i : Int)) ∧ HLe H K) ?_ (m := L.length) (HLe.refl _)
    ⟨0, (0, 0), by omega, by omega, hR, by simp, by simp, by simp, by simp, by simp, by simp, HLe.refl _⟩
  rintro μ ρ K ih ⟨i, s, rfl, hi, hgo, r10, r21, r22, r8, r9, r23, hle⟩
  rcases Nat.lt_or_ge i L.length with hlt | hge
  · obtain ⟨x, hx, hx'⟩ := getAt hlt
    have hxok : x.ok := hok x (List.mem_of_getElem? hx')
    rw [List.drop_eq_getElem_cons hlt, peakGo, hx] at hgo
    have hwi : IntKind.i64.wrap ((i : Int) + 1) = ((i + 1 : Nat) : Int) := wadd (b := 1) rfl (by omega)
    simp -implicitDefEqProofs [r21, r22, r23, hlt, hx]
    refine AAlloc.intro fun b12 h12 => ?_
    simp -implicitDefEqProofs
    generalize hK1 : Heap.set K b12 _ = K1
    have l1 : HLe H K1 := by rw [← hK1]; exact hle.trans (HLe.set_fresh h12)
    have k12 : K1 b12 = some (.cells (runC x) 189) := by rw [← hK1]; simp [Heap.set]
    clear hK1 h12 hle
    simp -implicitDefEqProofs [r10]
    refine AGo.joinLoop (fun ρ' K' => ρ' 10 = .sl (L.map runAV) .no ∧ ρ' 21 = .sl (L.map runAV) .no ∧ ρ' 22 = .sc (.int .i64 (L.length : Int)) ∧ ρ' 8 = .sc (.int .i64 (s.1 : Int)) ∧ ρ' 9 = .sc (.int .i64 (s.2 : Int)) ∧ ρ' 11 = .sc (.int .i64 (i : Int)) ∧ ρ' 23 = .sc (.int .i64 (i : Int)) ∧ ρ' 13 = .sc (.int .i64 (cntP L x.at_ : Int)) ∧ HLe H K') (fun k' hk' => ?_) ?_
    · refine AGo.rounds (fun μ ρ' K' => ∃ k : Nat, μ = L.length - k ∧ k ≤ L.length ∧ ρ' 10 = .sl (L.map runAV) .no ∧ ρ' 21 = .sl (L.map runAV) .no ∧ ρ' 22 = .sc (.int .i64 (L.length : Int)) ∧ ρ' 8 = .sc (.int .i64 (s.1 : Int)) ∧ ρ' 9 = .sc (.int .i64 (s.2 : Int)) ∧ ρ' 11 = .sc (.int .i64 (i : Int)) ∧ ρ' 12 = ptr b12 ∧ ρ' 23 = .sc (.int .i64 (i : Int)) ∧ ρ' 28 = .sl (L.map runAV) .no ∧ ρ' 29 = .sc (.int .i64 (L.length : Int)) ∧ ρ' 13 = .sc (.int .i64 (cntP (L.take k) x.at_ : Int)) ∧ ρ' 30 = .sc (.int .i64 (k : Int)) ∧ HLe K1 K') ?_ (m := L.length) (HLe.refl _)
        ⟨0, by omega, by omega, by simp [r10], by simp [r21], by simp [r22], by simp [r8], by simp [r9], by simp, by simp, by simp [r23], by simp, by simp, by simp [cntP], by simp, HLe.refl _⟩
      clear ih hgo r10 r21 r22 r8 r9 r23
      rintro μ ρ' K' ih2 ⟨k, rfl, hk, r10, r21, r22, r8, r9, r11, r12, r23, r28, r29, r13, r30, hle⟩
      rcases Nat.lt_or_ge k L.length with hkl | hkl
      · obtain ⟨y, hy, hy'⟩ := getAt hkl
        have hyok : y.ok := hok y (List.mem_of_getElem? hy')
        unfold PI.ok at hxok hyok
        have hct := cntP_take hkl x.at_
        rw [hy] at hct
        have hcl := cntP_le (L.take k) x.at_
        rw [List.length_take] at hcl
        generalize cntP (L.take k) x.at_ = c at *
        have hwk : IntKind.i64.wrap ((k : Int) + 1) = ((k + 1 : Nat) : Int) := wadd (b := 1) rfl (by omega)
        have hwc : IntKind.i64.wrap ((c : Int) + 1) = ((c + 1 : Nat) : Int) := wadd (b := 1) rfl (by omega)
        have i1 : (y.at_ : Int) ≤ (x.at_ : Int) ↔ y.at_ ≤ x.at_ := by omega
        have i2 : (x.at_ : Int) < (y.at_ : Int) + (y.tmo : Int) ↔ x.at_ < y.at_ + y.tmo := by omega
        have q12 := hle _ _ k12
        simp -implicitDefEqProofs [r28, r29, r30, hkl, hy]
        refine AAlloc.intro fun b15 h15 => ?_
        have n12 : b12 ≠ b15 := by rintro rfl; rw [q12] at h15; cases h15
        have hl2 : ∀ o, HLe K1 (K'.set b15 o) := fun o => hle.trans (HLe.set_fresh h15)
        by_cases h1 : y.at_ ≤ x.at_
        · by_cases h2 : x.at_ < y.at_ + y.tmo
          · have hr : runsAt x.at_ y = true := by unfold runsAt; simp [h1, h2]
            rw [hr, if_pos rfl] at hct
            simp -implicitDefEqProofs [r12, q12, n12, i1, i2, h1, h2, r13, r30, hwk, hwc]
            exact AGo.again ih2 (m' := L.length - (k + 1)) (by omega) (HLe.refl _) ⟨k + 1, rfl, by omega, by simp [r10], by simp [r21], by simp [r22], by simp [r8], by simp [r9], by simp [r11], by simp [r12], by simp [r23], by simp [r28], by simp [r29], by simp [hct], by simp, hl2 _⟩
          · have hr : runsAt x.at_ y = false := by unfold runsAt; simp [h2]
            rw [hr, if_neg (by simp)] at hct
            simp -implicitDefEqProofs [r12, q12, n12, i1, i2, h1, h2, r13, r30, hwk, hwc]
            exact AGo.again ih2 (m' := L.length - (k + 1)) (by omega) (HLe.refl _) ⟨k + 1, rfl, by omega, by simp [r10], by simp [r21], by simp [r22], by simp [r8], by simp [r9], by simp [r11], by simp [r12], by simp [r23], by simp [r28], by simp [r29], by simp [r13, hct], by simp, hl2 _⟩
        · have hr : runsAt x.at_ y = false := by unfold runsAt; simp [h1]
          rw [hr, if_neg (by simp)] at hct
          simp -implicitDefEqProofs [r12, q12, n12, i1, h1, r13, r30, hwk, hwc]
          exact AGo.again ih2 (m' := L.length - (k + 1)) (by omega) (HLe.refl _) ⟨k + 1, rfl, by omega, by simp [r10], by simp [r21], by simp [r22], by simp [r8], by simp [r9], by simp [r11], by simp [r12], by simp [r23], by simp [r28], by simp [r29], by simp [r13, hct], by simp, hl2 _⟩
      · have hk2 : ¬ k < L.length := by omega
        rw [List.take_of_length_le hkl] at r13
        simp -implicitDefEqProofs [r29, r30, hk2]
        exact hk' _ _ ⟨by simp [r10], by simp [r21], by simp [r22], by simp [r8], by simp [r9], by simp [r11], by simp [r23], by simp [r13], l1.trans hle⟩
    · clear r10 r21 r22 r8 r9 r23
      rintro ρ' K' ⟨r10, r21, r22, r8, r9, r11, r23, r13, hle⟩
      generalize cntP L x.at_ = c at *
      have i1 : (s.1 : Int) < (c : Int) ↔ s.1 < c := by omega
      by_cases h1 : s.1 < c
      · rw [if_pos h1] at hgo
        simp -implicitDefEqProofs [r13, r8, i1, h1]
        refine go_draw 9 f_mixed (by decide +kernel) ?_
        simp -implicitDefEqProofs [r10, r11, r13, r23, hlt, hx, hwi]
        exact AGo.again ih (m' := L.length - (i + 1)) (by omega) (HLe.refl _) ⟨i + 1, (c, x.at_), rfl, by omega, hgo, by simp [r10], by simp [r21], by simp [r22], by simp, by simp, by simp, hle⟩
      · rw [if_neg h1] at hgo
        simp -implicitDefEqProofs [r13, r8, i1, h1, r23, hwi]
        exact AGo.again ih (m' := L.length - (i + 1)) (by omega) (HLe.refl _) ⟨i + 1, s, rfl, by omega, hgo, by simp [r10], by simp [r21], by simp [r22], by simp [r8], by simp [r9], by simp, hle⟩
  · have hn : ¬ i < L.length := by omega
    rw [List.drop_of_length_le hge] at hgo
    unfold peakGo at hgo
    subst hgo
    simp -implicitDefEqProofs [r22, r23, r8, r9, hn]
    exact hle.wk
def gapPre (fr : Nat) (L : List PI) (i : Nat) : List AV := (fr :: (L.take i).map PI.at_).map tAV
set_option maxHeartbeats 8000000 in
theorem c_pGap (hG : Glob H) (hT : GlobT H) {js : List Jb} (hj : JobsOk js) (fr tt most : Int) (hmost : most ≤ 1000000) :
    AOk Tryz.prog 55 [.sl (jobsAV js) .no, .sc (.int .i64 fr), .sc (.int .i64 tt), .sc (.int .i64 most)] H (.tup [.sc (.int .i64 ((gapP (planI js fr tt most) fr tt).1 : Int)), .sc (.int .i64 ((gapP (planI js fr tt most) fr tt).2 : Int))]) H := by
  have hr := fun K (h1 : Glob K) (h2 : GlobT K) => c_runsI h1 h2 hj fr tt most hmost
  have hLm := planI_len js fr tt most
  have hok := planI_ok (js := js) (fr := fr) (tt := tt) (most := most)
  generalize planI js fr tt most = L at *
  have hm1 := fun K : Heap => c_planMoment (H := K) fr
  have hm2 := fun K : Heap => c_planMoment (H := K) tt
  unfold gapP
  refine ACalls.into Tryz.func55 rfl Tryz.ntmps55 Tryz.results55 (by simp) ?_
  simp -implicitDefEqProofs
  refine ACall.eq (hm1 _) ?_
  cases h1 : momP fr with
  | false => simp -implicitDefEqProofs
  | true =>
  simp -implicitDefEqProofs
  first | refine ACall.eq (hm2 _) ?_ | refine AQS.eq (hm2 _) ?_
  cases h2 : momP tt with
  | false => simp -implicitDefEqProofs
  | true =>
  by_cases h3 : fr < tt
  · rw [momP_iff] at h1 h2
    obtain ⟨fr, rfl⟩ := Int.eq_ofNat_of_zero_le h1.1
    obtain ⟨tt, rfl⟩ := Int.eq_ofNat_of_zero_le h2.1
    have h3' : ¬ (tt : Int) ≤ (fr : Int) := by omega
    rw [if_pos ⟨rfl, h3⟩, Int.toNat_natCast, Int.toNat_natCast]
    obtain ⟨R, hR⟩ : ∃ R, gapGo (L.map PI.at_ ++ [tt]) (fr, fr, fr) = R := ⟨_, rfl⟩
    rw [hR]
    simp -implicitDefEqProofs [h3, h3']
    refine ACall.eq (hr _ hG hT) ?_
    simp -implicitDefEqProofs
    have hfull : GrowsS H (gapPre fr L 0) 1 2 .full H := .inl ⟨rfl, rfl⟩
    refine AGo.joinLoop (fun ρ' K' => ∃ tk K3, ρ' 2 = .sc (.int .i64 (tt : Int)) ∧ ρ' 10 = .sl (gapPre fr L L.length) tk ∧ GrowsS H (gapPre fr L L.length) 1 2 tk K3 ∧ HLe K3 K') (fun k' hk' => ?_) ?_
    · refine AGo.rounds (fun μ ρ K => ∃ (i : Nat) (tk : Rg.Tok) (K3 : Heap), μ = L.length - i ∧ i ≤ L.length ∧ ρ 2 = .sc (.int .i64 (tt : Int)) ∧ ρ 10 = .sl (gapPre fr L i) tk ∧ ρ 33 = .sl (L.map runAV) .no ∧ ρ 34 = .sc (.int .i64 (L.length : Int)) ∧ ρ 35 = .sc (.int .i64 (i : Int)) ∧ GrowsS H (gapPre fr L i) 1 2 tk K3 ∧ HLe K3 K) ?_ (m := L.length) (HLe.refl _)
        ⟨0, .full, H, by omega, by omega, by simp, by simp [gapPre], by simp, by simp, by simp, hfull, HLe.refl _⟩
      rintro μ ρ K ih ⟨i, tk, K3, rfl, hi, r2, r10, r33, r34, r35, hg, hle⟩
      rcases Nat.lt_or_ge i L.length with hlt | hge
      · obtain ⟨x, hx, _⟩ := getAt hlt
        have hwi : IntKind.i64.wrap ((i : Int) + 1) = ((i + 1 : Nat) : Int) := wadd (b := 1) rfl (by omega)
        have hd : gapPre fr L (i + 1) = gapPre fr L i ++ [tAV x.at_] := by
          unfold gapPre
          rw [List.take_succ_eq_append_getElem hlt, hx]; simp
        have hxl : (gapPre fr L i).length = i + 1 := by simp [gapPre]; omega
        have hsz : szs 1 (gapPre fr L i) = true := szs_map (f := tAV) (fun _ => rfl) _
        generalize gapPre fr L i = xs at *
        simp -implicitDefEqProofs [r33, r34, r35, hlt, hx]
        refine AAlloc.intro fun b5 h5 => ?_
        simp -implicitDefEqProofs [r10]
        refine growsS_app el_36 hg (hle.trans (HLe.set_fresh h5)) (by simp) hsz (by simp [szs]) (by simp; omega) (by simp [maxLen]; omega) fun t' K4 Hn hg' hl' => ?_
        simp -implicitDefEqProofs [r35, hwi]
        refine AGo.again ih (m' := L.length - (i + 1)) (by omega) (HLe.refl _) ⟨i + 1, t', K4, rfl, by omega, by simp [r2], by simp [hd], by simp [r33], by simp [r34], by simp, ?_, hl'⟩
        rw [hd]
        exact hg'
      · have hn : ¬ i < L.length := by omega
        obtain rfl : i = L.length := by omega
        simp -implicitDefEqProofs [r34, r35, hn]
        exact hk' _ _ ⟨tk, K3, by simp [r2], by simp [r10], hg, hle⟩
    · rintro ρ1 K1 ⟨tk, K3, r2, r10, hg, hle⟩
      have hsz : szs 1 (gapPre fr L L.length) = true := szs_map (f := tAV) (fun _ => rfl) _
      have hxl : (gapPre fr L L.length).length = L.length + 1 := by simp [gapPre]
      obtain ⟨M, hM⟩ : ∃ M, fr :: (L.map PI.at_ ++ [tt]) = M := ⟨_, rfl⟩
      have hd : gapPre fr L L.length ++ [tAV tt] = M.map tAV := by unfold gapPre; rw [← hM]; simp
      have hMl : M.length = L.length + 2 := by rw [← hM]; simp
      have hMb : ∀ x ∈ M, x < 13569465600 := by
        intro x hx
        rw [← hM] at hx
        simp only [List.mem_cons, List.mem_append, List.mem_map, List.not_mem_nil, or_false] at hx
        rcases hx with rfl | ⟨y, hy, rfl⟩ | rfl
        · omega
        · exact (hok y hy).1
        · omega
      have hM0 : M[0]? = some fr := by rw [← hM]; rfl
      have hM1 : gapGo (M.drop 1) (fr, fr, fr) = R := by rw [← hM]; exact hR
      generalize gapPre fr L L.length = xs at *
      clear hM hR hfull hr hok
      simp -implicitDefEqProofs [r2, r10]
      refine growsS_app el_36 hg hle (by simp) hsz (by simp [szs]) (by simp; omega) (by simp [maxLen]; omega) fun t' K4 Hn hg' hl' => ?_
      rw [hd]
      have h0 : 0 < M.length := by omega
      have hM0' : M[0] = fr := by rw [List.getElem?_eq_getElem h0] at hM0; exact Option.some.inj hM0
      simp -implicitDefEqProofs
      first | refine go_draw 14 f_mixed (by decide +kernel) ?_ | refine go_draw 11 f_mixed (by decide +kernel) ?_ | refine go_draw 8 f_mixed (by decide +kernel) ?_
      simp -implicitDefEqProofs [h0, hM0, hM0']
      have hW : HWk H Hn := (hg'.le.trans hl').wk
      refine AGo.rounds (fun μ ρ K => ∃ (i b e l : Nat), μ = M.length - i ∧ 1 ≤ i ∧ i ≤ M.length ∧ M[i - 1]? = some l ∧ gapGo (M.drop i) (b, e, l) = R ∧ b < 13569465600 ∧ e < 13569465600 ∧ l < 13569465600 ∧ ρ 10 = .sl (M.map tAV) t' ∧ ρ 8 = .sc (.int .i64 (b : Int)) ∧ ρ 9 = .sc (.int .i64 (e : Int)) ∧ ρ 13 = .sc (.int .i64 (i : Int)) ∧ K = Hn) ?_ (m := M.length - 1) (HLe.refl _)
        ⟨1, fr, fr, fr, rfl, by omega, by omega, hM0, hM1, by omega, by omega, by omega, by simp, by simp, by simp, by simp, rfl⟩
      rintro μ ρ K ih ⟨i, b, e, l, rfl, h1i, hi, hMl', hgo, hb, he, hl, r10, r8, r9, r13, rfl⟩
      rcases Nat.lt_or_ge i M.length with hlt | hge
      · obtain ⟨x, hx, hx'⟩ := getAt hlt
        have hxb := hMb x (List.mem_of_getElem? hx')
        rw [List.drop_eq_getElem_cons hlt, gapGo, hx] at hgo
        obtain ⟨i0, hi0⟩ : ∃ q, i - 1 = q := ⟨_, rfl⟩
        rw [hi0] at hMl'
        have hlt0 : i0 < M.length := by omega
        have hMl0 : M[i0] = l := by rw [List.getElem?_eq_getElem hlt0] at hMl'; exact Option.some.inj hMl'
        have hws : IntKind.i64.wrap ((i : Int) - 1) = (i0 : Int) := wsub (b := 1) hi0 (by omega) (by omega)
        have hwi : IntKind.i64.wrap ((i : Int) + 1) = ((i + 1 : Nat) : Int) := wadd (b := 1) rfl (by omega)
        have w1 : IntKind.i64.wrap ((x : Int) - (l : Int)) = (x : Int) - (l : Int) := wrap_i64 (by omega) (by omega)
        have w2 : IntKind.i64.wrap ((e : Int) - (b : Int)) = (e : Int) - (b : Int) := wrap_i64 (by omega) (by omega)
        simp -implicitDefEqProofs [r10, r13, hlt]
        first | refine go_draw 14 f_mixed (by decide +kernel) ?_ | refine go_draw 11 f_mixed (by decide +kernel) ?_ | refine go_draw 8 f_mixed (by decide +kernel) ?_
        by_cases hc : (e : Int) - b < (x : Int) - l
        · rw [if_pos hc] at hgo
          simp -implicitDefEqProofs [r10, r13, r8, r9, hlt, hx, hlt0, hMl0, hws, w1, w2, hc]
          first | refine go_draw 14 f_mixed (by decide +kernel) ?_ | refine go_draw 11 f_mixed (by decide +kernel) ?_ | refine go_draw 8 f_mixed (by decide +kernel) ?_
          simp -implicitDefEqProofs [r10, r13, r8, r9, hlt, hx, hlt0, hMl0, hws, hwi]
          exact AGo.again ih (m' := M.length - (i + 1)) (by omega) (HLe.refl _) ⟨i + 1, l, x, x, rfl, by omega, by omega, hx', hgo, hl, hxb, hxb, by simp [r10], by simp, by simp, by simp, rfl⟩
        · rw [if_neg hc] at hgo
          simp -implicitDefEqProofs [r10, r13, r8, r9, hlt, hx, hlt0, hMl0, hws, w1, w2, hc, hwi]
          exact AGo.again ih (m' := M.length - (i + 1)) (by omega) (HLe.refl _) ⟨i + 1, b, e, x, rfl, by omega, by omega, hx', hgo, hb, he, hxb, by simp [r10], by simp [r8], by simp [r9], by simp, rfl⟩
      · have hn : ¬ i < M.length := by omega
        rw [List.drop_of_length_le hge] at hgo
        unfold gapGo at hgo
        subst hgo
        simp -implicitDefEqProofs [r10, r13, r8, r9, hn]
        exact hW
  · have h3' : tt ≤ fr := by omega
    rw [if_neg fun h => h3 h.2]
    simp -implicitDefEqProofs [h3, h3']
end Go.Proofs.YtmoncokklkiikaaGreatDoor
namespace Rg
open Go Go.RowKit
variable {P : Program} {H : Heap}
end Rg
namespace Go.Proofs.YtmoncokklkiikaaGreatDoor
open Rg Go
variable {H : Heap}
def hit (x y : PI) : Bool := decide (y.place = x.place) && decide (x.at_ < y.at_ + y.tmo)
def hits (kept : List PI) (x : PI) : Nat := (kept.filter (hit x)).length
def clashGo : List PI → List PI × List PI → List PI × List PI
  | [], s => s
  | x :: r, s => clashGo r (if x.lim ≤ (hits s.2 x : Int) then (s.1 ++ [x], s.2) else (s.1, s.2 ++ [x]))
def clashP (L : List PI) : List PI := (clashGo L ([], [])).1
theorem hits_take {L : List PI} {k : Nat} (hk : k < L.length) (x : PI) : hits (L.take (k + 1)) x = hits (L.take k) x + if hit x L[k] = true then 1 else 0 := by
  unfold hits
  rw [List.take_succ_eq_append_getElem hk, List.filter_append, List.length_append]
  congr 1
  cases h : hit x L[k] <;> simp [h]
theorem hits_le (L : List PI) (x : PI) : hits L x ≤ L.length := List.length_filter_le _ _
theorem planI_job {js : List Jb} {fr tt most : Int} {x y : PI} (hx : x ∈ planI js fr tt most) (hy : y ∈ planI js fr tt most) (h : y.place = x.place) : y.job = x.job := by
  obtain ⟨z, _, rfl⟩ := List.mem_map.1 hx
  obtain ⟨w, _, rfl⟩ := List.mem_map.1 hy
  have h' : w.2 = z.2 := h
  unfold itemOf
  simp only [h']
set_option maxHeartbeats 8000000 in
theorem c_pClashes (hG : Glob H) (hT : GlobT H) {js : List Jb} (hj : JobsOk js) (fr tt most : Int) (hmost : most ≤ 1000000) :
    AOk Tryz.prog 59 [.sl (jobsAV js) .no, .sc (.int .i64 fr), .sc (.int .i64 tt), .sc (.int .i64 most)] H (.sl ((clashP (planI js fr tt most)).map pitAV) .no) H := by
  have hr := c_runsI hG hT hj fr tt most hmost
  have hLm := planI_len js fr tt most
  have hok := planI_ok (js := js) (fr := fr) (tt := tt) (most := most)
  have hjb := fun {x y} => planI_job (js := js) (fr := fr) (tt := tt) (most := most) (x := x) (y := y)
  generalize planI js fr tt most = L at *
  obtain ⟨R, hR⟩ : ∃ R, clashP L = R := ⟨_, rfl⟩
  rw [hR]
  refine ACalls.into Tryz.func59 rfl Tryz.ntmps59 Tryz.results59 (by simp) ?_
  simp -implicitDefEqProofs
  refine ACall.eq hr ?_
  simp -implicitDefEqProofs
  clear hr
  refine AGo.rounds (fun μ ρ K => ∃ (i : Nat) (s : List PI × List PI) (t1 t2 : Rg.Tok), μ = L.length - i ∧ i ≤ L.length ∧ (clashGo (L.drop i) s).1 = R ∧ s.1.length ≤ i ∧ s.2.length ≤ i ∧ (∀ y ∈ s.2, y ∈ L) ∧ ρ 9 = .sl (s.1.map pitAV) t1 ∧ ρ 10 = .sl (s.2.map runAV) t2 ∧ ρ 20 = .sl (L.map runAV) .no ∧ ρ 21 = .sc (.int .i64 (L.length : Int)) ∧ ρ 22 = .sc (.int .i64 (i : Int)) ∧ HLe H K ∧
    GrowsK H (s.1.map pitAV).length 2 111 t1 K ∧ GrowsK H (s.2.map runAV).length 5 189 t2 K) ?_ (m := L.length) (HLe.refl _)
    ⟨0, ([], []), .nil, .nil, by omega, by omega, hR, by simp, by simp, by simp, by simp, by simp, by simp, by simp, by simp, HLe.refl _, .inl ⟨rfl, rfl⟩, .inl ⟨rfl, rfl⟩⟩
  rintro μ ρ K ih ⟨i, s, t1, t2, rfl, hi, hgo, hs1, hs2, hsL, r9, r10, r20, r21, r22, hle, hg1, hg2⟩
  obtain ⟨out, kept⟩ := s
  simp only at hs1 hs2 hsL r9 r10 hg1 hg2
  rcases Nat.lt_or_ge i L.length with hlt | hge
  · obtain ⟨x, hx, hx'⟩ := getAt hlt
    have hxL := List.mem_of_getElem? hx'
    have hxok : x.ok := hok x hxL
    rw [List.drop_eq_getElem_cons hlt, clashGo, hx] at hgo
    simp only at hgo
    have hwi : IntKind.i64.wrap ((i : Int) + 1) = ((i + 1 : Nat) : Int) := wadd (b := 1) rfl (by omega)
    simp -implicitDefEqProofs [r20, r21, r22, hlt, hx]
    refine AAlloc.intro fun b12 h12 => ?_
    simp -implicitDefEqProofs
    generalize hK1 : Heap.set K b12 _ = K1
    have l1 : HLe K K1 := by rw [← hK1]; exact HLe.set_fresh h12
    have k12 : K1 b12 = some (.cells (runC x) 189) := by rw [← hK1]; simp [Heap.set]
    clear hK1 h12
    have hle := hle.trans l1
    have hg1 := hg1.up l1
    have hg2 := hg2.up l1
    simp -implicitDefEqProofs [r10]
    refine AGo.joinLoop (fun ρ' K' => ρ' 9 = .sl (out.map pitAV) t1 ∧ ρ' 10 = .sl (kept.map runAV) t2 ∧ ρ' 12 = ptr b12 ∧ ρ' 20 = .sl (L.map runAV) .no ∧ ρ' 21 = .sc (.int .i64 (L.length : Int)) ∧ ρ' 22 = .sc (.int .i64 (i : Int)) ∧ ρ' 13 = .sc (.int .i64 (hits kept x : Int)) ∧ HLe K1 K') (fun k' hk' => ?_) ?_
    · refine AGo.rounds (fun μ ρ' K' => ∃ k : Nat, μ = kept.length - k ∧ k ≤ kept.length ∧ ρ' 9 = .sl (out.map pitAV) t1 ∧ ρ' 10 = .sl (kept.map runAV) t2 ∧ ρ' 12 = ptr b12 ∧ ρ' 20 = .sl (L.map runAV) .no ∧ ρ' 21 = .sc (.int .i64 (L.length : Int)) ∧ ρ' 22 = .sc (.int .i64 (i : Int)) ∧ ρ' 26 = .sl (kept.map runAV) t2 ∧ ρ' 27 = .sc (.int .i64 (kept.length : Int)) ∧ ρ' 13 = .sc (.int .i64 (hits (kept.take k) x : Int)) ∧ ρ' 28 = .sc (.int .i64 (k : Int)) ∧ HLe K1 K') ?_ (m := kept.length) (HLe.refl _)
        ⟨0, by omega, by omega, by simp [r9], by simp [r10], by simp, by simp [r20], by simp [r21], by simp [r22], by simp, by simp, by simp [hits], by simp, HLe.refl _⟩
      clear ih hgo r9 r10 r20 r21 r22
      rintro μ ρ' K' ih2 ⟨k, rfl, hk, r9, r10, r12, r20, r21, r22, r26, r27, r13, r28, hle2⟩
      rcases Nat.lt_or_ge k kept.length with hkl | hkl
      · obtain ⟨y, hy, hy'⟩ := getAt hkl
        have hyL := hsL y (List.mem_of_getElem? hy')
        have hyok : y.ok := hok y hyL
        have hjob := hjb hxL hyL
        unfold PI.ok at hxok hyok
        have hct := hits_take hkl x
        rw [hy] at hct
        have hcl := hits_le (kept.take k) x
        rw [List.length_take] at hcl
        generalize hits (kept.take k) x = c at *
        have hwk : IntKind.i64.wrap ((k : Int) + 1) = ((k + 1 : Nat) : Int) := wadd (b := 1) rfl (by omega)
        have hwc : IntKind.i64.wrap ((c : Int) + 1) = ((c + 1 : Nat) : Int) := wadd (b := 1) rfl (by omega)
        have i1 : (y.job : Int) = (x.job : Int) ↔ y.job = x.job := by omega
        have i3 : (y.place : Int) = (x.place : Int) ↔ y.place = x.place := by omega
        have i2 : (x.at_ : Int) < (y.at_ : Int) + (y.tmo : Int) ↔ x.at_ < y.at_ + y.tmo := by omega
        have q12 := hle2 _ _ k12
        simp -implicitDefEqProofs [r26, r27, r28, hkl, hy]
        refine AAlloc.intro fun b15 h15 => ?_
        have n12 : b12 ≠ b15 := by rintro rfl; rw [q12] at h15; cases h15
        have hl2 : ∀ o, HLe K1 (K'.set b15 o) := fun o => hle2.trans (HLe.set_fresh h15)
        by_cases h1 : y.place = x.place
        · have h0 := hjob h1
          by_cases h2 : x.at_ < y.at_ + y.tmo
          · have hr : hit x y = true := by unfold hit; simp [h1, h2]
            rw [hr, if_pos rfl] at hct
            simp -implicitDefEqProofs [r12, q12, n12, i1, i2, i3, h0, h1, h2, r13, r28, hwk, hwc]
            exact AGo.again ih2 (m' := kept.length - (k + 1)) (by omega) (HLe.refl _) ⟨k + 1, rfl, by omega, by simp [r9], by simp [r10], by simp [r12], by simp [r20], by simp [r21], by simp [r22], by simp [r26], by simp [r27], by simp [hct], by simp, hl2 _⟩
          · have hr : hit x y = false := by unfold hit; simp [h2]
            rw [hr, if_neg (by simp)] at hct
            simp -implicitDefEqProofs [r12, q12, n12, i1, i2, i3, h0, h1, h2, r13, r28, hwk, hwc]
            exact AGo.again ih2 (m' := kept.length - (k + 1)) (by omega) (HLe.refl _) ⟨k + 1, rfl, by omega, by simp [r9], by simp [r10], by simp [r12], by simp [r20], by simp [r21], by simp [r22], by simp [r26], by simp [r27], by simp [r13, hct], by simp, hl2 _⟩
        · have hr : hit x y = false := by unfold hit; simp [h1]
          rw [hr, if_neg (by simp)] at hct
          by_cases h0 : y.job = x.job
          · simp -implicitDefEqProofs [r12, q12, n12, i1, i3, h0, h1, r13, r28, hwk, hwc]
            exact AGo.again ih2 (m' := kept.length - (k + 1)) (by omega) (HLe.refl _) ⟨k + 1, rfl, by omega, by simp [r9], by simp [r10], by simp [r12], by simp [r20], by simp [r21], by simp [r22], by simp [r26], by simp [r27], by simp [r13, hct], by simp, hl2 _⟩
          · simp -implicitDefEqProofs [r12, q12, n12, i1, h0, r13, r28, hwk, hwc]
            exact AGo.again ih2 (m' := kept.length - (k + 1)) (by omega) (HLe.refl _) ⟨k + 1, rfl, by omega, by simp [r9], by simp [r10], by simp [r12], by simp [r20], by simp [r21], by simp [r22], by simp [r26], by simp [r27], by simp [r13, hct], by simp, hl2 _⟩
      · have hk2 : ¬ k < kept.length := by omega
        rw [List.take_of_length_le hkl] at r13
        simp -implicitDefEqProofs [r27, r28, hk2]
        exact hk' _ _ ⟨by simp [r9], by simp [r10], by simp [r12], by simp [r20], by simp [r21], by simp [r22], by simp [r13], hle2⟩
    · clear r9 r10 r20 r21 r22
      rintro ρ' K' ⟨r9, r10, r12, r20, r21, r22, r13, hle2⟩
      have q12 := hle2 _ _ k12
      have hg1 := hg1.up hle2
      have hg2 := hg2.up hle2
      have hle := hle.trans hle2
      generalize hits kept x = c at *
      by_cases h1 : x.lim ≤ (c : Int)
      · rw [if_pos h1] at hgo
        obtain ⟨G0, G, a1, a2, a3, a4⟩ := hg1.grows hle
        have hsz : szs 2 (out.map pitAV) = true := szs_map (f := pitAV) (fun _ => rfl) _
        have hd : out.map pitAV ++ [pitAV x] = (out ++ [x]).map pitAV := by simp
        have hol : (out.map pitAV).length = out.length := by simp
        simp -implicitDefEqProofs [r13, r12, q12, h1, r9]
        refine AApp.grows el_105 a1 a2 (by simp) hsz (by simp [szs]) (by simp; omega) (by simp [maxLen]; omega) fun t' K4 Hn hg' hl' => ?_
        rw [hd] at hg' ⊢
        obtain ⟨b1, b2⟩ := GrowsK.of a3 hg' hl'
        simp -implicitDefEqProofs [r22, hwi]
        exact AGo.again ih (m' := L.length - (i + 1)) (by omega) (HLe.refl _) ⟨i + 1, (out ++ [x], kept), t', t2, rfl, by omega, hgo, by simp; omega, by simp; omega, hsL, by simp, by simp [r10], by simp [r20], by simp [r21], by simp, b2, b1, hg2.other (by decide) a4 hg' hl'⟩
      · rw [if_neg h1] at hgo
        obtain ⟨G0, G, a1, a2, a3, a4⟩ := hg2.grows hle
        have hsz : szs 5 (kept.map runAV) = true := szs_map (f := runAV) (fun _ => rfl) _
        have hd : kept.map runAV ++ [.agg [.sc (.int .i64 (x.at_ : Int)), .sc (.int .u64 (x.job : Int)), .sc (.int .i64 ((x.at_ : Int) + (x.tmo : Int))), .sc (.int .i64 x.lim), .sc (.int .i64 (x.place : Int))]] = (kept ++ [x]).map runAV := by simp
        have hol : (kept.map runAV).length = kept.length := by simp
        simp -implicitDefEqProofs [r13, r12, q12, h1, r10]
        refine AApp.grows el_186 a1 a2 (by simp) hsz (by simp [szs]) (by simp; omega) (by simp [maxLen]; omega) fun t' K4 Hn hg' hl' => ?_
        rw [hd] at hg' ⊢
        obtain ⟨b1, b2⟩ := GrowsK.of a3 hg' hl'
        simp -implicitDefEqProofs [r22, hwi]
        exact AGo.again ih (m' := L.length - (i + 1)) (by omega) (HLe.refl _) ⟨i + 1, (out, kept ++ [x]), t1, t', rfl, by omega, hgo, by simp; omega, by simp; omega, (fun y hy => by
          rcases List.mem_append.1 hy with h | h
          · exact hsL y h
          · rw [List.mem_singleton.1 h]; exact hxL), by simp [r9], by simp, by simp [r20], by simp [r21], by simp, b2, hg1.other (by decide) a4 hg' hl', b1⟩
  · have hn : ¬ i < L.length := by omega
    rw [List.drop_of_length_le hge] at hgo
    unfold clashGo at hgo
    subst hgo
    simp -implicitDefEqProofs [r9, r21, r22, hn]
    exact hle.wk
end Go.Proofs.YtmoncokklkiikaaGreatDoor
namespace Go.Proofs.YtmoncokklkiikaaGreatDoor
open Rg Go
variable {H : Heap}
end Go.Proofs.YtmoncokklkiikaaGreatDoor
namespace Go.Proofs.YtmoncokklkiikaaGreatDoor
open Rg Go
variable {H : Heap}
theorem ins_le {M : List PIt} {y : PIt} (h : M.Pairwise fun a b => a.1 ≤ b.1) : (insP M y).Pairwise fun a b => a.1 ≤ b.1 := by
  unfold insP
  rw [List.pairwise_append, List.pairwise_cons]
  refine ⟨h.filter _, ⟨fun z hz => ?_, h.filter _⟩, fun a ha b hb => ?_⟩
  · simp only [List.mem_filter, decide_eq_true_eq] at hz
    omega
  · simp only [List.mem_filter, decide_eq_true_eq] at ha
    rcases List.mem_cons.1 hb with e | hb
    · subst e; exact ha.2
    · simp only [List.mem_filter, decide_eq_true_eq] at hb; omega
theorem filt_two (t : Nat) : ∀ M : List PIt, (M.filter fun z => decide (z.1 ≤ t)).length + (M.filter fun z => decide (t < z.1)).length = M.length
  | [] => rfl
  | z :: M => by
    have := filt_two t M
    by_cases h : z.1 ≤ t
    · have h' : ¬ t < z.1 := by omega
      rw [List.filter_cons_of_pos (by simpa using h), List.filter_cons_of_neg (by simpa using h'), List.length_cons, List.length_cons]; omega
    · have h' : t < z.1 := by omega
      rw [List.filter_cons_of_neg (by simpa using h), List.filter_cons_of_pos (by simpa using h'), List.length_cons, List.length_cons]; omega
theorem ins_len (M : List PIt) (y : PIt) : (insP M y).length = M.length + 1 := by
  have := filt_two y.1 M
  unfold insP
  rw [List.length_append, List.length_cons]
  omega
theorem take_le {M : List PIt} (h : M.Pairwise fun a b => a.1 ≤ b.1) {a t : Nat} (ha : a ≤ M.length) (hl : ∀ z, M[a - 1]? = some z → 0 < a → z.1 ≤ t) : ∀ z ∈ M.take a, z.1 ≤ t := by
  intro z hz
  obtain ⟨i, hi, e⟩ := List.mem_take_iff_getElem.1 hz
  have hlt : a - 1 < M.length := by omega
  have h1 := hl M[a - 1] (List.getElem?_eq_getElem hlt) (by omega)
  rcases Nat.lt_or_ge i (a - 1) with h2 | h2
  · have := List.pairwise_iff_getElem.1 h i (a - 1) (by omega) hlt h2
    rw [← e]; omega
  · have : i = a - 1 := by omega
    subst this
    rw [← e]; exact h1
def restM (a tt : Nat) (most : Int) (j : Jb) : List Nat := (restJ a tt j).take most.toNat
theorem putRow_len (k : Nat) : ∀ (R : List Nat) (M : List PIt), (putRow M k R).length = M.length + R.length
  | [], M => rfl
  | t :: R, M => by
    show (putRow (insP M (t, k)) k R).length = _
    rw [putRow_len k R, ins_len, List.length_cons]; omega
theorem putRow_le (k : Nat) : ∀ (R : List Nat) (M : List PIt), M.Pairwise (fun a b => a.1 ≤ b.1) → (putRow M k R).Pairwise fun a b => a.1 ≤ b.1
  | [], _, h => h
  | t :: R, M, h => putRow_le k R (insP M (t, k)) (ins_le h)
theorem put_cut (js : List Jb) (a tt : Nat) (most : Int) : (putAll 0 [] (js.map (restM a tt most))).take most.toNat = (planL js a tt).take most.toNat := by
  have h := merged_put (Rs := js.map (restM a tt most)) fun R hR => by
    obtain ⟨j, _, rfl⟩ := List.mem_map.1 hR
    exact List.Pairwise.sublist (List.take_sublist _ _) (restJ_sorted a tt j)
  have e : js.map (restM a tt most) = (js.map (restJ a tt)).map fun R => R.take most.toNat := by
    rw [List.map_map]; rfl
  rw [e] at h ⊢
  exact cut_most (fun R hR => by
    obtain ⟨j, _, rfl⟩ := List.mem_map.1 hR
    exact restJ_sorted a tt j) (planL_merged js a tt) h
abbrev rItAV (js : List Jb) (z : PIt) : AV := piAV (itemOf js z)
set_option maxHeartbeats 16000000 in
theorem c_rFirst {js : List Jb} (hj : JobsOk js) (hjl : js.length ≤ 1000) (fr tt most : Int) (hmost : most ≤ 1000) :
    AOk Tryz.prog 52 [.sl (jobsAV js) .no, .sc (.int .i64 fr), .sc (.int .i64 tt), .sc (.int .i64 most)] H (.sl ((planI js fr tt most).map piAV) .no) H := by
  have hm1 := fun K : Heap => c_rMomentP (H := K) fr
  have hm2 := fun K : Heap => c_rMomentP (H := K) tt
  obtain ⟨R, hR⟩ : ∃ R, planI js fr tt most = R := ⟨_, rfl⟩
  rw [hR]
  unfold planI planZ at hR
  refine ACalls.into Tryz.func52 rfl Tryz.ntmps52 Tryz.results52 (by simp) ?_
  by_cases hm : most < 1
  · rw [show most.toNat = 0 by omega] at hR
    subst hR
    simp -implicitDefEqProofs [hm]
  simp -implicitDefEqProofs [hm]
  first | refine ACall.eq (hm1 _) ?_ | refine AQS.eq (hm1 _) ?_
  cases h1 : momP fr with
  | false =>
    rw [h1, if_neg (by simp)] at hR
    subst hR
    simp -implicitDefEqProofs
  | true =>
  simp -implicitDefEqProofs
  first | refine ACall.eq (hm2 _) ?_ | refine AQS.eq (hm2 _) ?_
  cases h2 : momP tt with
  | false =>
    rw [h2, if_neg (by simp)] at hR
    subst hR
    simp -implicitDefEqProofs
  | true =>
  rw [momP_iff] at h1 h2
  obtain ⟨a, rfl⟩ := Int.eq_ofNat_of_zero_le h1.1
  obtain ⟨b, rfl⟩ := Int.eq_ofNat_of_zero_le h2.1
  have hR2 : ((putAll 0 [] (js.map (restM a b most))).take most.toNat).map (itemOf js) = R := by
    rw [← hR, put_cut]
    refine congrArg (fun z : List PIt => (z.take most.toNat).map (itemOf js)) ?_
    by_cases h3 : (a : Int) < (b : Int)
    · rw [if_pos ⟨momP_iff.2 h1, momP_iff.2 h2, h3⟩, Int.toNat_natCast, Int.toNat_natCast]
    · rw [if_neg fun h => h3 h.2.2]
      refine (planL_merged js a b).done fun Q hQ => ?_
      obtain ⟨j, _, rfl⟩ := List.mem_map.1 hQ
      unfold restJ
      split
      · exact fires_none fun k g1 g2 => by omega
      · rfl
  clear hR
  obtain ⟨N, hN⟩ : ∃ N, putAll 0 [] (js.map (restM a b most)) = N := ⟨_, rfl⟩
  rw [hN] at hR2
  have ha : a < 13569465600 := by omega
  have hb : b < 13569465600 := by omega
  have hMl : ∀ M : List PIt, (M.map (rItAV js)).length = M.length := fun M => List.length_map _
  simp -implicitDefEqProofs
  refine AGo.rounds (fun μ ρ K => ∃ (i : Nat) (M : List PIt) (tk : Rg.Tok), μ = js.length - i ∧ i ≤ js.length ∧ putAll i M ((js.drop i).map (restM a b most)) = N ∧ M.Pairwise (fun a b => a.1 ≤ b.1) ∧ M.length ≤ 1000 * i ∧ ρ 0 = .sl (jobsAV js) .no ∧ ρ 1 = .sc (.int .i64 (a : Int)) ∧ ρ 2 = .sc (.int .i64 (b : Int)) ∧ ρ 3 = .sc (.int .i64 most) ∧ ρ 9 = .sl (M.map (rItAV js)) tk ∧ ρ 10 = .sc (.int .i64 (i : Int)) ∧ HLe H K) ?_ (m := js.length) (HLe.refl _)
    ⟨0, [], .nil, by omega, by omega, hN, List.Pairwise.nil, by simp, by simp, by simp, by simp, by simp, by simp, by simp, HLe.refl _⟩
  clear hN
  rintro μ ρ K ih ⟨i, M, tk, rfl, hi, hput, hle, hlen, r0, r1, r2, r3, r9, r10, hH⟩
  rcases Nat.lt_or_ge i js.length with hlt | hge
  · obtain ⟨j, hjx, hj'⟩ := getAt hlt
    have hjm := List.mem_of_getElem? hj'
    have hjd : jobOf js i = j := by unfold jobOf; rw [List.getD_eq_getElem?_getD, hj']; rfl
    rw [List.drop_eq_getElem_cons hlt, List.map_cons, putAll, hjx] at hput
    have hwi : IntKind.i64.wrap ((i : Int) + 1) = ((i + 1 : Nat) : Int) := wadd (b := 1) rfl (by omega)
    have hmay := fun K => c_ref14May (H := K) j .no (hj.ex j hjm)
    unfold jbAV jbC at hmay
    simp -implicitDefEqProofs [r0, r10, hlt, hjx]
    refine AAlloc.intro fun b11 h11 => ?_
    simp -implicitDefEqProofs
    generalize hK : Heap.set K b11 _ = K1
    have q11 : K1 b11 = some (.cells (jbC j .no) 25) := by rw [← hK]; simp [Heap.set]
    have l1 : HLe H K1 := by rw [← hK]; exact hH.trans (HLe.set_fresh h11)
    clear hK
    have l0 : restM a b most j = if liveJ j = true then (firesL (cronK j.ex).1 a b).take most.toNat else [] := by
      unfold restM restJ
      split
      · rfl
      · exact List.take_nil
    cases hp : j.pau with
    | true =>
      have hl : liveJ j = false := by unfold liveJ; rw [hp]; rfl
      rw [l0, hl, if_neg (by simp)] at hput
      simp -implicitDefEqProofs [q11, hp, r10, hwi]
      exact AGo.again ih (m' := js.length - (i + 1)) (by omega) (HLe.refl _) ⟨i + 1, M, tk, rfl, by omega, hput, hle, by omega, by simp [r0], by simp [r1], by simp [r2], by simp [r3], by simp [r9], by simp, l1⟩
    | false =>
    rw [hp] at hmay
    simp -implicitDefEqProofs [q11, hp]
    first | refine ACall.eq (hmay _) ?_ | refine AQS.eq (hmay _) ?_
    by_cases hma : mayJ j = 0
    · have hl : liveJ j = true := by unfold liveJ; rw [hp, hma]; rfl
      rw [l0, hl, if_pos rfl] at hput
      have hcp := fun K => c_ref7ParseW (H := K) j.ex (hj.ex j hjm)
      have hxo := cronK_lt j.ex
      have hxm := cronK_may (live_ex hma)
      have htim := live_tim hl
      obtain ⟨tmo, htmo⟩ : ∃ q : Nat, j.tim = (q : Int) := ⟨j.tim.toNat, by omega⟩
      generalize (cronK j.ex).1 = x at *
      simp -implicitDefEqProofs [hma, q11]
      refine ACall.eq (hcp _) ?_
      simp -implicitDefEqProofs
      refine AAlloc.intro fun b12 h12 => ?_
      simp -implicitDefEqProofs
      generalize hK : Heap.set K1 b12 _ = K2
      have l2 : HLe K1 K2 := by rw [← hK]; exact HLe.set_fresh h12
      have q12 : K2 b12 = some (.cells (exC x) 42) := by rw [← hK]; simp [Heap.set]
      have q11 := l2 _ _ q11
      have l1 := l1.trans l2
      clear hK h12 l2
      simp -implicitDefEqProofs [q12, r1, r2, r3]
      refine ACall.eq (c_ref8List hxo hxm ha hb most (by omega)) ?_
      obtain ⟨L, hLL⟩ : ∃ L, (firesL x (a : Int) (b : Int)).take most.toNat = L := ⟨_, rfl⟩
      have hLl : L.length ≤ 1000 := by rw [← hLL, List.length_take]; omega
      have hLb : ∀ t ∈ L, t < 13569465600 := fun t ht => by
        rw [← hLL] at ht
        have := fires_bound (List.mem_of_mem_take ht)
        omega
      rw [hLL] at hput ⊢
      simp -implicitDefEqProofs
      refine AGo.joinLoop (fun ρ' K' => ∃ tk', ρ' 0 = .sl (jobsAV js) .no ∧ ρ' 1 = .sc (.int .i64 (a : Int)) ∧ ρ' 2 = .sc (.int .i64 (b : Int)) ∧ ρ' 3 = .sc (.int .i64 most) ∧ ρ' 9 = .sl ((putRow M i L).map (rItAV js)) tk' ∧ ρ' 10 = .sc (.int .i64 (i : Int)) ∧ HLe K2 K') (fun k' hk' => ?_) ?_
      · refine AGo.rounds (fun μ ρ' K' => ∃ (k : Nat) (M' : List PIt) (tk' : Rg.Tok), μ = L.length - k ∧ k ≤ L.length ∧ putRow M' i (L.drop k) = putRow M i L ∧ M'.Pairwise (fun a b => a.1 ≤ b.1) ∧ M'.length = M.length + k ∧ ρ' 0 = .sl (jobsAV js) .no ∧ ρ' 1 = .sc (.int .i64 (a : Int)) ∧ ρ' 2 = .sc (.int .i64 (b : Int)) ∧ ρ' 3 = .sc (.int .i64 most) ∧ ρ' 9 = .sl (M'.map (rItAV js)) tk' ∧ ρ' 10 = .sc (.int .i64 (i : Int)) ∧ ρ' 11 = ptr b11 ∧ ρ' 14 = .sl (L.map tAV) .no ∧ ρ' 15 = .sc (.int .i64 (k : Int)) ∧ HLe K2 K') ?_ (m := L.length) (HLe.refl _)
          ⟨0, M, tk, by omega, by omega, rfl, hle, by omega, by simp [r0], by simp [r1], by simp [r2], by simp [r3], by simp [r9], by simp [r10], by simp, by simp, by simp, HLe.refl _⟩
        obtain ⟨PM, hPM⟩ : ∃ q, putRow M i L = q := ⟨_, rfl⟩
        rw [hPM] at hk' ⊢
        clear ih r0 r1 r2 r3 r9 r10 hput hPM hR2
        rintro μ ρ' K' ih2 ⟨k, M', tk', rfl, hk, hput, hle', hlen', r0, r1, r2, r3, r9, r10, r11, r14, r15, hle2⟩
        rcases Nat.lt_or_ge k L.length with hkl | hkl
        · obtain ⟨t, ht, ht'⟩ := getAt hkl
          have htb := hLb t (List.mem_of_getElem? ht')
          rw [List.drop_eq_getElem_cons hkl, ht] at hput
          have hput : putRow (insP M' (t, i)) i (L.drop (k + 1)) = PM := hput
          have hwk : IntKind.i64.wrap ((k : Int) + 1) = ((k + 1 : Nat) : Int) := wadd (b := 1) rfl (by omega)
          simp -implicitDefEqProofs [r14, r15, r9, hkl]
          refine AGo.joinLoop (fun ρ'' K'' => ∃ p : Nat, p ≤ M'.length ∧ (∀ z ∈ M'.take p, z.1 ≤ t) ∧ (∀ z ∈ M'.drop p, t < z.1) ∧ ρ'' 0 = .sl (jobsAV js) .no ∧ ρ'' 1 = .sc (.int .i64 (a : Int)) ∧ ρ'' 2 = .sc (.int .i64 (b : Int)) ∧ ρ'' 3 = .sc (.int .i64 most) ∧ ρ'' 9 = .sl (M'.map (rItAV js)) tk' ∧ ρ'' 10 = .sc (.int .i64 (i : Int)) ∧ ρ'' 11 = ptr b11 ∧ ρ'' 14 = .sl (L.map tAV) .no ∧ ρ'' 15 = .sc (.int .i64 (k : Int)) ∧ ρ'' 16 = .sc (.int .i64 (p : Int)) ∧ K'' = K') (fun k3 hk3 => ?_) ?_
          · refine AGo.rounds (fun μ ρ'' K'' => ∃ p : Nat, μ = p ∧ p ≤ M'.length ∧ (∀ z ∈ M'.drop p, t < z.1) ∧ ρ'' 0 = .sl (jobsAV js) .no ∧ ρ'' 1 = .sc (.int .i64 (a : Int)) ∧ ρ'' 2 = .sc (.int .i64 (b : Int)) ∧ ρ'' 3 = .sc (.int .i64 most) ∧ ρ'' 9 = .sl (M'.map (rItAV js)) tk' ∧ ρ'' 10 = .sc (.int .i64 (i : Int)) ∧ ρ'' 11 = ptr b11 ∧ ρ'' 14 = .sl (L.map tAV) .no ∧ ρ'' 15 = .sc (.int .i64 (k : Int)) ∧ ρ'' 16 = .sc (.int .i64 (p : Int)) ∧ K'' = K') ?_ (m := M'.length) (HLe.refl _)
              ⟨M'.length, rfl, Nat.le_refl _, by simp, by simp [r0], by simp [r1], by simp [r2], by simp [r3], by simp [r9], by simp [r10], by simp [r11], by simp [r14], by simp [r15], by simp, rfl⟩
            clear ih2 r0 r1 r2 r3 r9 r10 r11 r14 r15
            rintro p ρ'' K'' ih3 ⟨_, rfl, hp', hdr, r0, r1, r2, r3, r9, r10, r11, r14, r15, r16, rfl⟩
            simp -implicitDefEqProofs
            first | refine go_draw 15 f_mixed (by decide +kernel) ?_ | refine go_draw 13 f_mixed (by decide +kernel) ?_ | refine go_draw 12 f_mixed (by decide +kernel) ?_
            rcases Nat.eq_zero_or_pos p with rfl | hpos
            · simp -implicitDefEqProofs [r16]
              exact hk3 _ _ ⟨0, by omega, by simp, hdr, by simp [r0], by simp [r1], by simp [r2], by simp [r3], by simp [r9], by simp [r10], by simp [r11], by simp [r14], by simp [r15], by simp [r16], rfl⟩
            · obtain ⟨p0, hp0⟩ : ∃ q, p - 1 = q := ⟨_, rfl⟩
              have hpl : p0 < M'.length := by omega
              obtain ⟨z, hz, hz'⟩ := getAt hpl
              have hws : IntKind.i64.wrap ((p : Int) - 1) = (p0 : Int) := wsub (b := 1) hp0 (by omega) (by omega)
              have hpi : (0 : Int) < (p : Int) := by omega
              have i1 : (t : Int) < ((itemOf js z).at_ : Int) ↔ t < z.1 := by show (t : Int) < (z.1 : Int) ↔ _; omega
              by_cases hc : t < z.1
              · simp -implicitDefEqProofs [r9, r14, r15, r16, hpi, hpos, hws, hpl, hz, hkl, ht, i1, hc]
                exact AGo.again ih3 (m' := p0) (by omega) (HLe.refl _) ⟨p0, rfl, by omega, fun w hw => by
                  rw [List.drop_eq_getElem_cons hpl, hz] at hw
                  rcases List.mem_cons.1 hw with h | h
                  · rw [h]; exact hc
                  · exact hdr w (by rw [show p = p0 + 1 by omega]; exact h), by simp [r0], by simp [r1], by simp [r2], by simp [r3], by simp [r9], by simp [r10], by simp [r11], by simp [r14], by simp [r15], by simp, rfl⟩
              · simp -implicitDefEqProofs [r9, r14, r15, r16, hpi, hpos, hws, hpl, hz, hkl, ht, i1, hc]
                exact hk3 _ _ ⟨p, hp', take_le hle' hp' (fun w hw _ => by
                  rw [hp0, hz'] at hw
                  rw [← Option.some.inj hw]; omega), hdr, by simp [r0], by simp [r1], by simp [r2], by simp [r3], by simp [r9], by simp [r10], by simp [r11], by simp [r14], by simp [r15], by simp [r16], rfl⟩
          · clear r0 r1 r2 r3 r9 r10 r11 r14 r15
            rintro ρ'' K'' ⟨p, hp', htk, hdr, r0, r1, r2, r3, r9, r10, r11, r14, r15, r16, rfl⟩
            have hins : insP M' (t, i) = M'.take p ++ (t, i) :: M'.drop p := insP_at htk hdr
            have q11 := hle2 _ _ q11
            have hti : rItAV js (t, i) = .agg [.sc (.int .i64 (t : Int)), .sc (.int .u64 (j.id : Int)), .sc (.int .i64 (i : Int)), .sc (.int .i64 j.tim), .sc (.int .i64 j.lim)] := by
              unfold rItAV itemOf
              simp only [hjd, htmo, Int.toNat_natCast]
            have hgen : (M'.map (rItAV js)).take p ++ [.agg [.sc (.int .i64 (t : Int)), .sc (.int .u64 (j.id : Int)), .sc (.int .i64 (i : Int)), .sc (.int .i64 j.tim), .sc (.int .i64 j.lim)]] ++ (M'.map (rItAV js)).drop p = (insP M' (t, i)).map (rItAV js) := by
              rw [hins, List.map_append, List.map_cons, hti, List.append_assoc, List.map_take, List.map_drop]; rfl
            have hxl := hMl M'
            have hszM : szs 5 (M'.map (rItAV js)) = true := szs_map (f := rItAV js) (fun _ => rfl) _
            have hszT := szs_take hszM p
            have hszD := szs_drop hszM p
            generalize M'.map (rItAV js) = xs at *
            have hpi : (0 : Int) ≤ (p : Int) := by omega
            have hpx : p ≤ xs.length := by omega
            have hpx2 : (p : Int) ≤ (xs.length : Int) := by omega
            simp -implicitDefEqProofs [r10, r11, r14, r15, hkl, ht, q11]
            refine go_draw2 14 [0, 1, 2, 3, 4, 5, 6, 7, 8, 9, 10, 11] [12, 13] K'' f_mixed (by decide +kernel) (HC.refl _) ?_
            simp -implicitDefEqProofs [r10, r11, r14, r15, hkl, ht, q11]
            refine AES.alloc fun b17 h17 => ?_
            simp -implicitDefEqProofs
            refine AES.store (if_pos rfl) ?_ ?_
            · simp only [lset_cons, lset_nil]
              exact ((HC.refl _).setn h17).setn h17
            simp -implicitDefEqProofs
            generalize hK : Heap.set K'' b17 _ = K3
            have l3 : HLe K'' K3 := by rw [← hK]; exact HLe.set_fresh h17
            have q17 : K3 b17 = some (.cells [.sc (.int .i64 (t : Int)), .sc (.int .u64 (j.id : Int)), .sc (.int .i64 (i : Int)), .sc (.int .i64 j.tim), .sc (.int .i64 j.lim)] 109) := by rw [← hK]; simp [Heap.set]
            clear hK h17
            refine go_draw2 13 [0, 1, 2, 3, 5, 6, 8, 9, 10] [4, 7, 11, 12] K3 f_mixed (by decide +kernel) (HC.refl _) ?_
            simp -implicitDefEqProofs [r9, r16, q17, hszM, hpi, hpx, hpx2]
            have hb5 : xs.length ≤ 1001000 := by omega
            refine aes_growsF el_97 (GrowsF.zero (H0 := K3)) (by simp) hszT (by simp [List.length_take]; omega) (by simp [List.length_take, maxLen]; omega) fun t1 G1 hg1 => ?_
            rw [List.nil_append] at hg1 ⊢
            simp -implicitDefEqProofs
            refine aes_growsF el_97 hg1 hszT (by simp [szs]) (by simp [List.length_take]; omega) (by simp [List.length_take, maxLen]; omega) fun t2 G2 hg2 => ?_
            simp -implicitDefEqProofs
            refine aes_growsF el_97 hg2 (by simp [hszT]) hszD (by simp [List.length_take]; omega) (by simp [List.length_take, maxLen]; omega) fun t3 G3 hg3 => ?_
            rw [hgen] at hg3 ⊢
            simp -implicitDefEqProofs [r15, hwk]
            exact AGo.again ih2 (m' := L.length - (k + 1)) (by omega) (HLe.refl _) ⟨k + 1, insP M' (t, i), t3, rfl, by omega, hput, ins_le hle', by rw [ins_len]; omega, by simp [r0], by simp [r1], by simp [r2], by simp [r3], by simp, by simp [r10], by simp [r11], by simp [r14], by simp, (hle2.trans l3).trans hg3.le⟩
        · have hkn : ¬ k < L.length := by omega
          rw [List.drop_of_length_le hkl] at hput
          obtain rfl : M' = PM := hput
          simp -implicitDefEqProofs [r14, r15, hkn]
          exact hk' _ _ ⟨tk', by simp [r0], by simp [r1], by simp [r2], by simp [r3], by simp [r9], by simp [r10], hle2⟩
      · clear r0 r1 r2 r3 r9 r10
        rintro ρ' K' ⟨tk', r0, r1, r2, r3, r9, r10, hle2⟩
        simp -implicitDefEqProofs [r10, hwi]
        exact AGo.again ih (m' := js.length - (i + 1)) (by omega) (HLe.refl _) ⟨i + 1, putRow M i L, tk', rfl, by omega, hput, putRow_le i L M hle, by rw [putRow_len]; omega, by simp [r0], by simp [r1], by simp [r2], by simp [r3], by simp [r9], by simp, l1.trans hle2⟩
    · have hl : liveJ j = false := by unfold liveJ; rw [hp]; simp [hma]
      rw [l0, hl, if_neg (by simp)] at hput
      simp -implicitDefEqProofs [q11, hp, r10, hwi, hma]
      exact AGo.again ih (m' := js.length - (i + 1)) (by omega) (HLe.refl _) ⟨i + 1, M, tk, rfl, by omega, hput, hle, by omega, by simp [r0], by simp [r1], by simp [r2], by simp [r3], by simp [r9], by simp, l1⟩
  · have hn : ¬ i < js.length := by omega
    rw [List.drop_of_length_le hge] at hput
    obtain rfl : M = N := hput
    have hRl : R.map piAV = (M.map (rItAV js)).take most.toNat := by
      rw [← hR2, List.map_map, ← List.map_take]; rfl
    rw [hRl]
    by_cases hml : most < (M.length : Int)
    · have hm0 : 0 ≤ most := by omega
      have hm2 : most ≤ (M.length : Int) := by omega
      have hsz : szs 5 (M.map (rItAV js)) = true := szs_map (f := rItAV js) (fun _ => rfl) _
      simp -implicitDefEqProofs [r0, r3, r9, r10, hn, hml, hm0, hm2, hsz]
      exact hH.wk
    · rw [List.take_of_length_le (by rw [hMl]; omega)]
      simp -implicitDefEqProofs [r0, r3, r9, r10, hn, hml]
      exact hH.wk
end Go.Proofs.YtmoncokklkiikaaGreatDoor
namespace Go.Proofs.YtmoncokklkiikaaGreatDoor
open Rg Go
variable {H : Heap}
def ty5 : List UInt8 := [48, 32, 42, 32, 42, 32, 42, 32, 42]
def yx5 : Ex := ⟨⟨1, false⟩, ⟨16777215, true⟩, ⟨4294967294, true⟩, ⟨8190, true⟩, ⟨127, true⟩⟩
set_option maxRecDepth 100000 in
theorem ky5 : cronK ty5 = (yx5, 0) := by decide +kernel
theorem bit0 : ∀ m, m < 60 → hasB yx5.a.bits ((m : Nat) : Int) = true → m = 0 := by decide +kernel
theorem fire5 : ∀ i, i < 25 → fireB yx5 (3600 * i) = true := by decide +kernel
end Go.Proofs.YtmoncokklkiikaaGreatDoor
