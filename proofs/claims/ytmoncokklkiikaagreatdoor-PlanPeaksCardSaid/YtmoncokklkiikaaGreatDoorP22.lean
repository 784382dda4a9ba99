/- Plans' answers: items, peaks, gaps. make of a row of elements of one cell. What clashes: the program's, and the document's. What clashes, as the document has it. -/
import Derived.Test.YtmoncokklkiikaaGreatDoorP21
import Derived.Test.YtmoncokklkiikaaGreatDoorP09
import Derived.Laws.MakeOwn
set_option linter.unusedSimpArgs false
set_option linter.unusedVariables false
set_option linter.unnecessarySimpa false
namespace Go.Proofs.YtmoncokklkiikaaGreatDoor
open Rg Go
variable {H : Heap}
def planI (js : List Jb) (fr tt most : Int) : List PI := ((planZ js fr tt).take most.toNat).map (itemOf js)
theorem planZ_mem {js : List Jb} {fr tt : Int} {z : PIt} (h : z ∈ planZ js fr tt) : momP fr = true ∧ momP tt = true ∧ z ∈ planL js fr.toNat tt.toNat := by
  unfold planZ at h
  split at h
  · rename_i hc; exact ⟨hc.1, hc.2.1, h⟩
  · cases h
theorem planI_ok {js : List Jb} {fr tt most : Int} : ∀ y ∈ planI js fr tt most, y.ok := fun y hy => by
  obtain ⟨z, hz, rfl⟩ := List.mem_map.1 hy
  obtain ⟨_, h2, h3⟩ := planZ_mem (List.mem_of_mem_take hz)
  have := momP_iff.1 h2
  exact planItem_ok (by omega) h3
theorem planI_len (js : List Jb) (fr tt most : Int) : (planI js fr tt most).length ≤ most.toNat := by
  unfold planI
  rw [List.length_map, List.length_take]
  omega
structure JobsOk (js : List Jb) : Prop where
  len : js.length ≤ 1000000
  ex : ∀ j ∈ js, j.ex.length ≤ 9223372036854775807
  dep : ∀ j ∈ js, j.deps.length ≤ 1000000
  id : (js.map Jb.id).Nodup
theorem c_runsI (hG : Glob H) (hT : GlobT H) {js : List Jb} (hj : JobsOk js) (fr tt most : Int) (hmost : most ≤ 1000000) :
    AOk Tryz.prog 127 [.sl (jobsAV js) .no, .sc (.int .i64 fr), .sc (.int .i64 tt), .sc (.int .i64 most)] H (.sl ((planI js fr tt most).map runAV) .no) H := by
  have := c_runs hG hT fr tt most hj.len hj.ex hj.dep hj.id hmost
  unfold planI
  rw [List.map_map]
  exact this
abbrev pitAV (y : PI) : AV := .agg [.sc (.int .i64 (y.at_ : Int)), .sc (.int .u64 (y.job : Int))]
set_option maxHeartbeats 4000000 in
theorem c_pFirst (hG : Glob H) (hT : GlobT H) {js : List Jb} (hj : JobsOk js) (fr tt most : Int) (hmost : most ≤ 1000000) :
    AOk Tryz.prog 61 [.sl (jobsAV js) .no, .sc (.int .i64 fr), .sc (.int .i64 tt), .sc (.int .i64 most)] H (.sl ((planI js fr tt most).map pitAV) .no) H := by
  have hr := c_runsI hG hT hj fr tt most hmost
  have hLm := planI_len js fr tt most
  generalize planI js fr tt most = L at *
  refine ACalls.into Tryz.func61 rfl Tryz.ntmps61 Tryz.results61 (by simp) ?_
  simp -implicitDefEqProofs
  refine ACall.eq hr ?_
  simp -implicitDefEqProofs
  refine AGo.rounds (fun μ ρ K => ∃ (i : Nat) (tk : Rg.Tok) (K3 : Heap), μ = L.length - i ∧ i ≤ L.length ∧ ρ 9 = .sl ((L.take i).map pitAV) tk ∧ ρ 16 = .sl (L.map runAV) .no ∧ ρ 17 = .sc (.int .i64 (L.length : Int)) ∧ ρ 18 = .sc (.int .i64 (i : Int)) ∧ Grows H ((L.take i).map pitAV) 2 111 tk K3 ∧ HLe K3 K) ?_ (m := L.length) (HLe.refl _)
    ⟨0, .nil, H, by omega, by omega, by simp, by simp, by simp, by simp, .zero, HLe.refl _⟩
  rintro μ ρ K ih ⟨i, tk, K3, rfl, hi, r9, r16, r17, r18, hg, hle⟩
  rcases Nat.lt_or_ge i L.length with hlt | hge
  · obtain ⟨x, hx, _⟩ := getAt hlt
    have hwi : IntKind.i64.wrap ((i : Int) + 1) = ((i + 1 : Nat) : Int) := wadd (b := 1) rfl (by omega)
    have hd : (L.take (i + 1)).map pitAV = (L.take i).map pitAV ++ [pitAV x] := by
      rw [List.take_succ_eq_append_getElem hlt, List.map_append, hx]; rfl
    have hxl : ((L.take i).map pitAV).length = i := by rw [List.length_map, List.length_take]; omega
    have hsz : szs 2 ((L.take i).map pitAV) = true := szs_map (f := pitAV) (fun _ => rfl) _
    generalize (L.take i).map pitAV = xs at *
    simp -implicitDefEqProofs [r16, r17, r18, hlt, hx]
    refine AAlloc.intro fun b5 h5 => ?_
    simp -implicitDefEqProofs [r9]
    refine AApp.grows el_105 hg (hle.trans (HLe.set_fresh h5)) (by simp) hsz (by simp [szs]) (by simp; omega) (by simp [maxLen]; omega) fun t' K4 Hn hg' hl' => ?_
    simp -implicitDefEqProofs [r18, hwi]
    refine AGo.again ih (m' := L.length - (i + 1)) (by omega) (HLe.refl _) ⟨i + 1, t', K4, rfl, by omega, by simp [hd], by simp [r16], by simp [r17], by simp, ?_, hl'⟩
    rw [hd]
    exact hg'
  · have hn : ¬ i < L.length := by omega
    rw [List.take_of_length_le hge] at r9 hg
    simp -implicitDefEqProofs [r9, r17, r18, hn]
    exact (hg.le.trans hle).wk
set_option maxHeartbeats 8000000 in
theorem c_pPeak (hG : Glob H) (hT : GlobT H) {js : List Jb} (hj : JobsOk js) (fr tt most : Int) (hmost : most ≤ 1000000) :
    AOk Tryz.prog 53 [.sl (jobsAV js) .no, .sc (.int .i64 fr), .sc (.int .i64 tt), .sc (.int .i64 most)] H (.tup [.sc (.int .i64 ((peakP (planI js fr tt most)).1 : Int)), .sc (.int .i64 ((peakP (planI js fr tt most)).2 : Int))]) H := by
  have hr := c_runsI hG hT hj fr tt most hmost
  have hLm := planI_len js fr tt most
  have hok := planI_ok (js := js) (fr := fr) (tt := tt) (most := most)
  generalize planI js fr tt most = L at *
  obtain ⟨R, hR⟩ : ∃ R, peakP L = R := ⟨_, rfl⟩
  rw [hR]
  refine ACalls.into Tryz.func53 rfl Tryz.ntmps53 Tryz.results53 (by simp) ?_
  simp -implicitDefEqProofs
  refine ACall.eq hr ?_
  simp -implicitDefEqProofs
  refine AGo.rounds (fun μ ρ K => ∃ (i : Nat) (s : Nat × Nat), μ = L.length - i ∧ i ≤ L.length ∧ peakGo L (L.drop i) s = R ∧ ρ 10 = .sl (L.map runAV) .no ∧ ρ 21 = .sl (L.map runAV) .no ∧ ρ 22 = .sc (.int .i64 (L.length : Int)) ∧ ρ 8 = .sc (.int .i64 (s.1 : Int)) ∧ ρ 9 = .sc (.int .i64 (s.2 : Int)) ∧ ρ 23 = .sc (.int .i64 (i : Int)) ∧ HLe H K) ?_ (m := L.length) (HLe.refl _)
    ⟨0, (0, 0), by omega, by omega, hR, by simp, by simp, by simp, by simp, by simp, by simp, HLe.refl _⟩
  rintro μ ρ K ih ⟨i, s, rfl, hi, hgo, r10, r21, r22, r8, r9, r23, hle⟩
  rcases Nat.lt_or_ge i L.length with hlt | hge
  · obtain ⟨x, hx, hx'⟩ := getAt hlt
    have hxok : x.ok := hok x (List.mem_of_getElem? hx')
    rw [List.drop_eq_getElem_cons hlt, peakGo, hx] at hgo
    have hwi : IntKind.i64.wrap ((i : Int) + 1) = ((i + 1 : Nat) : Int) := wadd (b := 1) rfl (by omega)
    simp -implicitDefEqProofs [r21, r22, r23, hlt, hx]
    refine AAlloc.intro fun b12 h12 => ?_
    simp -implicitDefEqProofs
    generalize hK1 : Heap.set K b12 _ = K1
    have l1 : HLe H K1 := by rw [← hK1]; exact hle.trans (HLe.set_fresh h12)
    have k12 : K1 b12 = some (.cells (runC x) 189) := by rw [← hK1]; simp [Heap.set]
    clear hK1 h12 hle
    simp -implicitDefEqProofs [r10]
    refine AGo.joinLoop (fun ρ' K' => ρ' 10 = .sl (L.map runAV) .no ∧ ρ' 21 = .sl (L.map runAV) .no ∧ ρ' 22 = .sc (.int .i64 (L.length : Int)) ∧ ρ' 8 = .sc (.int .i64 (s.1 : Int)) ∧ ρ' 9 = .sc (.int .i64 (s.2 : Int)) ∧ ρ' 11 = .sc (.int .i64 (i : Int)) ∧ ρ' 23 = .sc (.int .i64 (i : Int)) ∧ ρ' 13 = .sc (.int .i64 (cntP L x.at_ : Int)) ∧ HLe H K') (fun k' hk' => ?_) ?_
    · refine AGo.rounds (fun μ ρ' K' => ∃ k : Nat, μ = L.length - k ∧ k ≤ L.length ∧ ρ' 10 = .sl (L.map runAV) .no ∧ ρ' 21 = .sl (L.map runAV) .no ∧ ρ' 22 = .sc (.int .i64 (L.length : Int)) ∧ ρ' 8 = .sc (.int .i64 (s.1 : Int)) ∧ ρ' 9 = .sc (.int .i64 (s.2 : Int)) ∧ ρ' 11 = .sc (.int .i64 (i : Int)) ∧ ρ' 12 = ptr b12 ∧ ρ' 23 = .sc (.int .i64 (i : Int)) ∧ ρ' 28 = .sl (L.map runAV) .no ∧ ρ' 29 = .sc (.int .i64 (L.length : Int)) ∧ ρ' 13 = .sc (.int .i64 (cntP (L.take k) x.at_ : Int)) ∧ ρ' 30 = .sc (.int .i64 (k : Int)) ∧ HLe K1 K') ?_ (m := L.length) (HLe.refl _)
        ⟨0, by omega, by omega, by simp [r10], by simp [r21], by simp [r22], by simp [r8], by simp [r9], by simp, by simp, by simp [r23], by simp, by simp, by simp [cntP], by simp, HLe.refl _⟩
      clear ih hgo r10 r21 r22 r8 r9 r23
      rintro μ ρ' K' ih2 ⟨k, rfl, hk, r10, r21, r22, r8, r9, r11, r12, r23, r28, r29, r13, r30, hle⟩
      rcases Nat.lt_or_ge k L.length with hkl | hkl
      · obtain ⟨y, hy, hy'⟩ := getAt hkl
        have hyok : y.ok := hok y (List.mem_of_getElem? hy')
        unfold PI.ok at hxok hyok
        have hct := cntP_take hkl x.at_
        rw [hy] at hct
        have hcl := cntP_le (L.take k) x.at_
        rw [List.length_take] at hcl
        generalize cntP (L.take k) x.at_ = c at *
        have hwk : IntKind.i64.wrap ((k : Int) + 1) = ((k + 1 : Nat) : Int) := wadd (b := 1) rfl (by omega)
        have hwc : IntKind.i64.wrap ((c : Int) + 1) = ((c + 1 : Nat) : Int) := wadd (b := 1) rfl (by omega)
        have i1 : (y.at_ : Int) ≤ (x.at_ : Int) ↔ y.at_ ≤ x.at_ := by omega
        have i2 : (x.at_ : Int) < (y.at_ : Int) + (y.tmo : Int) ↔ x.at_ < y.at_ + y.tmo := by omega
        have q12 := hle _ _ k12
        simp -implicitDefEqProofs [r28, r29, r30, hkl, hy]
        refine AAlloc.intro fun b15 h15 => ?_
        have n12 : b12 ≠ b15 := by rintro rfl; rw [q12] at h15; cases h15
        have hl2 : ∀ o, HLe K1 (K'.set b15 o) := fun o => hle.trans (HLe.set_fresh h15)
        by_cases h1 : y.at_ ≤ x.at_
        · by_cases h2 : x.at_ < y.at_ + y.tmo
          · have hr : runsAt x.at_ y = true := by unfold runsAt; simp [h1, h2]
            rw [hr, if_pos rfl] at hct
            simp -implicitDefEqProofs [r12, q12, n12, i1, i2, h1, h2, r13, r30, hwk, hwc]
            exact AGo.again ih2 (m' := L.length - (k + 1)) (by omega) (HLe.refl _) ⟨k + 1, rfl, by omega, by simp [r10], by simp [r21], by simp [r22], by simp [r8], by simp [r9], by simp [r11], by simp [r12], by simp [r23], by simp [r28], by simp [r29], by simp [hct], by simp, hl2 _⟩
          · have hr : runsAt x.at_ y = false := by unfold runsAt; simp [h2]
            rw [hr, if_neg (by simp)] at hct
            simp -implicitDefEqProofs [r12, q12, n12, i1, i2, h1, h2, r13, r30, hwk, hwc]
            exact AGo.again ih2 (m' := L.length - (k + 1)) (by omega) (HLe.refl _) ⟨k + 1, rfl, by omega, by simp [r10], by simp [r21], by simp [r22], by simp [r8], by simp [r9], by simp [r11], by simp [r12], by simp [r23], by simp [r28], by simp [r29], by simp [r13, hct], by simp, hl2 _⟩
        · have hr : runsAt x.at_ y = false := by unfold runsAt; simp [h1]
          rw [hr, if_neg (by simp)] at hct
          simp -implicitDefEqProofs [r12, q12, n12, i1, h1, r13, r30, hwk, hwc]
          exact AGo.again ih2 (m' := L.length - (k + 1)) (by omega) (HLe.refl _) ⟨k + 1, rfl, by omega, by simp [r10], by simp [r21], by simp [r22], by simp [r8], by simp [r9], by simp [r11], by simp [r12], by simp [r23], by simp [r28], by simp [r29], by simp [r13, hct], by simp, hl2 _⟩
      · have hk2 : ¬ k < L.length := by omega
        rw [List.take_of_length_le hkl] at r13
        simp -implicitDefEqProofs [r29, r30, hk2]
        exact hk' _ _ ⟨by simp [r10], by simp [r21], by simp [r22], by simp [r8], by simp [r9], by simp [r11], by simp [r23], by simp [r13], l1.trans hle⟩
    · clear r10 r21 r22 r8 r9 r23
      rintro ρ' K' ⟨r10, r21, r22, r8, r9, r11, r23, r13, hle⟩
      generalize cntP L x.at_ = c at *
      have i1 : (s.1 : Int) < (c : Int) ↔ s.1 < c := by omega
      by_cases h1 : s.1 < c
      · rw [if_pos h1] at hgo
        simp -implicitDefEqProofs [r13, r8, i1, h1]
        refine go_draw 9 f_mixed (by decide +kernel) ?_
        simp -implicitDefEqProofs [r10, r11, r13, r23, hlt, hx, hwi]
        exact AGo.again ih (m' := L.length - (i + 1)) (by omega) (HLe.refl _) ⟨i + 1, (c, x.at_), rfl, by omega, hgo, by simp [r10], by simp [r21], by simp [r22], by simp, by simp, by simp, hle⟩
      · rw [if_neg h1] at hgo
        simp -implicitDefEqProofs [r13, r8, i1, h1, r23, hwi]
        exact AGo.again ih (m' := L.length - (i + 1)) (by omega) (HLe.refl _) ⟨i + 1, s, rfl, by omega, hgo, by simp [r10], by simp [r21], by simp [r22], by simp [r8], by simp [r9], by simp, hle⟩
  · have hn : ¬ i < L.length := by omega
    rw [List.drop_of_length_le hge] at hgo
    unfold peakGo at hgo
    subst hgo
    simp -implicitDefEqProofs [r22, r23, r8, r9, hn]
    exact hle.wk
def gapPre (fr : Nat) (L : List PI) (i : Nat) : List AV := (fr :: (L.take i).map PI.at_).map tAV
set_option maxHeartbeats 8000000 in
theorem c_pGap (hG : Glob H) (hT : GlobT H) {js : List Jb} (hj : JobsOk js) (fr tt most : Int) (hmost : most ≤ 1000000) :
    AOk Tryz.prog 55 [.sl (jobsAV js) .no, .sc (.int .i64 fr), .sc (.int .i64 tt), .sc (.int .i64 most)] H (.tup [.sc (.int .i64 ((gapP (planI js fr tt most) fr tt).1 : Int)), .sc (.int .i64 ((gapP (planI js fr tt most) fr tt).2 : Int))]) H := by
  have hr := fun K (h1 : Glob K) (h2 : GlobT K) => c_runsI h1 h2 hj fr tt most hmost
  have hLm := planI_len js fr tt most
  have hok := planI_ok (js := js) (fr := fr) (tt := tt) (most := most)
  generalize planI js fr tt most = L at *
  have hm1 := fun K : Heap => c_planMoment (H := K) fr
  have hm2 := fun K : Heap => c_planMoment (H := K) tt
  unfold gapP
  refine ACalls.into Tryz.func55 rfl Tryz.ntmps55 Tryz.results55 (by simp) ?_
  simp -implicitDefEqProofs
  refine ACall.eq (hm1 _) ?_
  cases h1 : momP fr with
  | false => simp -implicitDefEqProofs
  | true =>
  simp -implicitDefEqProofs
  first | refine ACall.eq (hm2 _) ?_ | refine AQS.eq (hm2 _) ?_
  cases h2 : momP tt with
  | false => simp -implicitDefEqProofs
  | true =>
  by_cases h3 : fr < tt
  · rw [momP_iff] at h1 h2
    obtain ⟨fr, rfl⟩ := Int.eq_ofNat_of_zero_le h1.1
    obtain ⟨tt, rfl⟩ := Int.eq_ofNat_of_zero_le h2.1
    have h3' : ¬ (tt : Int) ≤ (fr : Int) := by omega
    rw [if_pos ⟨rfl, h3⟩, Int.toNat_natCast, Int.toNat_natCast]
    obtain ⟨R, hR⟩ : ∃ R, gapGo (L.map PI.at_ ++ [tt]) (fr, fr, fr) = R := ⟨_, rfl⟩
    rw [hR]
    simp -implicitDefEqProofs [h3, h3']
    refine ACall.eq (hr _ hG hT) ?_
    simp -implicitDefEqProofs
    have hfull : GrowsS H (gapPre fr L 0) 1 2 .full H := .inl ⟨rfl, rfl⟩
    refine AGo.joinLoop (fun ρ' K' => ∃ tk K3, ρ' 2 = .sc (.int .i64 (tt : Int)) ∧ ρ' 10 = .sl (gapPre fr L L.length) tk ∧ GrowsS H (gapPre fr L L.length) 1 2 tk K3 ∧ HLe K3 K') (fun k' hk' => ?_) ?_
    · refine AGo.rounds (fun μ ρ K => ∃ (i : Nat) (tk : Rg.Tok) (K3 : Heap), μ = L.length - i ∧ i ≤ L.length ∧ ρ 2 = .sc (.int .i64 (tt : Int)) ∧ ρ 10 = .sl (gapPre fr L i) tk ∧ ρ 33 = .sl (L.map runAV) .no ∧ ρ 34 = .sc (.int .i64 (L.length : Int)) ∧ ρ 35 = .sc (.int .i64 (i : Int)) ∧ GrowsS H (gapPre fr L i) 1 2 tk K3 ∧ HLe K3 K) ?_ (m := L.length) (HLe.refl _)
        ⟨0, .full, H, by omega, by omega, by simp, by simp [gapPre], by simp, by simp, by simp, hfull, HLe.refl _⟩
      rintro μ ρ K ih ⟨i, tk, K3, rfl, hi, r2, r10, r33, r34, r35, hg, hle⟩
      rcases Nat.lt_or_ge i L.length with hlt | hge
      · obtain ⟨x, hx, _⟩ := getAt hlt
        have hwi : IntKind.i64.wrap ((i : Int) + 1) = ((i + 1 : Nat) : Int) := wadd (b := 1) rfl (by omega)
        have hd : gapPre fr L (i + 1) = gapPre fr L i ++ [tAV x.at_] := by
          unfold gapPre
          rw [List.take_succ_eq_append_getElem hlt, hx]; simp
        have hxl : (gapPre fr L i).length = i + 1 := by simp [gapPre]; omega
        have hsz : szs 1 (gapPre fr L i) = true := szs_map (f := tAV) (fun _ => rfl) _
        generalize gapPre fr L i = xs at *
        simp -implicitDefEqProofs [r33, r34, r35, hlt, hx]
        refine AAlloc.intro fun b5 h5 => ?_
        simp -implicitDefEqProofs [r10]
        refine growsS_app el_36 hg (hle.trans (HLe.set_fresh h5)) (by simp) hsz (by simp [szs]) (by simp; omega) (by simp [maxLen]; omega) fun t' K4 Hn hg' hl' => ?_
        simp -implicitDefEqProofs [r35, hwi]
        refine AGo.again ih (m' := L.length - (i + 1)) (by omega) (HLe.refl _) ⟨i + 1, t', K4, rfl, by omega, by simp [r2], by simp [hd], by simp [r33], by simp [r34], by simp, ?_, hl'⟩
        rw [hd]
        exact hg'
      · have hn : ¬ i < L.length := by omega
        obtain rfl : i = L.length := by omega
        simp -implicitDefEqProofs [r34, r35, hn]
        exact hk' _ _ ⟨tk, K3, by simp [r2], by simp [r10], hg, hle⟩
    · rintro ρ1 K1 ⟨tk, K3, r2, r10, hg, hle⟩
      have hsz : szs 1 (gapPre fr L L.length) = true := szs_map (f := tAV) (fun _ => rfl) _
      have hxl : (gapPre fr L L.length).length = L.length + 1 := by simp [gapPre]
      obtain ⟨M, hM⟩ : ∃ M, fr :: (L.map PI.at_ ++ [tt]) = M := ⟨_, rfl⟩
      have hd : gapPre fr L L.length ++ [tAV tt] = M.map tAV := by unfold gapPre; rw [← hM]; simp
      have hMl : M.length = L.length + 2 := by rw [← hM]; simp
      have hMb : ∀ x ∈ M, x < 13569465600 := by
        intro x hx
        rw [← hM] at hx
        simp only [List.mem_cons, List.mem_append, List.mem_map, List.not_mem_nil, or_false] at hx
        rcases hx with rfl | ⟨y, hy, rfl⟩ | rfl
        · omega
        · exact (hok y hy).1
        · omega
      have hM0 : M[0]? = some fr := by rw [← hM]; rfl
      have hM1 : gapGo (M.drop 1) (fr, fr, fr) = R := by rw [← hM]; exact hR
      generalize gapPre fr L L.length = xs at *
      clear hM hR hfull hr hok
      simp -implicitDefEqProofs [r2, r10]
      refine growsS_app el_36 hg hle (by simp) hsz (by simp [szs]) (by simp; omega) (by simp [maxLen]; omega) fun t' K4 Hn hg' hl' => ?_
      rw [hd]
      have h0 : 0 < M.length := by omega
      have hM0' : M[0] = fr := by rw [List.getElem?_eq_getElem h0] at hM0; exact Option.some.inj hM0
      simp -implicitDefEqProofs
      first | refine go_draw 14 f_mixed (by decide +kernel) ?_ | refine go_draw 11 f_mixed (by decide +kernel) ?_ | refine go_draw 8 f_mixed (by decide +kernel) ?_
      simp -implicitDefEqProofs [h0, hM0, hM0']
      have hW : HWk H Hn := (hg'.le.trans hl').wk
      refine AGo.rounds (fun μ ρ K => ∃ (i b e l : Nat), μ = M.length - i ∧ 1 ≤ i ∧ i ≤ M.length ∧ M[i - 1]? = some l ∧ gapGo (M.drop i) (b, e, l) = R ∧ b < 13569465600 ∧ e < 13569465600 ∧ l < 13569465600 ∧ ρ 10 = .sl (M.map tAV) t' ∧ ρ 8 = .sc (.int .i64 (b : Int)) ∧ ρ 9 = .sc (.int .i64 (e : Int)) ∧ ρ 13 = .sc (.int .i64 (i : Int)) ∧ K = Hn) ?_ (m := M.length - 1) (HLe.refl _)
        ⟨1, fr, fr, fr, rfl, by omega, by omega, hM0, hM1, by omega, by omega, by omega, by simp, by simp, by simp, by simp, rfl⟩
      rintro μ ρ K ih ⟨i, b, e, l, rfl, h1i, hi, hMl', hgo, hb, he, hl, r10, r8, r9, r13, rfl⟩
      rcases Nat.lt_or_ge i M.length with hlt | hge
      · obtain ⟨x, hx, hx'⟩ := getAt hlt
        have hxb := hMb x (List.mem_of_getElem? hx')
        rw [List.drop_eq_getElem_cons hlt, gapGo, hx] at hgo
        obtain ⟨i0, hi0⟩ : ∃ q, i - 1 = q := ⟨_, rfl⟩
        rw [hi0] at hMl'
        have hlt0 : i0 < M.length := by omega
        have hMl0 : M[i0] = l := by rw [List.getElem?_eq_getElem hlt0] at hMl'; exact Option.some.inj hMl'
        have hws : IntKind.i64.wrap ((i : Int) - 1) = (i0 : Int) := wsub (b := 1) hi0 (by omega) (by omega)
        have hwi : IntKind.i64.wrap ((i : Int) + 1) = ((i + 1 : Nat) : Int) := wadd (b := 1) rfl (by omega)
        have w1 : IntKind.i64.wrap ((x : Int) - (l : Int)) = (x : Int) - (l : Int) := wrap_i64 (by omega) (by omega)
        have w2 : IntKind.i64.wrap ((e : Int) - (b : Int)) = (e : Int) - (b : Int) := wrap_i64 (by omega) (by omega)
        simp -implicitDefEqProofs [r10, r13, hlt]
        first | refine go_draw 14 f_mixed (by decide +kernel) ?_ | refine go_draw 11 f_mixed (by decide +kernel) ?_ | refine go_draw 8 f_mixed (by decide +kernel) ?_
        by_cases hc : (e : Int) - b < (x : Int) - l
        · rw [if_pos hc] at hgo
          simp -implicitDefEqProofs [r10, r13, r8, r9, hlt, hx, hlt0, hMl0, hws, w1, w2, hc]
          first | refine go_draw 14 f_mixed (by decide +kernel) ?_ | refine go_draw 11 f_mixed (by decide +kernel) ?_ | refine go_draw 8 f_mixed (by decide +kernel) ?_
          simp -implicitDefEqProofs [r10, r13, r8, r9, hlt, hx, hlt0, hMl0, hws, hwi]
          exact AGo.again ih (m' := M.length - (i + 1)) (by omega) (HLe.refl _) ⟨i + 1, l, x, x, rfl, by omega, by omega, hx', hgo, hl, hxb, hxb, by simp [r10], by simp, by simp, by simp, rfl⟩
        · rw [if_neg hc] at hgo
          simp -implicitDefEqProofs [r10, r13, r8, r9, hlt, hx, hlt0, hMl0, hws, w1, w2, hc, hwi]
          exact AGo.again ih (m' := M.length - (i + 1)) (by omega) (HLe.refl _) ⟨i + 1, b, e, x, rfl, by omega, by omega, hx', hgo, hb, he, hxb, by simp [r10], by simp [r8], by simp [r9], by simp, rfl⟩
      · have hn : ¬ i < M.length := by omega
        rw [List.drop_of_length_le hge] at hgo
        unfold gapGo at hgo
        subst hgo
        simp -implicitDefEqProofs [r10, r13, r8, r9, hn]
        exact hW
  · have h3' : tt ≤ fr := by omega
    rw [if_neg fun h => h3 h.2]
    simp -implicitDefEqProofs [h3, h3']
end Go.Proofs.YtmoncokklkiikaaGreatDoor
namespace Rg
open Go Go.RowKit
variable {P : Program} {H : Heap}
theorem madeCells_one (z : Value) (n : Nat) : madeCells #[z] n = (List.replicate n z).toArray := by
  refine Array.ext (by simp [madeCells]) fun i h1 h2 => ?_
  simp [madeCells, Nat.mod_one]
theorem c_makeSlice1 {T e : TypeId} {by_ n : Nat} {kl kc : IntKind} {z z0 : Value} (he : ElemOk P T e 1 by_) (hz : tzero P e = some z) (hz0 : z.cells = #[z0]) (h1 : z0.oneCell' = true) (hb : n * by_ ≤ 140737488355328) (hm : n ≤ maxLen) :
    ACalls P P.funcs.size (pa 11 T [.sc (.int kl (n : Int)), .sc (.int kc (n : Int))]) H (fun v H' => ∃ g, H g = none ∧ v = .sc (.slice (some ⟨g, 0, none⟩) n n) ∧ H' = H.set g (.cells (List.replicate n (.sc z0)) e)) := by
  refine ACalls.prim fun W0 C w vs hi ha ty => ?_
  obtain ⟨x1, vs1, rfl, hx1, ha⟩ := ha.uncons
  obtain ⟨x2, vs2, rfl, hx2, ha⟩ := ha.uncons
  obtain rfl := ha.nil_inv
  obtain rfl := hx1.sc_inv
  obtain rfl := hx2.sc_inv
  obtain ⟨i, z', hinf, hsz, hby, hzz, hz2⟩ := he.info
  have hT := telem_spec he.el
  have htz : tzero P e = some z' := by unfold tzero; rw [hinf]; simpa using hzz
  obtain rfl : z = z' := by rw [hz] at htz; exact Option.some.inj htz
  have hb' : (i.bytes : Int) * (n : Int) ≤ 281474976710656 := by
    rw [hby, ← Int.natCast_mul, Nat.mul_comm]
    omega
  have hrun := run_make (P := P) w T e i z hT hinf hzz kl kc n n (by omega) (by omega) hb' (by simp [maxLen] at hm; omega)
  rw [Int.toNat_natCast, hsz, Nat.mul_one, hz0, madeCells_one] at hrun
  have hI := hi.allocObj (List.replicate n (.sc z0)) (List.replicate n z0) e (by
    have := relL_scs (C := C) (List.replicate n z0)
    rwa [List.map_replicate] at this) (by
    intro q hq
    rw [List.eq_of_mem_replicate hq]
    exact h1)
  exact ⟨_, _, hrun, _, _, C, ⟨w.heap.size, hi.heap_fresh, rfl, rfl⟩, CLe.refl C, Rel.sc _, hI⟩
end Rg
namespace Go.Proofs.YtmoncokklkiikaaGreatDoor
open Rg Go
variable {H : Heap}
def hit (x y : PI) : Bool := decide (y.place = x.place) && decide (x.at_ < y.at_ + y.tmo)
def hits (kept : List PI) (x : PI) : Nat := (kept.filter (hit x)).length
def clashGo : List PI → List PI × List PI → List PI × List PI
  | [], s => s
  | x :: r, s => clashGo r (if x.lim ≤ (hits s.2 x : Int) then (s.1 ++ [x], s.2) else (s.1, s.2 ++ [x]))
def clashP (L : List PI) : List PI := (clashGo L ([], [])).1
theorem hits_take {L : List PI} {k : Nat} (hk : k < L.length) (x : PI) : hits (L.take (k + 1)) x = hits (L.take k) x + if hit x L[k] = true then 1 else 0 := by
  unfold hits
  rw [List.take_succ_eq_append_getElem hk, List.filter_append, List.length_append]
  congr 1
  cases h : hit x L[k] <;> simp [h]
theorem hits_le (L : List PI) (x : PI) : hits L x ≤ L.length := List.length_filter_le _ _
theorem planI_job {js : List Jb} {fr tt most : Int} {x y : PI} (hx : x ∈ planI js fr tt most) (hy : y ∈ planI js fr tt most) (h : y.place = x.place) : y.job = x.job := by
  obtain ⟨z, _, rfl⟩ := List.mem_map.1 hx
  obtain ⟨w, _, rfl⟩ := List.mem_map.1 hy
  have h' : w.2 = z.2 := h
  unfold itemOf
  simp only [h']
set_option maxHeartbeats 8000000 in
theorem c_pClashes (hG : Glob H) (hT : GlobT H) {js : List Jb} (hj : JobsOk js) (fr tt most : Int) (hmost : most ≤ 1000000) :
    AOk Tryz.prog 59 [.sl (jobsAV js) .no, .sc (.int .i64 fr), .sc (.int .i64 tt), .sc (.int .i64 most)] H (.sl ((clashP (planI js fr tt most)).map pitAV) .no) H := by
  have hr := c_runsI hG hT hj fr tt most hmost
  have hLm := planI_len js fr tt most
  have hok := planI_ok (js := js) (fr := fr) (tt := tt) (most := most)
  have hjb := fun {x y} => planI_job (js := js) (fr := fr) (tt := tt) (most := most) (x := x) (y := y)
  generalize planI js fr tt most = L at *
  obtain ⟨R, hR⟩ : ∃ R, clashP L = R := ⟨_, rfl⟩
  rw [hR]
  refine ACalls.into Tryz.func59 rfl Tryz.ntmps59 Tryz.results59 (by simp) ?_
  simp -implicitDefEqProofs
  refine ACall.eq hr ?_
  simp -implicitDefEqProofs
  clear hr
  refine AGo.rounds (fun μ ρ K => ∃ (i : Nat) (s : List PI × List PI) (t1 t2 : Rg.Tok), μ = L.length - i ∧ i ≤ L.length ∧ (clashGo (L.drop i) s).1 = R ∧ s.1.length ≤ i ∧ s.2.length ≤ i ∧ (∀ y ∈ s.2, y ∈ L) ∧ ρ 9 = .sl (s.1.map pitAV) t1 ∧ ρ 10 = .sl (s.2.map runAV) t2 ∧ ρ 20 = .sl (L.map runAV) .no ∧ ρ 21 = .sc (.int .i64 (L.length : Int)) ∧ ρ 22 = .sc (.int .i64 (i : Int)) ∧ HLe H K ∧
    GrowsK H (s.1.map pitAV).length 2 111 t1 K ∧ GrowsK H (s.2.map runAV).length 5 189 t2 K) ?_ (m := L.length) (HLe.refl _)
    ⟨0, ([], []), .nil, .nil, by omega, by omega, hR, by simp, by simp, by simp, by simp, by simp, by simp, by simp, by simp, HLe.refl _, .inl ⟨rfl, rfl⟩, .inl ⟨rfl, rfl⟩⟩
  rintro μ ρ K ih ⟨i, s, t1, t2, rfl, hi, hgo, hs1, hs2, hsL, r9, r10, r20, r21, r22, hle, hg1, hg2⟩
  obtain ⟨out, kept⟩ := s
  simp only at hs1 hs2 hsL r9 r10 hg1 hg2
  rcases Nat.lt_or_ge i L.length with hlt | hge
  · obtain ⟨x, hx, hx'⟩ := getAt hlt
    have hxL := List.mem_of_getElem? hx'
    have hxok : x.ok := hok x hxL
    rw [List.drop_eq_getElem_cons hlt, clashGo, hx] at hgo
    simp only at hgo
    have hwi : IntKind.i64.wrap ((i : Int) + 1) = ((i + 1 : Nat) : Int) := wadd (b := 1) rfl (by omega)
    simp -implicitDefEqProofs [r20, r21, r22, hlt, hx]
    refine AAlloc.intro fun b12 h12 => ?_
    simp -implicitDefEqProofs
    generalize hK1 : Heap.set K b12 _ = K1
    have l1 : HLe K K1 := by rw [← hK1]; exact HLe.set_fresh h12
    have k12 : K1 b12 = some (.cells (runC x) 189) := by rw [← hK1]; simp [Heap.set]
    clear hK1 h12
    have hle := hle.trans l1
    have hg1 := hg1.up l1
    have hg2 := hg2.up l1
    simp -implicitDefEqProofs [r10]
    refine AGo.joinLoop (fun ρ' K' => ρ' 9 = .sl (out.map pitAV) t1 ∧ ρ' 10 = .sl (kept.map runAV) t2 ∧ ρ' 12 = ptr b12 ∧ ρ' 20 = .sl (L.map runAV) .no ∧ ρ' 21 = .sc (.int .i64 (L.length : Int)) ∧ ρ' 22 = .sc (.int .i64 (i : Int)) ∧ ρ' 13 = .sc (.int .i64 (hits kept x : Int)) ∧ HLe K1 K') (fun k' hk' => ?_) ?_
    · refine AGo.rounds (fun μ ρ' K' => ∃ k : Nat, μ = kept.length - k ∧ k ≤ kept.length ∧ ρ' 9 = .sl (out.map pitAV) t1 ∧ ρ' 10 = .sl (kept.map runAV) t2 ∧ ρ' 12 = ptr b12 ∧ ρ' 20 = .sl (L.map runAV) .no ∧ ρ' 21 = .sc (.int .i64 (L.length : Int)) ∧ ρ' 22 = .sc (.int .i64 (i : Int)) ∧ ρ' 26 = .sl (kept.map runAV) t2 ∧ ρ' 27 = .sc (.int .i64 (kept.length : Int)) ∧ ρ' 13 = .sc (.int .i64 (hits (kept.take k) x : Int)) ∧ ρ' 28 = .sc (.int .i64 (k : Int)) ∧ HLe K1 K') ?_ (m := kept.length) (HLe.refl _)
        ⟨0, by omega, by omega, by simp [r9], by simp [r10], by simp, by simp [r20], by simp [r21], by simp [r22], by simp, by simp, by simp [hits], by simp, HLe.refl _⟩
      clear ih hgo r9 r10 r20 r21 r22
      rintro μ ρ' K' ih2 ⟨k, rfl, hk, r9, r10, r12, r20, r21, r22, r26, r27, r13, r28, hle2⟩
      rcases Nat.lt_or_ge k kept.length with hkl | hkl
      · obtain ⟨y, hy, hy'⟩ := getAt hkl
        have hyL := hsL y (List.mem_of_getElem? hy')
        have hyok : y.ok := hok y hyL
        have hjob := hjb hxL hyL
        unfold PI.ok at hxok hyok
        have hct := hits_take hkl x
        rw [hy] at hct
        have hcl := hits_le (kept.take k) x
        rw [List.length_take] at hcl
        generalize hits (kept.take k) x = c at *
        have hwk : IntKind.i64.wrap ((k : Int) + 1) = ((k + 1 : Nat) : Int) := wadd (b := 1) rfl (by omega)
        have hwc : IntKind.i64.wrap ((c : Int) + 1) = ((c + 1 : Nat) : Int) := wadd (b := 1) rfl (by omega)
        have i1 : (y.job : Int) = (x.job : Int) ↔ y.job = x.job := by omega
        have i3 : (y.place : Int) = (x.place : Int) ↔ y.place = x.place := by omega
        have i2 : (x.at_ : Int) < (y.at_ : Int) + (y.tmo : Int) ↔ x.at_ < y.at_ + y.tmo := by omega
        have q12 := hle2 _ _ k12
        simp -implicitDefEqProofs [r26, r27, r28, hkl, hy]
        refine AAlloc.intro fun b15 h15 => ?_
        have n12 : b12 ≠ b15 := by rintro rfl; rw [q12] at h15; cases h15
        have hl2 : ∀ o, HLe K1 (K'.set b15 o) := fun o => hle2.trans (HLe.set_fresh h15)
        by_cases h1 : y.place = x.place
        · have h0 := hjob h1
          by_cases h2 : x.at_ < y.at_ + y.tmo
          · have hr : hit x y = true := by unfold hit; simp [h1, h2]
            rw [hr, if_pos rfl] at hct
            simp -implicitDefEqProofs [r12, q12, n12, i1, i2, i3, h0, h1, h2, r13, r28, hwk, hwc]
            exact AGo.again ih2 (m' := kept.length - (k + 1)) (by omega) (HLe.refl _) ⟨k + 1, rfl, by omega, by simp [r9], by simp [r10], by simp [r12], by simp [r20], by simp [r21], by simp [r22], by simp [r26], by simp [r27], by simp [hct], by simp, hl2 _⟩
          · have hr : hit x y = false := by unfold hit; simp [h2]
            rw [hr, if_neg (by simp)] at hct
            simp -implicitDefEqProofs [r12, q12, n12, i1, i2, i3, h0, h1, h2, r13, r28, hwk, hwc]
            exact AGo.again ih2 (m' := kept.length - (k + 1)) (by omega) (HLe.refl _) ⟨k + 1, rfl, by omega, by simp [r9], by simp [r10], by simp [r12], by simp [r20], by simp [r21], by simp [r22], by simp [r26], by simp [r27], by simp [r13, hct], by simp, hl2 _⟩
        · have hr : hit x y = false := by unfold hit; simp [h1]
          rw [hr, if_neg (by simp)] at hct
          by_cases h0 : y.job = x.job
          · simp -implicitDefEqProofs [r12, q12, n12, i1, i3, h0, h1, r13, r28, hwk, hwc]
            exact AGo.again ih2 (m' := kept.length - (k + 1)) (by omega) (HLe.refl _) ⟨k + 1, rfl, by omega, by simp [r9], by simp [r10], by simp [r12], by simp [r20], by simp [r21], by simp [r22], by simp [r26], by simp [r27], by simp [r13, hct], by simp, hl2 _⟩
          · simp -implicitDefEqProofs [r12, q12, n12, i1, h0, r13, r28, hwk, hwc]
            exact AGo.again ih2 (m' := kept.length - (k + 1)) (by omega) (HLe.refl _) ⟨k + 1, rfl, by omega, by simp [r9], by simp [r10], by simp [r12], by simp [r20], by simp [r21], by simp [r22], by simp [r26], by simp [r27], by simp [r13, hct], by simp, hl2 _⟩
      · have hk2 : ¬ k < kept.length := by omega
        rw [List.take_of_length_le hkl] at r13
        simp -implicitDefEqProofs [r27, r28, hk2]
        exact hk' _ _ ⟨by simp [r9], by simp [r10], by simp [r12], by simp [r20], by simp [r21], by simp [r22], by simp [r13], hle2⟩
    · clear r9 r10 r20 r21 r22
      rintro ρ' K' ⟨r9, r10, r12, r20, r21, r22, r13, hle2⟩
      have q12 := hle2 _ _ k12
      have hg1 := hg1.up hle2
      have hg2 := hg2.up hle2
      have hle := hle.trans hle2
      generalize hits kept x = c at *
      by_cases h1 : x.lim ≤ (c : Int)
      · rw [if_pos h1] at hgo
        obtain ⟨G0, G, a1, a2, a3, a4⟩ := hg1.grows hle
        have hsz : szs 2 (out.map pitAV) = true := szs_map (f := pitAV) (fun _ => rfl) _
        have hd : out.map pitAV ++ [pitAV x] = (out ++ [x]).map pitAV := by simp
        have hol : (out.map pitAV).length = out.length := by simp
        simp -implicitDefEqProofs [r13, r12, q12, h1, r9]
        refine AApp.grows el_105 a1 a2 (by simp) hsz (by simp [szs]) (by simp; omega) (by simp [maxLen]; omega) fun t' K4 Hn hg' hl' => ?_
        rw [hd] at hg' ⊢
        obtain ⟨b1, b2⟩ := GrowsK.of a3 hg' hl'
        simp -implicitDefEqProofs [r22, hwi]
        exact AGo.again ih (m' := L.length - (i + 1)) (by omega) (HLe.refl _) ⟨i + 1, (out ++ [x], kept), t', t2, rfl, by omega, hgo, by simp; omega, by simp; omega, hsL, by simp, by simp [r10], by simp [r20], by simp [r21], by simp, b2, b1, hg2.other (by decide) a4 hg' hl'⟩
      · rw [if_neg h1] at hgo
        obtain ⟨G0, G, a1, a2, a3, a4⟩ := hg2.grows hle
        have hsz : szs 5 (kept.map runAV) = true := szs_map (f := runAV) (fun _ => rfl) _
        have hd : kept.map runAV ++ [.agg [.sc (.int .i64 (x.at_ : Int)), .sc (.int .u64 (x.job : Int)), .sc (.int .i64 ((x.at_ : Int) + (x.tmo : Int))), .sc (.int .i64 x.lim), .sc (.int .i64 (x.place : Int))]] = (kept ++ [x]).map runAV := by simp
        have hol : (kept.map runAV).length = kept.length := by simp
        simp -implicitDefEqProofs [r13, r12, q12, h1, r10]
        refine AApp.grows el_186 a1 a2 (by simp) hsz (by simp [szs]) (by simp; omega) (by simp [maxLen]; omega) fun t' K4 Hn hg' hl' => ?_
        rw [hd] at hg' ⊢
        obtain ⟨b1, b2⟩ := GrowsK.of a3 hg' hl'
        simp -implicitDefEqProofs [r22, hwi]
        exact AGo.again ih (m' := L.length - (i + 1)) (by omega) (HLe.refl _) ⟨i + 1, (out, kept ++ [x]), t1, t', rfl, by omega, hgo, by simp; omega, by simp; omega, (fun y hy => by
          rcases List.mem_append.1 hy with h | h
          · exact hsL y h
          · rw [List.mem_singleton.1 h]; exact hxL), by simp [r9], by simp, by simp [r20], by simp [r21], by simp, b2, hg1.other (by decide) a4 hg' hl', b1⟩
  · have hn : ¬ i < L.length := by omega
    rw [List.drop_of_length_le hge] at hgo
    unfold clashGo at hgo
    subst hgo
    simp -implicitDefEqProofs [r9, r21, r22, hn]
    exact hle.wk
end Go.Proofs.YtmoncokklkiikaaGreatDoor
namespace Go.Proofs.YtmoncokklkiikaaGreatDoor
open Rg Go
variable {H : Heap}
def pi0 : PI := ⟨0, 0, 0, 0, 0⟩
def clashGoI : Nat → List PI → List Nat × List PI → List Nat × List PI
  | _, [], s => s
  | i, x :: r, s => clashGoI (i + 1) r (if x.lim ≤ (hits s.2 x : Int) then (s.1 ++ [i], s.2) else (s.1, s.2 ++ [x]))
def clashIx (L : List PI) : List Nat := (clashGoI 0 L ([], [])).1
theorem clash_ix (L : List PI) : ∀ (m i : Nat) (I : List Nat) (kept : List PI), L.length - i = m → (clashGoI i (L.drop i) (I, kept)).1.map (fun k => L.getD k pi0) = (clashGo (L.drop i) (I.map (fun k => L.getD k pi0), kept)).1
  | 0, i, I, kept, h => by
    rw [List.drop_of_length_le (by omega)]
    rfl
  | m + 1, i, I, kept, h => by
    have hlt : i < L.length := by omega
    have hg : L.getD i pi0 = L[i] := by rw [List.getD_eq_getElem?_getD, List.getElem?_eq_getElem hlt]; rfl
    rw [List.drop_eq_getElem_cons hlt, clashGoI, clashGo]
    by_cases hc : L[i].lim ≤ (hits kept L[i] : Int)
    · rw [if_pos hc, if_pos hc, clash_ix L m (i + 1) _ _ (by omega), List.map_append, List.map_singleton, hg]
    · rw [if_neg hc, if_neg hc, clash_ix L m (i + 1) _ _ (by omega)]
theorem clashIx_map (L : List PI) : (clashIx L).map (fun k => L.getD k pi0) = clashP L := clash_ix L L.length 0 [] [] (by omega)
theorem clashGoI_lt : ∀ (r : List PI) (i : Nat) (s : List Nat × List PI) (n : Nat), i + r.length ≤ n → (∀ k ∈ s.1, k < n) → ∀ k ∈ (clashGoI i r s).1, k < n
  | [], _, _, _, _, hs => hs
  | x :: r, i, s, n, h, hs => by
    rw [clashGoI]
    rw [List.length_cons] at h
    refine clashGoI_lt r (i + 1) _ n (by omega) ?_
    split
    · intro k hk
      rcases List.mem_append.1 hk with h1 | h1
      · exact hs k h1
      · rw [List.mem_singleton.1 h1]; omega
    · exact hs
theorem clashIx_lt (L : List PI) : ∀ k ∈ clashIx L, k < L.length := clashGoI_lt L 0 ([], []) L.length (by omega) (by simp)
theorem clashGoI_len : ∀ (r : List PI) (i : Nat) (s : List Nat × List PI), (clashGoI i r s).1.length ≤ s.1.length + r.length
  | [], _, _ => by simp [clashGoI]
  | x :: r, i, s => by
    rw [clashGoI]
    refine Nat.le_trans (clashGoI_len r (i + 1) _) ?_
    split <;> simp <;> omega
def keptB (L : List PI) (B : List Bool) (i : Nat) : List PI := ((List.range i).filter fun k => !B.getD k false).map fun k => L.getD k pi0
def cntB (L : List PI) (B : List Bool) (x : PI) (k : Nat) : Nat := ((List.range k).filter fun q => !B.getD q false && hit x (L.getD q pi0)).length
theorem filt1 {α : Type} (p : α → Bool) (a : α) : [a].filter p = if p a = true then [a] else [] := by cases h : p a <;> simp [List.filter, h]
theorem cnt_hits (L : List PI) (B : List Bool) (x : PI) (i : Nat) : cntB L B x i = hits (keptB L B i) x := by
  unfold cntB hits keptB
  rw [List.filter_map, List.length_map, List.filter_filter]
  congr 1
  refine List.filter_congr fun k _ => ?_
  simp [Bool.and_comm]
theorem cnt_succ (L : List PI) (B : List Bool) (x : PI) (k : Nat) : cntB L B x (k + 1) = cntB L B x k + if (!B.getD k false && hit x (L.getD k pi0)) = true then 1 else 0 := by
  unfold cntB
  rw [List.range_succ, List.filter_append, List.length_append, filt1]
  congr 1
  split <;> rfl
theorem cnt_le (L : List PI) (B : List Bool) (x : PI) (k : Nat) : cntB L B x k ≤ k := by
  unfold cntB
  refine Nat.le_trans (List.length_filter_le _ _) ?_
  simp
theorem kept_bad {L : List PI} {B : List Bool} {i : Nat} (h : i < B.length) : keptB L (B.set i true) (i + 1) = keptB L B i := by
  unfold keptB
  rw [List.range_succ, List.filter_append, List.map_append]
  have e1 : (List.range i).filter (fun k => !(B.set i true).getD k false) = (List.range i).filter fun k => !B.getD k false := List.filter_congr fun k hk => by
    have : k < i := List.mem_range.1 hk
    rw [List.getD_eq_getElem?_getD, List.getD_eq_getElem?_getD, List.getElem?_set_ne (by omega)]
  have e2 : (B.set i true).getD i false = true := by rw [List.getD_eq_getElem?_getD, List.getElem?_set_self h]; rfl
  rw [e1, filt1, e2]
  simp
theorem kept_good {L : List PI} {B : List Bool} {i : Nat} (h : B.getD i false = false) : keptB L B (i + 1) = keptB L B i ++ [L.getD i pi0] := by
  unfold keptB
  rw [List.range_succ, List.filter_append, List.map_append, filt1, h]
  simp
set_option maxHeartbeats 8000000 in
theorem c_rClashes (L : List PI) (tk : Rg.Tok) (hL : L.length ≤ 1000000) (hok : ∀ y ∈ L, y.ok) : AOk Tryz.prog 57 [.sl (L.map piAV) tk] H (.sl ((clashIx L).map fun k : Nat => .sc (.int .i64 (k : Int))) .no) H := by
  obtain ⟨R, hR⟩ : ∃ R, clashIx L = R := ⟨_, rfl⟩
  rw [hR]
  refine ACalls.into Tryz.func57 rfl Tryz.ntmps57 Tryz.results57 (by simp) ?_
  simp -implicitDefEqProofs
  refine ACall.intro (c_makeSlice1 (T := 190) (e := 4) (by_ := 1) (z := .bool false) (z0 := .bool false) el_190 (by kernel_rfl) rfl rfl (by omega) (by simp [maxLen]; omega)) fun v K hv => ?_
  obtain ⟨g, hg0, rfl, rfl⟩ := hv
  simp -implicitDefEqProofs
  have hgr : ∀ n : Nat, List.replicate n (AV.sc (.bool false)) = (List.replicate n false).map fun b => .sc (.bool b) := fun n => by simp
  rw [hgr]
  refine AGo.rounds (fun μ ρ K => ∃ (i : Nat) (B : List Bool) (I : List Nat) (t1 : Rg.Tok), μ = L.length - i ∧ i ≤ L.length ∧ B.length = L.length ∧ (∀ k, i ≤ k → B.getD k false = false) ∧ (clashGoI i (L.drop i) (I, keptB L B i)).1 = R ∧ I.length ≤ i ∧ ρ 0 = .sl (L.map piAV) tk ∧ ρ 3 = .sl (I.map fun k : Nat => .sc (.int .i64 (k : Int))) t1 ∧ ρ 4 = .sc (.slice (some ⟨g, 0, none⟩) L.length L.length) ∧ ρ 5 = .sc (.int .i64 (i : Int)) ∧ HLe H K ∧ K g = some (.cells (B.map fun b => .sc (.bool b)) 4) ∧
    GrowsK H (I.map fun k : Nat => (.sc (.int .i64 (k : Int)) : AV)).length 1 3 t1 K) ?_ (m := L.length) (HLe.refl _)
    ⟨0, List.replicate L.length false, [], .nil, by omega, by omega, by simp, fun k _ => by simp [List.getElem?_replicate]; split <;> rfl, by rw [← hR]; rfl, by simp, by simp, by simp, by simp, by simp, HLe.set_fresh hg0, by simp [Heap.set], .inl ⟨rfl, rfl⟩⟩
  clear hR
  rintro μ ρ K ih ⟨i, B, I, t1, rfl, hi, hBl, hBf, hgo, hIl, r0, r3, r4, r5, hle, hg, hg1⟩
  rcases Nat.lt_or_ge i L.length with hlt | hge
  · obtain ⟨x, hx, hx'⟩ := getAt hlt
    have hxok : x.ok := hok x (List.mem_of_getElem? hx')
    have hxd : L.getD i pi0 = x := by rw [List.getD_eq_getElem?_getD, hx']; rfl
    rw [List.drop_eq_getElem_cons hlt, clashGoI, hx] at hgo
    simp only at hgo
    rw [← cnt_hits] at hgo
    have hwi : IntKind.i64.wrap ((i : Int) + 1) = ((i + 1 : Nat) : Int) := wadd (b := 1) rfl (by omega)
    simp -implicitDefEqProofs [r0, r5, hlt]
    refine AGo.joinLoop (fun ρ' K' => ρ' 0 = .sl (L.map piAV) tk ∧ ρ' 3 = .sl (I.map fun k : Nat => .sc (.int .i64 (k : Int))) t1 ∧ ρ' 4 = .sc (.slice (some ⟨g, 0, none⟩) L.length L.length) ∧ ρ' 5 = .sc (.int .i64 (i : Int)) ∧ ρ' 6 = .sc (.int .i64 (cntB L B x i : Int)) ∧ K' = K) (fun k' hk' => ?_) ?_
    · refine AGo.rounds (fun μ ρ' K' => ∃ k : Nat, μ = i - k ∧ k ≤ i ∧ ρ' 0 = .sl (L.map piAV) tk ∧ ρ' 3 = .sl (I.map fun k : Nat => .sc (.int .i64 (k : Int))) t1 ∧ ρ' 4 = .sc (.slice (some ⟨g, 0, none⟩) L.length L.length) ∧ ρ' 5 = .sc (.int .i64 (i : Int)) ∧ ρ' 6 = .sc (.int .i64 (cntB L B x k : Int)) ∧ ρ' 7 = .sc (.int .i64 (k : Int)) ∧ K' = K) ?_ (m := i) (HLe.refl _)
        ⟨0, by omega, by omega, by simp [r0], by simp [r3], by simp [r4], by simp [r5], by simp [cntB], by simp, rfl⟩
      clear ih hgo r0 r3 r4 r5
      rintro μ ρ' K' ih2 ⟨k, rfl, hk, r0, r3, r4, r5, r6, r7, rfl⟩
      rcases Nat.lt_or_ge k i with hki | hki
      · have hkl : k < L.length := by omega
        obtain ⟨y, hy, hy'⟩ := getAt hkl
        have hyok : y.ok := hok y (List.mem_of_getElem? hy')
        have hyd : L.getD k pi0 = y := by rw [List.getD_eq_getElem?_getD, hy']; rfl
        unfold PI.ok at hxok hyok
        have hct := cnt_succ L B x k
        rw [hyd] at hct
        have hcl := cnt_le L B x k
        generalize cntB L B x k = c at *
        obtain ⟨e, he⟩ : ∃ e, y.at_ + y.tmo = e := ⟨_, rfl⟩
        have hwe : IntKind.i64.wrap ((y.at_ : Int) + (y.tmo : Int)) = (e : Int) := wadd he (by omega)
        have hwk : IntKind.i64.wrap ((k : Int) + 1) = ((k + 1 : Nat) : Int) := wadd (b := 1) rfl (by omega)
        have hwc : IntKind.i64.wrap ((c : Int) + 1) = ((c + 1 : Nat) : Int) := wadd (b := 1) rfl (by omega)
        have i1 : (y.place : Int) = (x.place : Int) ↔ y.place = x.place := by omega
        have i2 : (x.at_ : Int) < (e : Int) ↔ x.at_ < e := by omega
        have i3 : (k : Int) < (i : Int) ↔ k < i := by omega
        have hBk : B[k]? = some (B.getD k false) := by
          rw [List.getD_eq_getElem?_getD, List.getElem?_eq_getElem (by omega)]; rfl
        obtain ⟨bk, hbk⟩ : ∃ b, B.getD k false = b := ⟨_, rfl⟩
        rw [hbk] at hBk hct
        simp -implicitDefEqProofs [r5, r7, i3, hki]
        refine go_draw 37 f_mixed (by decide +kernel) ?_
        cases bk with
        | true =>
          simp at hct
          simp -implicitDefEqProofs [r0, r4, r5, r6, r7, hg, hBk, hkl, hwk]
          exact AGo.again ih2 (m' := i - (k + 1)) (by omega) (HLe.refl _) ⟨k + 1, rfl, by omega, by simp [r0], by simp [r3], by simp [r4], by simp [r5], by simp [r6, hct], by simp, rfl⟩
        | false =>
          by_cases h1 : y.place = x.place
          · by_cases h2 : x.at_ < e
            · have hr : hit x y = true := by unfold hit; rw [he]; simp [h1, h2]
              simp [hr] at hct
              simp -implicitDefEqProofs [r0, r4, r5, r6, r7, hg, hBk, hkl, hlt, hx, hy, i1, i2, h1, h2, hwe, hwk, hwc]
              exact AGo.again ih2 (m' := i - (k + 1)) (by omega) (HLe.refl _) ⟨k + 1, rfl, by omega, by simp [r0], by simp [r3], by simp [r4], by simp [r5], by simp [hct], by simp, rfl⟩
            · have hr : hit x y = false := by unfold hit; rw [he]; simp [h2]
              simp [hr] at hct
              simp -implicitDefEqProofs [r0, r4, r5, r6, r7, hg, hBk, hkl, hlt, hx, hy, i1, i2, h1, h2, hwe, hwk, hwc]
              exact AGo.again ih2 (m' := i - (k + 1)) (by omega) (HLe.refl _) ⟨k + 1, rfl, by omega, by simp [r0], by simp [r3], by simp [r4], by simp [r5], by simp [r6, hct], by simp, rfl⟩
          · have hr : hit x y = false := by unfold hit; simp [h1]
            simp [hr] at hct
            simp -implicitDefEqProofs [r0, r4, r5, r6, r7, hg, hBk, hkl, hlt, hx, hy, i1, h1, hwk, hwc]
            exact AGo.again ih2 (m' := i - (k + 1)) (by omega) (HLe.refl _) ⟨k + 1, rfl, by omega, by simp [r0], by simp [r3], by simp [r4], by simp [r5], by simp [r6, hct], by simp, rfl⟩
      · have hk2 : ¬ (k : Int) < (i : Int) := by omega
        have hk3 : ¬ k < i := by omega
        obtain rfl : k = i := by omega
        simp -implicitDefEqProofs [r5, r7, hk2, hk3]
        exact hk' _ _ ⟨by simp [r0], by simp [r3], by simp [r4], by simp [r5], by simp [r6], rfl⟩
    · clear r0 r3 r4 r5
      rintro ρ' K' ⟨r0, r3, r4, r5, r6, rfl⟩
      generalize cntB L B x i = c at *
      have hil : i < B.length := by omega
      by_cases h1 : x.lim ≤ (c : Int)
      · rw [if_pos h1] at hgo
        have hib : i + 1 ≤ B.length := hil
        have hst : (B.map fun b => (AV.sc (.bool b) : AV)).set i (.sc (.bool true)) = (B.set i true).map fun b => .sc (.bool b) := by rw [List.map_set]
        have hkb := kept_bad (L := L) hil
        rw [← hkb] at hgo
        have hBf' : ∀ k, i + 1 ≤ k → (B.set i true).getD k false = false := fun k hk => by
          rw [List.getD_eq_getElem?_getD, List.getElem?_set_ne (by omega), ← List.getD_eq_getElem?_getD]
          exact hBf k (by omega)
        have hIe : (I.map fun k : Nat => (.sc (.int .i64 (k : Int)) : AV)) ++ [.sc (.int .i64 (i : Int))] = (I ++ [i]).map fun k : Nat => .sc (.int .i64 (k : Int)) := by simp
        have hsz : szs 1 (I.map fun k : Nat => (.sc (.int .i64 (k : Int)) : AV)) = true := szs_map (f := fun k : Nat => (.sc (.int .i64 (k : Int)) : AV)) (fun _ => rfl) _
        have hIl' : (I.map fun k : Nat => (.sc (.int .i64 (k : Int)) : AV)).length = I.length := List.length_map _
        obtain ⟨F', hF'⟩ : ∃ F', (B.map fun b => (AV.sc (.bool b) : AV)).set i (.sc (.bool true)) = F' := ⟨_, rfl⟩
        have hst' : F' = (B.set i true).map fun b => .sc (.bool b) := by rw [← hF', hst]
        have hg2 := hg1.setC (o' := .cells F' 4) hg (by simp)
        have hle2 : HLe H (K'.set g (.cells F' 4)) := HLe.set_new hle hg0
        have kg2 : (K'.set g (.cells F' 4)) g = some (.cells F' 4) := by simp [Heap.set]
        simp -implicitDefEqProofs [r0, r4, r5, r6, hlt, hx, h1, hg, hib, hF', r3]
        generalize K'.set g _ = K2 at *
        obtain ⟨G0, G, a1, a2, a3, a4⟩ := hg2.grows hle2
        refine AApp.grows el_106 a1 a2 (by simp) hsz (by simp [szs]) (by simp; omega) (by simp [maxLen]; omega) fun t' K4 Hn hg' hl' => ?_
        rw [hIe] at hg' ⊢
        obtain ⟨b1, b2⟩ := GrowsK.of a3 hg' hl'
        have kgn := hl' _ _ (hg'.le _ _ (a4 _ _ kg2 (by simp)))
        rw [hst'] at kgn
        simp -implicitDefEqProofs [r5, hwi]
        exact AGo.again ih (m' := L.length - (i + 1)) (by omega) (HLe.refl _) ⟨i + 1, B.set i true, I ++ [i], t', rfl, by omega, by simpa using hBl, hBf', hgo, by simp; omega, by simp [r0], by simp, by simp [r4], by simp, b2, kgn, b1⟩
      · rw [if_neg h1] at hgo
        have hkg := kept_good (L := L) (hBf i (Nat.le_refl i))
        rw [hxd] at hkg
        rw [← hkg] at hgo
        simp -implicitDefEqProofs [r0, r5, r6, hlt, hx, h1, hwi]
        exact AGo.again ih (m' := L.length - (i + 1)) (by omega) (HLe.refl _) ⟨i + 1, B, I, t1, rfl, by omega, hBl, fun k hk => hBf k (by omega), hgo, by omega, by simp [r0], by simp [r3], by simp [r4], by simp, hle, hg, hg1⟩
  · have hn : ¬ i < L.length := by omega
    rw [List.drop_of_length_le hge] at hgo
    unfold clashGoI at hgo
    subst hgo
    simp -implicitDefEqProofs [r0, r3, r5, hn]
    exact hle.wk
end Go.Proofs.YtmoncokklkiikaaGreatDoor
