/- PlanMore: the law's walk. -/
import Derived.Test.YtmoncokklkiikaaGreatDoorP24
set_option linter.unusedSimpArgs false
set_option linter.unusedVariables false
set_option linter.unnecessarySimpa false
namespace Go.Proofs.YtmoncokklkiikaaGreatDoor
open Rg Go
variable {H : Heap}
theorem growsF_hc {H0 K : Heap} {xs : List AV} {sz : Nat} {e : TypeId} {t : Rg.Tok} (h : GrowsF H0 xs sz e t K) : HC H0 K := by
  rcases h with ⟨_, _, rfl⟩ | ⟨g, cap, h1, _, rfl⟩
  · exact HC.refl _
  · exact HC.new h1
theorem clashP_len (L : List PI) : (clashP L).length ≤ L.length := by
  rw [← clashIx_map, List.length_map]
  have h := clashGoI_len L 0 ([], [])
  rw [List.length_nil, Nat.zero_add] at h
  exact h
structure JWant (KB : Heap) (wl : List (Nat × Nat)) (x : Ex) (a b b15 l D c3 c4 c5 : Nat) (r : ARec) (j : Nat) (K : Heap) : Prop where
  row : RowZ 2 111 105 KB b15 (itsAV (wl.take j)).length (fun t => [.sl (itsAV (wl.take j)) t]) K
  kl : K l = some (.lrec r)
  kD : K D = some .dfr
  k3 : K c3 = some (.cells (exC x) 42)
  k4 : K c4 = some (.cells [.sc (.int .i64 a)] 2)
  k5 : K c5 = some (.cells [.sc (.int .i64 b)] 2)
set_option maxRecDepth 100000 in
set_option maxHeartbeats 16000000 in
theorem planMore_ok (hG : Glob H) {js : List Jb} {more : Jb} (hjs : js.length ≤ 1099511627744) (hex : ∀ j ∈ js, j.ex.length ≤ 9223372036854775807) (hmx : more.ex.length ≤ 9223372036854775807) (fr tt : Int) :
    AOk Tryz.prog 12 [.sl (jobsAV js) .no, jbAV more .no, .sc (.int .i64 fr), .sc (.int .i64 tt)] H (.sc (.bool true)) H := by
  refine ACalls.into Tryz.func12 rfl Tryz.ntmps12 Tryz.results12 (by simp) ?_
  simp -implicitDefEqProofs
  refine AAlloc.intro fun b5 h5 => ?_
  simp -implicitDefEqProofs
  generalize hK : Heap.set H b5 _ = K1
  have l1 : HLe H K1 := by rw [← hK]; exact HLe.set_fresh h5
  have k5 : K1 b5 = some (.cells (jbC more .no) 25) := by rw [← hK]; simp [Heap.set]
  clear hK
  refine ACall.eq (c_known37 (hG.le l1)) ?_
  simp -implicitDefEqProofs
  refine go_draw2 6 [0, 2, 3] [1, 4, 5] K1 f_mixed (by decide +kernel) (HC.refl _) ?_
  simp -implicitDefEqProofs [k5]
  refine AES.call (c_cloneOwn hjs) fun v K2 hv => ?_
  obtain ⟨t0, rfl, hg0⟩ := hv
  refine ⟨growsF_hc hg0, ?_⟩
  simp -implicitDefEqProofs
  refine aes_growsF el_95 hg0 (szs_jobs js) (by simp [szs]) (by simp; omega) (by simp [maxLen]; omega) fun t9 K3 hg9 => ?_
  have hwith : jobsAV js ++ [jbAV more .no] = jobsAV (js ++ [more]) := by simp
  rw [hwith] at hg9 ⊢
  have l3 := l1.trans hg9.le
  have k5 := hg9.le _ _ k5
  clear hg0 hg9 h5 l1
  obtain ⟨W, hW⟩ : ∃ W, js ++ [more] = W := ⟨_, rfl⟩
  have hWx : ∀ j ∈ W, j.ex.length ≤ 9223372036854775807 := by
    rw [← hW]
    intro j hj
    rcases List.mem_append.1 hj with h | h
    · exact hex j h
    · rw [List.mem_singleton.1 h]; exact hmx
  have hWl : W.length ≤ 1099511627745 := by rw [← hW]; simp; omega
  rw [hW]
  simp -implicitDefEqProofs
  refine ACall.ok (c_heavy37 W 1 (by omega)) (by simp [wkL, wk, wkL_refl]) ?_
  cases hh : heavyP W 1 with
  | true =>
    simp -implicitDefEqProofs
    exact l3.wk
  | false =>
  obtain ⟨hj, hl12, _⟩ := heavy_ok hWx hh
  by_cases c1 : fr < 0
  · simp -implicitDefEqProofs [c1]
    exact l3.wk
  by_cases c2 : tt < fr
  · simp -implicitDefEqProofs [c1, c2]
    exact l3.wk
  by_cases c4 : 13569465600 ≤ tt
  · simp -implicitDefEqProofs [c1, c2, c4]
    exact l3.wk
  obtain ⟨a, rfl⟩ := Int.eq_ofNat_of_zero_le (show 0 ≤ fr by omega)
  obtain ⟨b, rfl⟩ := Int.eq_ofNat_of_zero_le (show 0 ≤ tt by omega)
  have hab : a ≤ b := by omega
  have hb : b < 13569465600 := by omega
  have hG3 := hG.le l3
  have q1 := c_pFirst hG3 hG3.ctz hj a b 61 (by omega)
  have hn1 := planI_len W a b 61
  change _ ≤ 61 at hn1
  obtain ⟨I, hI⟩ : ∃ I, (planI W a b 61).map PI.it = I := ⟨_, rfl⟩
  rw [pit_it, hI] at q1
  have hIlen : I.length = (planI W a b 61).length := by rw [← hI, List.length_map]
  have hlenI : (60 : Int) < (I.length : Int) ↔ 60 < I.length := by omega
  by_cases c5' : 60 < I.length
  · simp -implicitDefEqProofs [c1, c2, c4]
    refine ACall.ok q1 (by simp [wkL, wk, wkL_refl]) ?_
    simp -implicitDefEqProofs [hlenI, c5']
    exact l3.wk
  have c5 : ¬ 60 < (planI W a b 61).length := by omega
  have hmo : MoreOk js more a b (planI W a b 61) := by
    rw [← hW] at c5 hj ⊢
    exact more_ok hab hb hj.id (Nat.not_lt.1 c5)
  have hjsO : JobsOk js := by
    rw [← hW] at hj hl12
    rw [List.length_append] at hl12
    refine ⟨by omega, hex, fun j h => hj.dep j (List.mem_append.2 (.inl h)), ?_⟩
    have := hj.id
    rw [List.map_append] at this
    exact (List.nodup_append.1 this).1
  have hmoO : JobsOk [more] := by
    rw [← hW] at hj
    refine ⟨by simp, fun j h => ?_, fun j h => ?_, by simp⟩
    · rw [List.mem_singleton.1 h]; exact hmx
    · rw [List.mem_singleton.1 h]; exact hj.dep more (List.mem_append.2 (.inr (by simp)))
  have e1 := mo_own hmo
  have e2 := mo_rest hmo
  have e3 := mo_clash hmo
  obtain ⟨e4, e5, e6⟩ := mo_peak hmo
  have e7 := hmo.one
  have hPk := peak_some (L := planI W a b 61) fun y hy => (planI_tmo y hy).1
  have qP := fun K (h : Glob K) => c_pPeak h h.ctz hj a b 61 (by omega)
  have qC := fun K (h : Glob K) => c_pClashesR h h.ctz hj a b 61 (by omega)
  have hCl : (clashP (planI W a b 61)).length ≤ 61 := Nat.le_trans (clashP_len _) hn1
  have hIl : I.length ≤ 60 := by omega
  obtain ⟨pw, hpw⟩ : ∃ pw, peakP (planI W a b 61) = pw := ⟨_, rfl⟩
  obtain ⟨CW, hcw⟩ : ∃ CW, clashP (planI W a b 61) = CW := ⟨_, rfl⟩
  rw [hI] at e1 e2
  rw [hcw] at e3 qC hCl
  rw [hpw] at e4 e5 e6 qP
  clear hmo hcw hI hW hn1 hIlen c5 hpw hPk
  simp -implicitDefEqProofs [c1, c2, c4]
  refine ACall.ok q1 (by simp [wkL, wk, wkL_refl]) ?_
  simp -implicitDefEqProofs [hlenI, c5']
  refine AGo.joinLoop (fun ρ' K' => ∃ t1 t2 t9', ρ' 0 = .sl (jobsAV js) .no ∧ ρ' 2 = .sc (.int .i64 (a : Int)) ∧ ρ' 3 = .sc (.int .i64 (b : Int)) ∧ ρ' 5 = ptr b5 ∧ ρ' 9 = .sl (jobsAV W) t9' ∧ ρ' 11 = .sl (itsAV (I.filter (isOwn more))) t1 ∧ ρ' 12 = .sl (itsAV (I.filter (keepI more))) t2 ∧ HLe K3 K') (fun k' hk' => ?_) ?_
  · as_aux_lemma =>
      refine AGo.rounds (fun μ ρ K => ∃ (i : Nat) (t1 t2 t9' : Rg.Tok), μ = I.length - i ∧ i ≤ I.length ∧ ρ 0 = .sl (jobsAV js) .no ∧ ρ 2 = .sc (.int .i64 (a : Int)) ∧ ρ 3 = .sc (.int .i64 (b : Int)) ∧ ρ 5 = ptr b5 ∧ ρ 9 = .sl (jobsAV W) t9' ∧ ρ 11 = .sl (itsAV ((I.take i).filter (isOwn more))) t1 ∧ ρ 12 = .sl (itsAV ((I.take i).filter (keepI more))) t2 ∧ ρ 55 = .sl (itsAV I) .no ∧ ρ 56 = .sc (.int .i64 (I.length : Int)) ∧ ρ 57 = .sc (.int .i64 (i : Int)) ∧ HLe K3 K ∧
        Two K3 (itsAV ((I.take i).filter (isOwn more))).length (itsAV ((I.take i).filter (keepI more))).length 2 111 t1 t2 K) ?_ (m := I.length) (HLe.refl _)
        ⟨0, .nil, .nil, t9, by omega, by omega, by simp, by simp, by simp, by simp, by simp, by simp, by simp, by simp, by simp, by simp, HLe.refl _, ⟨.inl ⟨rfl, rfl⟩, .inl ⟨rfl, rfl⟩, fun _ _ _ _ _ _ _ _ h => by cases h⟩⟩
      clear qP qC e1 e2 e3 e4 e5 e6 e7 q1
      rintro μ ρ K ih ⟨i, t1, t2, t9', rfl, hi, r0, r2, r3, r5, r9, r11, r12, r55, r56, r57, hle, htw⟩
      rcases Nat.lt_or_ge i I.length with hlt | hge
      · obtain ⟨x, hx, _⟩ := getAt hlt
        have hwi : IntKind.i64.wrap ((i : Int) + 1) = ((i + 1 : Nat) : Int) := wadd (b := 1) rfl (by omega)
        have hto : I.take (i + 1) = I.take i ++ [x] := by rw [List.take_succ_eq_append_getElem hlt, hx]
        have ho : (I.take (i + 1)).filter (isOwn more) = (I.take i).filter (isOwn more) ++ if isOwn more x = true then [x] else [] := by rw [hto, List.filter_append, filt1]
        have hr : (I.take (i + 1)).filter (keepI more) = (I.take i).filter (keepI more) ++ if keepI more x = true then [x] else [] := by rw [hto, List.filter_append, filt1]
        have hol : ((I.take i).filter (isOwn more)).length ≤ i := Nat.le_trans (List.length_filter_le _ _) (by rw [List.length_take]; omega)
        have hrl : ((I.take i).filter (keepI more)).length ≤ i := Nat.le_trans (List.length_filter_le _ _) (by rw [List.length_take]; omega)
        generalize (I.take i).filter (isOwn more) = O at *
        generalize (I.take i).filter (keepI more) = Q at *
        have q5 := hle _ _ k5
        simp -implicitDefEqProofs [r55, r56, r57, hlt, hx]
        refine AAlloc.intro fun b14 h14 => ?_
        have n514 : b5 ≠ b14 := by rintro rfl; rw [q5] at h14; cases h14
        have hle2 : ∀ o, HLe K (K.set b14 o) := fun o => HLe.set_fresh h14
        have ieq : (x.2 : Int) = (more.id : Int) ↔ x.2 = more.id := by omega
        cases hp : isOwn more x with
        | true =>
          have hid : x.2 = more.id := by unfold isOwn at hp; simpa using hp
          rw [if_pos hp] at ho
          rw [if_neg (by unfold keepI; rw [hp]; simp), List.append_nil] at hr
          simp -implicitDefEqProofs [r5, n514, q5, ieq, hid, r11]
          generalize hK2 : Heap.set K b14 _ = K5
          have l5 : HLe K K5 := by rw [← hK2]; exact hle2 _
          clear hK2 h14
          obtain ⟨G0, G, a1, a2, a3, a4⟩ := (htw.up l5).first (hle.trans l5)
          refine AApp.grows el_105 a1 a2 (by simp) (szs_its O) (by simp [szs]) (by simp; omega) (by simp [maxLen]; omega) fun t' K4 Hn hg' hl' => ?_
          have hd : itsAV O ++ [.agg [.sc (.int .i64 (x.1 : Int)), .sc (.int .u64 (more.id : Int))]] = itsAV (O ++ [x]) := by rw [← hid]; simp
          rw [hd] at hg' ⊢
          obtain ⟨b1, b2⟩ := a4 t' K4 Hn _ hg' hl'
          rw [← ho] at b1 ⊢
          rw [← hr] at b1 r12
          simp -implicitDefEqProofs [r57, hwi]
          exact AGo.again ih (m' := I.length - (i + 1)) (by omega) (HLe.refl _) ⟨i + 1, t', t2, t9', rfl, by omega, by simp [r0], by simp [r2], by simp [r3], by simp [r5], by simp [r9], by simp, by simp [r12], by simp [r55], by simp [r56], by simp, b2, b1⟩
        | false =>
          have hid : ¬ x.2 = more.id := by unfold isOwn at hp; simpa using hp
          rw [if_neg (by rw [hp]; simp), List.append_nil] at ho
          rw [if_pos (by unfold keepI; rw [hp]; rfl)] at hr
          simp -implicitDefEqProofs [r5, n514, q5, ieq, hid, r12]
          generalize hK2 : Heap.set K b14 _ = K5
          have l5 : HLe K K5 := by rw [← hK2]; exact hle2 _
          clear hK2 h14
          obtain ⟨G0, G, a1, a2, a3, a4⟩ := (htw.up l5).swap.first (hle.trans l5)
          refine AApp.grows el_105 a1 a2 (by simp) (szs_its Q) (by simp [szs]) (by simp; omega) (by simp [maxLen]; omega) fun t' K4 Hn hg' hl' => ?_
          have hd : itsAV Q ++ [.agg [.sc (.int .i64 (x.1 : Int)), .sc (.int .u64 (x.2 : Int))]] = itsAV (Q ++ [x]) := by simp
          rw [hd] at hg' ⊢
          obtain ⟨b1, b2⟩ := a4 t' K4 Hn _ hg' hl'
          rw [← hr] at b1 ⊢
          rw [← ho] at b1 r11
          simp -implicitDefEqProofs [r57, hwi]
          exact AGo.again ih (m' := I.length - (i + 1)) (by omega) (HLe.refl _) ⟨i + 1, t1, t', t9', rfl, by omega, by simp [r0], by simp [r2], by simp [r3], by simp [r5], by simp [r9], by simp [r11], by simp, by simp [r55], by simp [r56], by simp, b2, b1.swap⟩
      · have hn : ¬ i < I.length := by omega
        rw [List.take_of_length_le hge] at r11 r12
        simp -implicitDefEqProofs [r56, r57, hn]
        exact hk' _ _ ⟨t1, t2, t9', by simp [r0], by simp [r2], by simp [r3], by simp [r5], by simp [r9], by simp [r11], by simp [r12], hle⟩
  · as_aux_lemma =>
      rintro ρ K ⟨t1, t2, t9', r0, r2, r3, r5, r9, r11, r12, hle⟩
      have k5 := hle _ _ k5
      have lH := l3.trans hle
      rw [e1] at r11
      rw [e2] at r12
      simp -implicitDefEqProofs
      refine AAlloc.intro fun b15 h15 => ?_
      have n515 : b5 ≠ b15 := by rintro rfl; rw [k5] at h15; cases h15
      simp -implicitDefEqProofs [r5, n515, k5]
      generalize hK5 : Heap.set K b15 _ = K5
      have row5 : RowZ 2 111 105 K b15 0 (fun t => [.sl [] t]) K5 := by
        rw [← hK5]
        exact ⟨HLe.set_fresh h15, h15, .nil, by simp [Heap.set], .inl ⟨rfl, rfl⟩⟩
      have k55 := row5.le _ _ k5
      clear hK5
      refine ACall.eq (c_ref7ParseW more.ex hmx) ?_
      have hcx := cronK_lt more.ex
      have hcm := cronK_may (s := more.ex)
      have hlv : liveJ more = (!more.pau && decide (mayJ more = 0)) := rfl
      have hle0 := fun h => live_ex (j := more) h
      have hrJ : restJ a b more = if liveJ more = true then firesL (cronK more.ex).1 a b else [] := rfl
      generalize (cronK more.ex).1 = x at *
      simp -implicitDefEqProofs
      refine AAlloc.intro fun b16 h16 => ?_
      have n516 : b5 ≠ b16 := by rintro rfl; rw [k55] at h16; cases h16
      simp -implicitDefEqProofs [r5, n516, k55]
      generalize hK6 : Heap.set K5 b16 _ = K6
      have l6 : HLe K5 K6 := by rw [← hK6]; exact HLe.set_fresh h16
      have k16 : K6 b16 = some (.cells (exC x) 42) := by rw [← hK6]; simp [Heap.set]
      have row6 := row5.up l6
      have k56 := l6 _ _ k55
      clear hK6 h16
      have hmay := fun K => c_ref14May (H := K) more .no hmx
      unfold jbAV jbC at hmay
      refine ACall.eq (hmay _) ?_
      have cases3 : (mayJ more = 0 ∧ more.pau = false) ∨ (liveJ more = false ∧ (¬ mayJ more = 0 ∨ (mayJ more = 0 ∧ more.pau = true))) := by
        by_cases h1 : mayJ more = 0
        · cases h2 : more.pau with
          | false => exact .inl ⟨h1, rfl⟩
          | true => exact .inr ⟨by rw [hlv, h2]; rfl, .inr ⟨h1, rfl⟩⟩
        · exact .inr ⟨by rw [hlv]; simp [h1], .inl h1⟩
      obtain ⟨wl, hwlE⟩ : ∃ wl, (restJ a b more).map (fun t => (t, more.id)) = wl := ⟨_, rfl⟩
      rw [hwlE] at r11 e7 e1
      have hjl := planI_len js a b 61
      have hol := planI_len [more] a b 61
      have hb1 := (peak_some (L := planI js a b 61) fun y hy => (planI_tmo y hy).1).1
      have hb2 := (peak_some (L := planI [more] a b 61) fun y hy => (planI_tmo y hy).1).1
      obtain ⟨PJ, hPJ⟩ : ∃ L, planI js a b 61 = L := ⟨_, rfl⟩
      obtain ⟨PO, hPO⟩ : ∃ L, planI [more] a b 61 = L := ⟨_, rfl⟩
      rw [hPJ] at r12 e2 e3 e4 e6 hjl hb1
      rw [hPO] at e5 e6 e7 hol hb2
      change _ ≤ 61 at hjl hol
      have e7' := e7
      have f2 := fun K (h : Glob K) => c_pFirst h h.ctz hjsO a b 61 (by decide)
      have f4 := fun K (h : Glob K) => c_pFirst h h.ctz hmoO a b 61 (by decide)
      have g1 := fun K (h : Glob K) => c_pPeak h h.ctz hjsO a b 61 (by decide)
      have g3 := fun K (h : Glob K) => c_pPeak h h.ctz hmoO a b 61 (by decide)
      have f5 := fun K (h : Glob K) => c_pClashes h h.ctz hjsO a b 61 (by decide)
      rw [hPJ] at f2 g1 f5
      rw [hPO] at f4 g3
      rw [pit_it] at f2 f4 f5
      rw [e7'] at f4
      clear hPJ hPO
      have hwl0 : wl.length ≤ 60 := by
        rw [← e1]
        exact Nat.le_trans (List.length_filter_le _ _) hIl
      obtain ⟨wn, hwl⟩ : ∃ n, wl.length = n := ⟨_, rfl⟩
      rw [hwl] at hwl0
      obtain ⟨pj, hpj⟩ : ∃ p, peakP PJ = p := ⟨_, rfl⟩
      obtain ⟨pm, hpm⟩ : ∃ p, peakP PO = p := ⟨_, rfl⟩
      rw [hpj] at e4 e6 hb1 g1
      rw [hpm] at e5 e6 hb2 g3
      have hp1 : ¬ (pw.1 : Int) < (pj.1 : Int) := by omega
      have hp2 : ¬ (pw.1 : Int) < (pm.1 : Int) := by omega
      have hp1' : ¬ pw.1 < pj.1 := by omega
      have hp2' : ¬ pw.1 < pm.1 := by omega
      obtain ⟨ps, hps⟩ : ∃ p, pj.1 + pm.1 = p := ⟨_, rfl⟩
      have hp3 : IntKind.i64.wrap ((pj.1 : Int) + (pm.1 : Int)) = (ps : Int) := wadd hps (by omega)
      have hp4 : ¬ (ps : Int) < (pw.1 : Int) := by omega
      have hp3' : ¬ ps < pw.1 := by omega
      rcases cases3 with ⟨hma, hpa⟩ | ⟨hdead, hd | ⟨hma, hpa⟩⟩
      · have k56c := k56
        unfold jbC at k56c
        rw [hpa] at k56c
        have hlive : liveJ more = true := by rw [hlv, hpa, hma]; rfl
        rw [hlive, if_pos rfl] at hrJ
        have hxm := hcm (hle0 hma)
        simp -implicitDefEqProofs [hma, hpa, r5, k56c, k16, r2, r3]
        refine ACall.intro (c_nextAll x a b) fun v K7 hv => ?_
        obtain ⟨c3, c4, c5, rfl, hle7, q3, q4, q5⟩ := hv
        have row7 := row6.up hle7
        simp -implicitDefEqProofs
        refine atRhoT fun ρ1 hρ1 => ?_
        have u0 : ρ1 0 = .sl (jobsAV js) .no := by rw [hρ1]; simp [r0]
        have u2 : ρ1 2 = .sc (.int .i64 (a : Int)) := by rw [hρ1]; simp [r2]
        have u3 : ρ1 3 = .sc (.int .i64 (b : Int)) := by rw [hρ1]; simp [r3]
        have u5 : ρ1 5 = ptr b5 := by rw [hρ1]; simp [r5]
        have u9 : ρ1 9 = .sl (jobsAV W) t9' := by rw [hρ1]; simp [r9]
        have u11 : ρ1 11 = .sl (itsAV wl) t1 := by rw [hρ1]; simp [r11]
        have u12 : ρ1 12 = .sl (itsAV (PJ.map PI.it)) t2 := by rw [hρ1]; simp [r12]
        have u15 : ρ1 15 = ptr b15 := by rw [hρ1]; simp
        have u92 : ρ1 92 = .sc (.func (.func 133) #[] #[.pointer (some ⟨c3, 0, none⟩), .pointer (some ⟨c4, 0, none⟩), .pointer (some ⟨c5, 0, none⟩)]) := by rw [hρ1]; simp
        clear hρ1 r0 r2 r3 r5 r9 r11 r12
        have hrun := run_fires (x := x) hb (firesL x a b).length a rfl
        have hwf : wl = (firesL x a b).map fun t => (t, more.id) := by rw [← hwlE, hrJ]
        have ha' : a < 13569465600 := by omega
        have hGK : Glob K := hG.le lH
        refine AGo.rangeF (gf := 133) (lb := #[.pointer (some ⟨c3, 0, none⟩), .pointer (some ⟨c4, 0, none⟩), .pointer (some ⟨c5, 0, none⟩)])
          (fun D l _ K' => K' D = some .dfr ∧ (∃ r, K' l = some (.lrec r) ∧ r.st ≠ .busy ∧ r.pe = none) ∧ RowZ 2 111 105 K b15 (itsAV wl).length (fun t => [.sl (itsAV wl) t]) K') rfl u92 (by simp) ?_ ?_ ?_
        · as_aux_lemma =>
            intro D l hD hl'
            generalize hr : ARec.mk _ _ _ _ _ _ _ _ = r0
            have hst : r0.st = .ready := by rw [← hr]
            have hpe : r0.pe = none := by rw [← hr]
            have hps : r0.ps.size = 1 := by rw [← hr]; rfl
            have hDl : D ≠ l := by intro e; subst e; simp [Heap.set] at hl'
            have hl3 : K7 l = none := by simpa [Heap.set, hDl.symm] using hl'
            have ne1 : ∀ {c : Nat} {o : AObj}, K7 c = some o → c ≠ D := by rintro c o hc rfl; rw [hc] at hD; cases hD
            have ne2 : ∀ {c : Nat} {o : AObj}, K7 c = some o → c ≠ l := by rintro c o hc rfl; rw [hc] at hl3; cases hl3
            have el : K l = none := row7.le.none hl3
            obtain ⟨t7, q15, _⟩ := row7.row
            have m15l := ne2 q15
            have m15D := ne1 q15
            have m3l := ne2 q3
            have m4l := ne2 q4
            have m5l := ne2 q5
            have n3 : c3 ≠ b15 := by rintro rfl; rw [q3] at q15; simp at q15
            have n4 : c4 ≠ b15 := by rintro rfl; rw [q4] at q15; simp at q15
            have n5 : c5 ≠ b15 := by rintro rfl; rw [q5] at q15; simp at q15
            generalize hKs : (K7.set D .dfr).set l (.lrec r0) = Ks
            have ls : HLe K7 Ks := by rw [← hKs]; exact (HLe.set_fresh hD).trans (HLe.set_fresh hl')
            have sl : Ks l = some (.lrec r0) := by rw [← hKs]; simp [Heap.set]
            have sD : Ks D = some .dfr := by rw [← hKs]; simp [Heap.set, hDl]
            clear hKs
            refine (c_allIt2 (l := l) (b3 := c3) (b4 := c4) (b5 := c5) hcx hxm ha' hb hrun
              (JWant K wl x a b b15 l D c3 c4 c5 r0) (fun _ => False) ?_ ?_ ?_).mono ?_
            · rintro j K' ⟨h1, h2, h3, h4, h5, h6⟩
              exact ⟨h4, h5, h6, (hGK.le h1.le).ctz⟩
            · rintro j K' t hj ⟨h1, h2, h3, h4, h5, h6⟩
              have hjw : wl[j]? = some (t, more.id) := by rw [hwf, List.getElem?_map, hj]; rfl
              have hjl := (List.getElem?_eq_some_iff.1 hjw).1
              have htk : wl.take (j + 1) = wl.take j ++ [(t, more.id)] := by
                rw [List.take_succ_eq_append_getElem hjl, (List.getElem?_eq_some_iff.1 hjw).2]
              have hxl : (wl.take j).length ≤ 60 := by rw [List.length_take, hwl]; omega
              have hd : itsAV (wl.take j) ++ [.agg [.sc (.int .i64 (t : Int)), .sc (.int .u64 (more.id : Int))]] = itsAV (wl.take (j + 1)) := by rw [htk]; simp
              obtain ⟨ys, hys⟩ : ∃ ys, itsAV (wl.take (j + 1)) = ys := ⟨_, rfl⟩
              rw [hys] at hd
              refine ACalls.round h2 (by simp [hps]) ?_
              obtain ⟨r9', hr9⟩ : ∃ r9, r0 = r9 := ⟨_, rfl⟩
              clear hps hst hpe
              subst hr
              simp -implicitDefEqProofs [aputs]
              refine AGo.bgn rfl h2 rfl ?_
              rw [hr9] at h2 sl ⊢
              generalize hrb : ARec.mk _ _ _ _ _ _ _ _ = rb
              generalize hKb : Heap.set K' l _ = Kb
              have rowb : RowZ 2 111 105 K b15 (itsAV (wl.take j)).length (fun t => [.sl (itsAV (wl.take j)) t]) Kb := by rw [← hKb]; exact h1.setO el m15l.symm h2 (by simp)
              have ml : Kb l = some (.lrec rb) := by rw [← hKb]; simp [Heap.set]
              have mD : Kb D = some .dfr := by rw [← hKb]; simp only [Heap.set, if_neg hDl]; exact h3
              have m3 : Kb c3 = some (.cells (exC x) 42) := by rw [← hKb]; simp only [Heap.set, if_neg m3l]; exact h4
              have m4 : Kb c4 = some (.cells [.sc (.int .i64 a)] 2) := by rw [← hKb]; simp only [Heap.set, if_neg m4l]; exact h5
              have m5 : Kb c5 = some (.cells [.sc (.int .i64 b)] 2) := by rw [← hKb]; simp only [Heap.set, if_neg m5l]; exact h6
              have mb5 := rowb.le _ _ k5
              clear hKb
              obtain ⟨tk, kb15, _⟩ := rowb.row
              generalize wl.take j = xs at *
              simp -implicitDefEqProofs [u5, u15, kb15, mb5]
              obtain ⟨tk', G0, G', g1, g2, g3, g4, g5, g6⟩ := rowb.grows'
              obtain rfl : tk = tk' := by rw [kb15] at g1; simpa using g1
              refine AApp.grows el_105 g2 g3 (by simp) (szs_its xs) (by simp [szs]) (by simp; omega) (by simp [maxLen]; omega) fun t' K4 Hn hg' hl' => ?_
              rw [hd] at hg' ⊢
              have hn15 := hl' _ _ (hg'.le _ _ g5)
              have kp : ∀ {p : Nat} {o : AObj}, Kb p = some o → (∀ n cap sz e, o ≠ .open n cap sz e) → Hn p = some o := fun {p o} hp ho => hl' _ _ (hg'.le _ _ (g6 p o hp ho))
              have hsd := RowZ.stored (T := 105) (F := fun t' => [.sl ys t']) g4 h15 g5 hg' hl'
              simp -implicitDefEqProofs [u15, hn15]
              exact ⟨rb, by simp [Heap.set, m15l.symm]; exact kp ml (by simp), rfl, ⟨by rw [hys]; exact hsd.setO el m15l.symm (by simp [Heap.set, m15l.symm]; exact kp ml (by simp)) (by simp), by simp [Heap.set]; rw [← hrb, ← hr9], by simp [Heap.set, hDl, m15D.symm]; exact kp mD (by simp), by simp [Heap.set, m3l, n3]; exact kp m3 (by simp), by simp [Heap.set, m4l, n4]; exact kp m4 (by simp), by simp [Heap.set, m5l, n5]; exact kp m5 (by simp)⟩⟩
            · exact ⟨by rw [List.take_zero]; exact row7.up ls, sl, sD, ls _ _ q3, ls _ _ q4, ls _ _ q5⟩
            · rintro v K' (⟨h1, h2, h3, _, _, _⟩ | h)
              · rw [List.take_of_length_le (by rw [hwf, List.length_map]; exact Nat.le_refl _)] at h1
                exact ⟨h3, ⟨_, h2, by rw [hst]; simp, hpe⟩, h1⟩
              · exact h.elim
        · rintro D l v K' hD hl ⟨_, ⟨r, h1, h2, _⟩, _⟩
          exact ⟨r, h1, h2⟩
        · as_aux_lemma =>
            rintro D l v K' r hD hl ⟨gD, ⟨r', gl, _, hpe⟩, row8⟩ hK
            have hDl : D ≠ l := by intro e; subst e; simp [Heap.set] at hl
            have hl3 : K7 l = none := by simpa [Heap.set, hDl.symm] using hl
            have eDK : K D = none := row7.le.none hD
            have elK : K l = none := row7.le.none hl3
            have eDH := lH.none eDK
            rw [gl] at hK
            cases hK
            obtain ⟨tw, k15', _⟩ := row8.row
            have m15l : b15 ≠ l := by rintro rfl; rw [k15'] at gl; simp at gl
            have lT : HLe K (K'.del l) := HLe.del_new row8.le elK
            have kT5 := lT _ _ k5
            have lHT : HLe H (K'.del l) := lH.trans lT
            have kT15 : (K'.del l) b15 = some (.cells [.sl (itsAV wl) tw] 105) := by simp [Heap.del, m15l, k15']
            have hDT : (K'.del l) D = some .dfr := by simp [Heap.del, hDl, gD]
            generalize K'.del l = KT at *
            simp -implicitDefEqProofs [hpe]
            have hGT : Glob KT := hG.le lHT
            have f1 := c_equalP (H := KT) wl wl .no .no (by rw [hwl]; omega)
            have f2 := f2 _ hGT
        
            have f3 := c_equalP (H := KT) (PJ.map PI.it) (PJ.map PI.it) .no .no (by rw [List.length_map]; omega)
            have f4 := f4 _ hGT
        
            have g1 := g1 _ hGT
        
            have g2 := qP _ hGT
            have g3 := g3 _ hGT
        
            simp -implicitDefEqProofs [u0, u2, u3, u5, u9, u11, u12, u15, kT15, mark_ret, mark_nrm]
            refine ACall.ok f1 (by simp [wkL, wk, wkL_refl]) ?_
            simp -implicitDefEqProofs [u0, u2, u3, u5, u9, u11, u12, u15]
            refine ACall.ok f2 (by simp [wkL, wk, wkL_refl]) ?_
            simp -implicitDefEqProofs [u0, u2, u3, u5, u9, u11, u12, u15]
            refine ACall.ok f3 (by simp [wkL, wk, wkL_refl]) ?_
            simp -implicitDefEqProofs [u0, u2, u3, u5, u9, u11, u12, u15, kT5]
            refine ACall.ok f4 (by simp [wkL, wk, wkL_refl]) ?_
            simp -implicitDefEqProofs [u0, u2, u3, u5, u9, u11, u12, u15]
            refine ACall.ok f1 (by simp [wkL, wk, wkL_refl]) ?_
            simp -implicitDefEqProofs [u0, u2, u3, u5, u9, u11, u12, u15]
            refine ACall.ok g1 (by simp [wkL, wk, wkL_refl]) ?_
            simp -implicitDefEqProofs [u0, u2, u3, u5, u9, u11, u12, u15]
            refine ACall.ok g2 (by simp [wkL, wk, wkL_refl]) ?_
            simp -implicitDefEqProofs [u0, u2, u3, u5, u9, u11, u12, u15, kT5]
            refine ACall.ok g3 (by simp [wkL, wk, wkL_refl]) ?_
            simp -implicitDefEqProofs [u0, u2, u3, u5, u9, u11, u12, u15, hp1, hp2, hp3, hp4, hp1', hp2', hp3']
            refine ACall.use (qC _ hGT) (by simp [wkL, wk, wkL_refl]) (HWk.refl _) fun v K7 hv => ?_
            obtain ⟨A, cap, rfl⟩ := form_raw hv
            have l7 := hv.1
            have hDT7 := l7 _ _ hDT
            have kT5 := l7 _ _ kT5
        
            rcases hv.2 with ⟨hc0, hsl⟩ | ⟨g, zs, cap', hgn, hsl, hgK, hgl, hgc, hgm⟩
            · obtain rfl := List.map_eq_nil_iff.1 hc0
              simp only [AV.sc.injEq, Value.slice.injEq] at hsl
              obtain ⟨rfl, _, rfl⟩ := hsl
              have e3' : (clashP (PJ)).map PI.it = [] := e3.symm
              have f6 := f5 K7 (hGT.le l7)
              rw [e3'] at f6
              have f7 := ACalls.bareNil (ACalls.argsW (c_equalP (H := K7) [] [] .no .no (by simp)) (args := .sl [] .nil :: [.sl [] .no]) (by simp [wkL, wk]) (HWk.refl _))
              simp -implicitDefEqProofs [u0, u2, u3, u5, u9, u11, u12, u15]
              refine ACall.eq (c_deleteNil kT5) ?_
              simp -implicitDefEqProofs [u0, u2, u3, u5, u9, u11, u12, u15]
              refine ACall.eq f6 ?_
              simp -implicitDefEqProofs
              refine ACall.intro f7 fun v K8 hv8 => ?_
              obtain ⟨rfl, rfl⟩ := hv8
              simp -implicitDefEqProofs [mark_ret, mark_nrm, hDT7]
              exact HWk.delNew eDH (lHT.trans l7).wk
            · simp only [AV.sc.injEq, Value.slice.injEq] at hsl
              obtain ⟨rfl, hn7, rfl⟩ := hsl
              have hgK : K7 g = some (.cells (flatI (CW.map PI.it) zs) 111) := by
                rw [hgK, pit_it]
              have hCl' : (CW.map PI.it).length = CW.length := List.length_map _
              have hgl' : (flatI (CW.map PI.it) zs).length = cap * 2 := by
                have hfl : ((itsAV (CW.map PI.it)).flatMap AV.cells).length = CW.length * 2 := by rw [flat_length (szs_spec (szs_its _)), List.length_map, List.length_map]
                rw [List.length_append, hfl]
                rw [List.length_map] at hgl
                exact hgl
              have hdel := c_deleteRaw (cap := cap) (xs := CW.map PI.it) (zs := zs) (by rw [hCl']; omega) kT5 hgK hgl' (by rw [hCl']; simpa using hgc)
              rw [hCl'] at hdel
              rw [List.length_map]
              simp -implicitDefEqProofs [u0, u2, u3, u5, u9, u11, u12, u15]
              refine ACall.intro hdel fun v K8 hv8 => ?_
              obtain ⟨zs', rfl, k8, hl8, hk8⟩ := hv8
              have l8 : HLe KT K8 := fun p o hp => hk8 p o (by rintro rfl; rw [hgn] at hp; cases hp) (l7 _ _ hp)
              rw [e3] at k8 hl8 ⊢
              have f6 := f5 K8 (hGT.le l8)
              obtain ⟨CJ, hCJ⟩ : ∃ CJ, (clashP (PJ)).map PI.it = CJ := ⟨_, rfl⟩
              rw [hCJ] at f6 k8 hl8 e3 ⊢
              have hCJl : CJ.length ≤ 61 := by rw [← e3]; exact Nat.le_trans (List.length_filter_le _ _) (by rw [hCl']; omega)
              have hCJc : CJ.length ≤ cap := by
                rw [← e3]
                refine Nat.le_trans (List.length_filter_le _ _) ?_
                rw [hCl']
                simpa using hgc
              have f8 := ACalls.bareArg (f := 58) (post := [.sl (itsAV CJ) .no]) k8 (szs_its CJ) hl8 (by rw [List.length_map]; exact hCJc) hgm (ACalls.argsW (c_equalP CJ CJ .no .no (by omega)) (by simp [wkL, wk, wkL_refl]) (HWk.refl _))
              rw [List.length_map] at f8
              simp -implicitDefEqProofs [u0, u2, u3, u5, u9, u11, u12, u15]
              refine ACall.eq f6 ?_
              simp -implicitDefEqProofs
              refine ACall.intro f8 fun v K9 hv9 => ?_
              obtain ⟨rfl, rfl⟩ := hv9
              have l9 : HLe KT (K8.set g (.open CJ.length cap 2 111)) := HLe.set_new l8 hgn
              have hDT9 := l9 _ _ hDT
              simp -implicitDefEqProofs [mark_ret, mark_nrm, hDT9]
              exact ⟨hDT9, HWk.delNew eDH (lHT.trans l9).wk⟩
      · rw [hdead, if_neg (by simp)] at hrJ
        simp -implicitDefEqProofs [hd]
        obtain ⟨tw, kT15, _⟩ := row6.row
        have kT5 := k56
        have lHT : HLe H K6 := lH.trans (row6.le)
        have hw0 : wl = [] := by rw [← hwlE, hrJ]; rfl
        have kT15 : K6 b15 = some (.cells [.sl (itsAV wl) tw] 105) := by rw [hw0]; exact kT15
        generalize K6 = KT at *
        have hGT : Glob KT := hG.le lHT
        have f1 := c_equalP (H := KT) wl wl .no .no (by rw [hwl]; omega)
        have f2 := f2 _ hGT
        
        have f3 := c_equalP (H := KT) (PJ.map PI.it) (PJ.map PI.it) .no .no (by rw [List.length_map]; omega)
        have f4 := f4 _ hGT
        
        have g1 := g1 _ hGT
        
        have g2 := qP _ hGT
        have g3 := g3 _ hGT
        
        simp -implicitDefEqProofs [r0, r2, r3, r5, r9, r11, r12, kT15]
        refine ACall.ok f1 (by simp [wkL, wk, wkL_refl]) ?_
        simp -implicitDefEqProofs [r0, r2, r3, r5, r9, r11, r12]
        refine ACall.ok f2 (by simp [wkL, wk, wkL_refl]) ?_
        simp -implicitDefEqProofs [r0, r2, r3, r5, r9, r11, r12]
        refine ACall.ok f3 (by simp [wkL, wk, wkL_refl]) ?_
        simp -implicitDefEqProofs [r0, r2, r3, r5, r9, r11, r12, kT5]
        refine ACall.ok f4 (by simp [wkL, wk, wkL_refl]) ?_
        simp -implicitDefEqProofs [r0, r2, r3, r5, r9, r11, r12]
        refine ACall.ok f1 (by simp [wkL, wk, wkL_refl]) ?_
        simp -implicitDefEqProofs [r0, r2, r3, r5, r9, r11, r12]
        refine ACall.ok g1 (by simp [wkL, wk, wkL_refl]) ?_
        simp -implicitDefEqProofs [r0, r2, r3, r5, r9, r11, r12]
        refine ACall.ok g2 (by simp [wkL, wk, wkL_refl]) ?_
        simp -implicitDefEqProofs [r0, r2, r3, r5, r9, r11, r12, kT5]
        refine ACall.ok g3 (by simp [wkL, wk, wkL_refl]) ?_
        simp -implicitDefEqProofs [r0, r2, r3, r5, r9, r11, r12, hp1, hp2, hp3, hp4, hp1', hp2', hp3']
        refine ACall.use (qC _ hGT) (by simp [wkL, wk, wkL_refl]) (HWk.refl _) fun v K7 hv => ?_
        obtain ⟨A, cap, rfl⟩ := form_raw hv
        have l7 := hv.1
        have kT5 := l7 _ _ kT5
        
        rcases hv.2 with ⟨hc0, hsl⟩ | ⟨g, zs, cap', hgn, hsl, hgK, hgl, hgc, hgm⟩
        · obtain rfl := List.map_eq_nil_iff.1 hc0
          simp only [AV.sc.injEq, Value.slice.injEq] at hsl
          obtain ⟨rfl, _, rfl⟩ := hsl
          have e3' : (clashP (PJ)).map PI.it = [] := e3.symm
          have f6 := f5 K7 (hGT.le l7)
          rw [e3'] at f6
          have f7 := ACalls.bareNil (ACalls.argsW (c_equalP (H := K7) [] [] .no .no (by simp)) (args := .sl [] .nil :: [.sl [] .no]) (by simp [wkL, wk]) (HWk.refl _))
          simp -implicitDefEqProofs [r0, r2, r3, r5, r9, r11, r12]
          refine ACall.eq (c_deleteNil kT5) ?_
          simp -implicitDefEqProofs [r0, r2, r3, r5, r9, r11, r12]
          refine ACall.eq f6 ?_
          simp -implicitDefEqProofs
          refine ACall.intro f7 fun v K8 hv8 => ?_
          obtain ⟨rfl, rfl⟩ := hv8
          simp -implicitDefEqProofs
          exact (lHT.trans l7).wk
        · simp only [AV.sc.injEq, Value.slice.injEq] at hsl
          obtain ⟨rfl, hn7, rfl⟩ := hsl
          have hgK : K7 g = some (.cells (flatI (CW.map PI.it) zs) 111) := by
            rw [hgK, pit_it]
          have hCl' : (CW.map PI.it).length = CW.length := List.length_map _
          have hgl' : (flatI (CW.map PI.it) zs).length = cap * 2 := by
            have hfl : ((itsAV (CW.map PI.it)).flatMap AV.cells).length = CW.length * 2 := by rw [flat_length (szs_spec (szs_its _)), List.length_map, List.length_map]
            rw [List.length_append, hfl]
            rw [List.length_map] at hgl
            exact hgl
          have hdel := c_deleteRaw (cap := cap) (xs := CW.map PI.it) (zs := zs) (by rw [hCl']; omega) kT5 hgK hgl' (by rw [hCl']; simpa using hgc)
          rw [hCl'] at hdel
          rw [List.length_map]
          simp -implicitDefEqProofs [r0, r2, r3, r5, r9, r11, r12]
          refine ACall.intro hdel fun v K8 hv8 => ?_
          obtain ⟨zs', rfl, k8, hl8, hk8⟩ := hv8
          have l8 : HLe KT K8 := fun p o hp => hk8 p o (by rintro rfl; rw [hgn] at hp; cases hp) (l7 _ _ hp)
          rw [e3] at k8 hl8 ⊢
          have f6 := f5 K8 (hGT.le l8)
          obtain ⟨CJ, hCJ⟩ : ∃ CJ, (clashP (PJ)).map PI.it = CJ := ⟨_, rfl⟩
          rw [hCJ] at f6 k8 hl8 e3 ⊢
          have hCJl : CJ.length ≤ 61 := by rw [← e3]; exact Nat.le_trans (List.length_filter_le _ _) (by rw [hCl']; omega)
          have hCJc : CJ.length ≤ cap := by
            rw [← e3]
            refine Nat.le_trans (List.length_filter_le _ _) ?_
            rw [hCl']
            simpa using hgc
          have f8 := ACalls.bareArg (f := 58) (post := [.sl (itsAV CJ) .no]) k8 (szs_its CJ) hl8 (by rw [List.length_map]; exact hCJc) hgm (ACalls.argsW (c_equalP CJ CJ .no .no (by omega)) (by simp [wkL, wk, wkL_refl]) (HWk.refl _))
          rw [List.length_map] at f8
          simp -implicitDefEqProofs [r0, r2, r3, r5, r9, r11, r12]
          refine ACall.eq f6 ?_
          simp -implicitDefEqProofs
          refine ACall.intro f8 fun v K9 hv9 => ?_
          obtain ⟨rfl, rfl⟩ := hv9
          have l9 : HLe KT (K8.set g (.open CJ.length cap 2 111)) := HLe.set_new l8 hgn
          simp -implicitDefEqProofs
          exact (lHT.trans l9).wk
      · rw [hdead, if_neg (by simp)] at hrJ
        have k56' := k56
        unfold jbC at k56'
        rw [hpa] at k56'
        simp -implicitDefEqProofs [hma, r5, k56', hpa]
        clear k56'
        obtain ⟨tw, kT15, _⟩ := row6.row
        have kT5 := k56
        have lHT : HLe H K6 := lH.trans (row6.le)
        have hw0 : wl = [] := by rw [← hwlE, hrJ]; rfl
        have kT15 : K6 b15 = some (.cells [.sl (itsAV wl) tw] 105) := by rw [hw0]; exact kT15
        generalize K6 = KT at *
        have hGT : Glob KT := hG.le lHT
        have f1 := c_equalP (H := KT) wl wl .no .no (by rw [hwl]; omega)
        have f2 := f2 _ hGT
        
        have f3 := c_equalP (H := KT) (PJ.map PI.it) (PJ.map PI.it) .no .no (by rw [List.length_map]; omega)
        have f4 := f4 _ hGT
        
        have g1 := g1 _ hGT
        
        have g2 := qP _ hGT
        have g3 := g3 _ hGT
        
        simp -implicitDefEqProofs [r0, r2, r3, r5, r9, r11, r12, kT15]
        refine ACall.ok f1 (by simp [wkL, wk, wkL_refl]) ?_
        simp -implicitDefEqProofs [r0, r2, r3, r5, r9, r11, r12]
        refine ACall.ok f2 (by simp [wkL, wk, wkL_refl]) ?_
        simp -implicitDefEqProofs [r0, r2, r3, r5, r9, r11, r12]
        refine ACall.ok f3 (by simp [wkL, wk, wkL_refl]) ?_
        simp -implicitDefEqProofs [r0, r2, r3, r5, r9, r11, r12, kT5]
        refine ACall.ok f4 (by simp [wkL, wk, wkL_refl]) ?_
        simp -implicitDefEqProofs [r0, r2, r3, r5, r9, r11, r12]
        refine ACall.ok f1 (by simp [wkL, wk, wkL_refl]) ?_
        simp -implicitDefEqProofs [r0, r2, r3, r5, r9, r11, r12]
        refine ACall.ok g1 (by simp [wkL, wk, wkL_refl]) ?_
        simp -implicitDefEqProofs [r0, r2, r3, r5, r9, r11, r12]
        refine ACall.ok g2 (by simp [wkL, wk, wkL_refl]) ?_
        simp -implicitDefEqProofs [r0, r2, r3, r5, r9, r11, r12, kT5]
        refine ACall.ok g3 (by simp [wkL, wk, wkL_refl]) ?_
        simp -implicitDefEqProofs [r0, r2, r3, r5, r9, r11, r12, hp1, hp2, hp3, hp4, hp1', hp2', hp3']
        refine ACall.use (qC _ hGT) (by simp [wkL, wk, wkL_refl]) (HWk.refl _) fun v K7 hv => ?_
        obtain ⟨A, cap, rfl⟩ := form_raw hv
        have l7 := hv.1
        have kT5 := l7 _ _ kT5
        
        rcases hv.2 with ⟨hc0, hsl⟩ | ⟨g, zs, cap', hgn, hsl, hgK, hgl, hgc, hgm⟩
        · obtain rfl := List.map_eq_nil_iff.1 hc0
          simp only [AV.sc.injEq, Value.slice.injEq] at hsl
          obtain ⟨rfl, _, rfl⟩ := hsl
          have e3' : (clashP (PJ)).map PI.it = [] := e3.symm
          have f6 := f5 K7 (hGT.le l7)
          rw [e3'] at f6
          have f7 := ACalls.bareNil (ACalls.argsW (c_equalP (H := K7) [] [] .no .no (by simp)) (args := .sl [] .nil :: [.sl [] .no]) (by simp [wkL, wk]) (HWk.refl _))
          simp -implicitDefEqProofs [r0, r2, r3, r5, r9, r11, r12]
          refine ACall.eq (c_deleteNil kT5) ?_
          simp -implicitDefEqProofs [r0, r2, r3, r5, r9, r11, r12]
          refine ACall.eq f6 ?_
          simp -implicitDefEqProofs
          refine ACall.intro f7 fun v K8 hv8 => ?_
          obtain ⟨rfl, rfl⟩ := hv8
          simp -implicitDefEqProofs
          exact (lHT.trans l7).wk
        · simp only [AV.sc.injEq, Value.slice.injEq] at hsl
          obtain ⟨rfl, hn7, rfl⟩ := hsl
          have hgK : K7 g = some (.cells (flatI (CW.map PI.it) zs) 111) := by
            rw [hgK, pit_it]
          have hCl' : (CW.map PI.it).length = CW.length := List.length_map _
          have hgl' : (flatI (CW.map PI.it) zs).length = cap * 2 := by
            have hfl : ((itsAV (CW.map PI.it)).flatMap AV.cells).length = CW.length * 2 := by rw [flat_length (szs_spec (szs_its _)), List.length_map, List.length_map]
            rw [List.length_append, hfl]
            rw [List.length_map] at hgl
            exact hgl
          have hdel := c_deleteRaw (cap := cap) (xs := CW.map PI.it) (zs := zs) (by rw [hCl']; omega) kT5 hgK hgl' (by rw [hCl']; simpa using hgc)
          rw [hCl'] at hdel
          rw [List.length_map]
          simp -implicitDefEqProofs [r0, r2, r3, r5, r9, r11, r12]
          refine ACall.intro hdel fun v K8 hv8 => ?_
          obtain ⟨zs', rfl, k8, hl8, hk8⟩ := hv8
          have l8 : HLe KT K8 := fun p o hp => hk8 p o (by rintro rfl; rw [hgn] at hp; cases hp) (l7 _ _ hp)
          rw [e3] at k8 hl8 ⊢
          have f6 := f5 K8 (hGT.le l8)
          obtain ⟨CJ, hCJ⟩ : ∃ CJ, (clashP (PJ)).map PI.it = CJ := ⟨_, rfl⟩
          rw [hCJ] at f6 k8 hl8 e3 ⊢
          have hCJl : CJ.length ≤ 61 := by rw [← e3]; exact Nat.le_trans (List.length_filter_le _ _) (by rw [hCl']; omega)
          have hCJc : CJ.length ≤ cap := by
            rw [← e3]
            refine Nat.le_trans (List.length_filter_le _ _) ?_
            rw [hCl']
            simpa using hgc
          have f8 := ACalls.bareArg (f := 58) (post := [.sl (itsAV CJ) .no]) k8 (szs_its CJ) hl8 (by rw [List.length_map]; exact hCJc) hgm (ACalls.argsW (c_equalP CJ CJ .no .no (by omega)) (by simp [wkL, wk, wkL_refl]) (HWk.refl _))
          rw [List.length_map] at f8
          simp -implicitDefEqProofs [r0, r2, r3, r5, r9, r11, r12]
          refine ACall.eq f6 ?_
          simp -implicitDefEqProofs
          refine ACall.intro f8 fun v K9 hv9 => ?_
          obtain ⟨rfl, rfl⟩ := hv9
          have l9 : HLe KT (K8.set g (.open CJ.length cap 2 111)) := HLe.set_new l8 hgn
          simp -implicitDefEqProofs
          exact (lHT.trans l9).wk
end Go.Proofs.YtmoncokklkiikaaGreatDoor
