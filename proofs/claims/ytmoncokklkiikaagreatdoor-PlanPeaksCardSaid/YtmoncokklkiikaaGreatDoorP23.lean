/- A plan, as the document has it: put in one by one. The chapter's rows on firings. What plans' laws use: rows that are the same, items, which jobs are too many; the chapter's rows. Which jobs are too many for plans' laws; sets of numbers as maps. PlanPeaks: the law's walk. -/
import Derived.Test.YtmoncokklkiikaaGreatDoorP22
import Derived.Test.YtmoncokklkiikaaGreatDoorP20
import Derived.Test.YtmoncokklkiikaaGreatDoorP19
import Derived.Test.YtmoncokklkiikaaGreatDoorP09
set_option linter.unusedSimpArgs false
set_option linter.unusedVariables false
set_option linter.unnecessarySimpa false
namespace Go.Proofs.YtmoncokklkiikaaGreatDoor
open Rg Go
variable {H : Heap}
theorem ins_le {M : List PIt} {y : PIt} (h : M.Pairwise fun a b => a.1 ≤ b.1) : (insP M y).Pairwise fun a b => a.1 ≤ b.1 := by
  unfold insP
  rw [List.pairwise_append, List.pairwise_cons]
  refine ⟨h.filter _, ⟨fun z hz => ?_, h.filter _⟩, fun a ha b hb => ?_⟩
  · simp only [List.mem_filter, decide_eq_true_eq] at hz
    omega
  · simp only [List.mem_filter, decide_eq_true_eq] at ha
    rcases List.mem_cons.1 hb with e | hb
    · subst e; exact ha.2
    · simp only [List.mem_filter, decide_eq_true_eq] at hb; omega
theorem filt_two (t : Nat) : ∀ M : List PIt, (M.filter fun z => decide (z.1 ≤ t)).length + (M.filter fun z => decide (t < z.1)).length = M.length
  | [] => rfl
  | z :: M => by
    have := filt_two t M
    by_cases h : z.1 ≤ t
    · have h' : ¬ t < z.1 := by omega
      rw [List.filter_cons_of_pos (by simpa using h), List.filter_cons_of_neg (by simpa using h'), List.length_cons, List.length_cons]; omega
    · have h' : t < z.1 := by omega
      rw [List.filter_cons_of_neg (by simpa using h), List.filter_cons_of_pos (by simpa using h'), List.length_cons, List.length_cons]; omega
theorem ins_len (M : List PIt) (y : PIt) : (insP M y).length = M.length + 1 := by
  have := filt_two y.1 M
  unfold insP
  rw [List.length_append, List.length_cons]
  omega
theorem take_le {M : List PIt} (h : M.Pairwise fun a b => a.1 ≤ b.1) {a t : Nat} (ha : a ≤ M.length) (hl : ∀ z, M[a - 1]? = some z → 0 < a → z.1 ≤ t) : ∀ z ∈ M.take a, z.1 ≤ t := by
  intro z hz
  obtain ⟨i, hi, e⟩ := List.mem_take_iff_getElem.1 hz
  have hlt : a - 1 < M.length := by omega
  have h1 := hl M[a - 1] (List.getElem?_eq_getElem hlt) (by omega)
  rcases Nat.lt_or_ge i (a - 1) with h2 | h2
  · have := List.pairwise_iff_getElem.1 h i (a - 1) (by omega) hlt h2
    rw [← e]; omega
  · have : i = a - 1 := by omega
    subst this
    rw [← e]; exact h1
def restM (a tt : Nat) (most : Int) (j : Jb) : List Nat := (restJ a tt j).take most.toNat
theorem putRow_len (k : Nat) : ∀ (R : List Nat) (M : List PIt), (putRow M k R).length = M.length + R.length
  | [], M => rfl
  | t :: R, M => by
    show (putRow (insP M (t, k)) k R).length = _
    rw [putRow_len k R, ins_len, List.length_cons]; omega
theorem putRow_le (k : Nat) : ∀ (R : List Nat) (M : List PIt), M.Pairwise (fun a b => a.1 ≤ b.1) → (putRow M k R).Pairwise fun a b => a.1 ≤ b.1
  | [], _, h => h
  | t :: R, M, h => putRow_le k R (insP M (t, k)) (ins_le h)
theorem put_cut (js : List Jb) (a tt : Nat) (most : Int) : (putAll 0 [] (js.map (restM a tt most))).take most.toNat = (planL js a tt).take most.toNat := by
  have h := merged_put (Rs := js.map (restM a tt most)) fun R hR => by
    obtain ⟨j, _, rfl⟩ := List.mem_map.1 hR
    exact List.Pairwise.sublist (List.take_sublist _ _) (restJ_sorted a tt j)
  have e : js.map (restM a tt most) = (js.map (restJ a tt)).map fun R => R.take most.toNat := by
    rw [List.map_map]; rfl
  rw [e] at h ⊢
  exact cut_most (fun R hR => by
    obtain ⟨j, _, rfl⟩ := List.mem_map.1 hR
    exact restJ_sorted a tt j) (planL_merged js a tt) h
abbrev rItAV (js : List Jb) (z : PIt) : AV := piAV (itemOf js z)
set_option maxHeartbeats 16000000 in
theorem c_rFirst {js : List Jb} (hj : JobsOk js) (hjl : js.length ≤ 1000) (fr tt most : Int) (hmost : most ≤ 1000) :
    AOk Tryz.prog 52 [.sl (jobsAV js) .no, .sc (.int .i64 fr), .sc (.int .i64 tt), .sc (.int .i64 most)] H (.sl ((planI js fr tt most).map piAV) .no) H := by
  have hm1 := fun K : Heap => c_rMomentP (H := K) fr
  have hm2 := fun K : Heap => c_rMomentP (H := K) tt
  obtain ⟨R, hR⟩ : ∃ R, planI js fr tt most = R := ⟨_, rfl⟩
  rw [hR]
  unfold planI planZ at hR
  refine ACalls.into Tryz.func52 rfl Tryz.ntmps52 Tryz.results52 (by simp) ?_
  by_cases hm : most < 1
  · rw [show most.toNat = 0 by omega] at hR
    subst hR
    simp -implicitDefEqProofs [hm]
  simp -implicitDefEqProofs [hm]
  first | refine ACall.eq (hm1 _) ?_ | refine AQS.eq (hm1 _) ?_
  cases h1 : momP fr with
  | false =>
    rw [h1, if_neg (by simp)] at hR
    subst hR
    simp -implicitDefEqProofs
  | true =>
  simp -implicitDefEqProofs
  first | refine ACall.eq (hm2 _) ?_ | refine AQS.eq (hm2 _) ?_
  cases h2 : momP tt with
  | false =>
    rw [h2, if_neg (by simp)] at hR
    subst hR
    simp -implicitDefEqProofs
  | true =>
  rw [momP_iff] at h1 h2
  obtain ⟨a, rfl⟩ := Int.eq_ofNat_of_zero_le h1.1
  obtain ⟨b, rfl⟩ := Int.eq_ofNat_of_zero_le h2.1
  have hR2 : ((putAll 0 [] (js.map (restM a b most))).take most.toNat).map (itemOf js) = R := by
    rw [← hR, put_cut]
    refine congrArg (fun z : List PIt => (z.take most.toNat).map (itemOf js)) ?_
    by_cases h3 : (a : Int) < (b : Int)
    · rw [if_pos ⟨momP_iff.2 h1, momP_iff.2 h2, h3⟩, Int.toNat_natCast, Int.toNat_natCast]
    · rw [if_neg fun h => h3 h.2.2]
      refine (planL_merged js a b).done fun Q hQ => ?_
      obtain ⟨j, _, rfl⟩ := List.mem_map.1 hQ
      unfold restJ
      split
      · exact fires_none fun k g1 g2 => by omega
      · rfl
  clear hR
  obtain ⟨N, hN⟩ : ∃ N, putAll 0 [] (js.map (restM a b most)) = N := ⟨_, rfl⟩
  rw [hN] at hR2
  have ha : a < 13569465600 := by omega
  have hb : b < 13569465600 := by omega
  have hMl : ∀ M : List PIt, (M.map (rItAV js)).length = M.length := fun M => List.length_map _
  simp -implicitDefEqProofs
  refine AGo.rounds (fun μ ρ K => ∃ (i : Nat) (M : List PIt) (tk : Rg.Tok), μ = js.length - i ∧ i ≤ js.length ∧ putAll i M ((js.drop i).map (restM a b most)) = N ∧ M.Pairwise (fun a b => a.1 ≤ b.1) ∧ M.length ≤ 1000 * i ∧ ρ 0 = .sl (jobsAV js) .no ∧ ρ 1 = .sc (.int .i64 (a : Int)) ∧ ρ 2 = .sc (.int .i64 (b : Int)) ∧ ρ 3 = .sc (.int .i64 most) ∧ ρ 9 = .sl (M.map (rItAV js)) tk ∧ ρ 10 = .sc (.int .i64 (i : Int)) ∧ HLe H K) ?_ (m := js.length) (HLe.refl _)
    ⟨0, [], .nil, by omega, by omega, hN, List.Pairwise.nil, by simp, by simp, by simp, by simp, by simp, by simp, by simp, HLe.refl _⟩
  clear hN
  rintro μ ρ K ih ⟨i, M, tk, rfl, hi, hput, hle, hlen, r0, r1, r2, r3, r9, r10, hH⟩
  rcases Nat.lt_or_ge i js.length with hlt | hge
  · obtain ⟨j, hjx, hj'⟩ := getAt hlt
    have hjm := List.mem_of_getElem? hj'
    have hjd : jobOf js i = j := by unfold jobOf; rw [List.getD_eq_getElem?_getD, hj']; rfl
    rw [List.drop_eq_getElem_cons hlt, List.map_cons, putAll, hjx] at hput
    have hwi : IntKind.i64.wrap ((i : Int) + 1) = ((i + 1 : Nat) : Int) := wadd (b := 1) rfl (by omega)
    have hmay := fun K => c_ref14May (H := K) j .no (hj.ex j hjm)
    unfold jbAV jbC at hmay
    simp -implicitDefEqProofs [r0, r10, hlt, hjx]
    refine AAlloc.intro fun b11 h11 => ?_
    simp -implicitDefEqProofs
    generalize hK : Heap.set K b11 _ = K1
    have q11 : K1 b11 = some (.cells (jbC j .no) 25) := by rw [← hK]; simp [Heap.set]
    have l1 : HLe H K1 := by rw [← hK]; exact hH.trans (HLe.set_fresh h11)
    clear hK
    have l0 : restM a b most j = if liveJ j = true then (firesL (cronK j.ex).1 a b).take most.toNat else [] := by
      unfold restM restJ
      split
      · rfl
      · exact List.take_nil
    cases hp : j.pau with
    | true =>
      have hl : liveJ j = false := by unfold liveJ; rw [hp]; rfl
      rw [l0, hl, if_neg (by simp)] at hput
      simp -implicitDefEqProofs [q11, hp, r10, hwi]
      exact AGo.again ih (m' := js.length - (i + 1)) (by omega) (HLe.refl _) ⟨i + 1, M, tk, rfl, by omega, hput, hle, by omega, by simp [r0], by simp [r1], by simp [r2], by simp [r3], by simp [r9], by simp, l1⟩
    | false =>
    rw [hp] at hmay
    simp -implicitDefEqProofs [q11, hp]
    first | refine ACall.eq (hmay _) ?_ | refine AQS.eq (hmay _) ?_
    by_cases hma : mayJ j = 0
    · have hl : liveJ j = true := by unfold liveJ; rw [hp, hma]; rfl
      rw [l0, hl, if_pos rfl] at hput
      have hcp := fun K => c_ref7ParseW (H := K) j.ex (hj.ex j hjm)
      have hxo := cronK_lt j.ex
      have hxm := cronK_may (live_ex hma)
      have htim := live_tim hl
      obtain ⟨tmo, htmo⟩ : ∃ q : Nat, j.tim = (q : Int) := ⟨j.tim.toNat, by omega⟩
      generalize (cronK j.ex).1 = x at *
      simp -implicitDefEqProofs [hma, q11]
      refine ACall.eq (hcp _) ?_
      simp -implicitDefEqProofs
      refine AAlloc.intro fun b12 h12 => ?_
      simp -implicitDefEqProofs
      generalize hK : Heap.set K1 b12 _ = K2
      have l2 : HLe K1 K2 := by rw [← hK]; exact HLe.set_fresh h12
      have q12 : K2 b12 = some (.cells (exC x) 42) := by rw [← hK]; simp [Heap.set]
      have q11 := l2 _ _ q11
      have l1 := l1.trans l2
      clear hK h12 l2
      simp -implicitDefEqProofs [q12, r1, r2, r3]
      refine ACall.eq (c_ref8List hxo hxm ha hb most (by omega)) ?_
      obtain ⟨L, hLL⟩ : ∃ L, (firesL x (a : Int) (b : Int)).take most.toNat = L := ⟨_, rfl⟩
      have hLl : L.length ≤ 1000 := by rw [← hLL, List.length_take]; omega
      have hLb : ∀ t ∈ L, t < 13569465600 := fun t ht => by
        rw [← hLL] at ht
        have := fires_bound (List.mem_of_mem_take ht)
        omega
      rw [hLL] at hput ⊢
      simp -implicitDefEqProofs
      refine AGo.joinLoop (fun ρ' K' => ∃ tk', ρ' 0 = .sl (jobsAV js) .no ∧ ρ' 1 = .sc (.int .i64 (a : Int)) ∧ ρ' 2 = .sc (.int .i64 (b : Int)) ∧ ρ' 3 = .sc (.int .i64 most) ∧ ρ' 9 = .sl ((putRow M i L).map (rItAV js)) tk' ∧ ρ' 10 = .sc (.int .i64 (i : Int)) ∧ HLe K2 K') (fun k' hk' => ?_) ?_
      · refine AGo.rounds (fun μ ρ' K' => ∃ (k : Nat) (M' : List PIt) (tk' : Rg.Tok), μ = L.length - k ∧ k ≤ L.length ∧ putRow M' i (L.drop k) = putRow M i L ∧ M'.Pairwise (fun a b => a.1 ≤ b.1) ∧ M'.length = M.length + k ∧ ρ' 0 = .sl (jobsAV js) .no ∧ ρ' 1 = .sc (.int .i64 (a : Int)) ∧ ρ' 2 = .sc (.int .i64 (b : Int)) ∧ ρ' 3 = .sc (.int .i64 most) ∧ ρ' 9 = .sl (M'.map (rItAV js)) tk' ∧ ρ' 10 = .sc (.int .i64 (i : Int)) ∧ ρ' 11 = ptr b11 ∧ ρ' 14 = .sl (L.map tAV) .no ∧ ρ' 15 = .sc (.int .i64 (k : Int)) ∧ HLe K2 K') ?_ (m := L.length) (HLe.refl _)
          ⟨0, M, tk, by omega, by omega, rfl, hle, by omega, by simp [r0], by simp [r1], by simp [r2], by simp [r3], by simp [r9], by simp [r10], by simp, by simp, by simp, HLe.refl _⟩
        obtain ⟨PM, hPM⟩ : ∃ q, putRow M i L = q := ⟨_, rfl⟩
        rw [hPM] at hk' ⊢
        clear ih r0 r1 r2 r3 r9 r10 hput hPM hR2
        rintro μ ρ' K' ih2 ⟨k, M', tk', rfl, hk, hput, hle', hlen', r0, r1, r2, r3, r9, r10, r11, r14, r15, hle2⟩
        rcases Nat.lt_or_ge k L.length with hkl | hkl
        · obtain ⟨t, ht, ht'⟩ := getAt hkl
          have htb := hLb t (List.mem_of_getElem? ht')
          rw [List.drop_eq_getElem_cons hkl, ht] at hput
          have hput : putRow (insP M' (t, i)) i (L.drop (k + 1)) = PM := hput
          have hwk : IntKind.i64.wrap ((k : Int) + 1) = ((k + 1 : Nat) : Int) := wadd (b := 1) rfl (by omega)
          simp -implicitDefEqProofs [r14, r15, r9, hkl]
          refine AGo.joinLoop (fun ρ'' K'' => ∃ p : Nat, p ≤ M'.length ∧ (∀ z ∈ M'.take p, z.1 ≤ t) ∧ (∀ z ∈ M'.drop p, t < z.1) ∧ ρ'' 0 = .sl (jobsAV js) .no ∧ ρ'' 1 = .sc (.int .i64 (a : Int)) ∧ ρ'' 2 = .sc (.int .i64 (b : Int)) ∧ ρ'' 3 = .sc (.int .i64 most) ∧ ρ'' 9 = .sl (M'.map (rItAV js)) tk' ∧ ρ'' 10 = .sc (.int .i64 (i : Int)) ∧ ρ'' 11 = ptr b11 ∧ ρ'' 14 = .sl (L.map tAV) .no ∧ ρ'' 15 = .sc (.int .i64 (k : Int)) ∧ ρ'' 16 = .sc (.int .i64 (p : Int)) ∧ K'' = K') (fun k3 hk3 => ?_) ?_
          · refine AGo.rounds (fun μ ρ'' K'' => ∃ p : Nat, μ = p ∧ p ≤ M'.length ∧ (∀ z ∈ M'.drop p, t < z.1) ∧ ρ'' 0 = .sl (jobsAV js) .no ∧ ρ'' 1 = .sc (.int .i64 (a : Int)) ∧ ρ'' 2 = .sc (.int .i64 (b : Int)) ∧ ρ'' 3 = .sc (.int .i64 most) ∧ ρ'' 9 = .sl (M'.map (rItAV js)) tk' ∧ ρ'' 10 = .sc (.int .i64 (i : Int)) ∧ ρ'' 11 = ptr b11 ∧ ρ'' 14 = .sl (L.map tAV) .no ∧ ρ'' 15 = .sc (.int .i64 (k : Int)) ∧ ρ'' 16 = .sc (.int .i64 (p : Int)) ∧ K'' = K') ?_ (m := M'.length) (HLe.refl _)
              ⟨M'.length, rfl, Nat.le_refl _, by simp, by simp [r0], by simp [r1], by simp [r2], by simp [r3], by simp [r9], by simp [r10], by simp [r11], by simp [r14], by simp [r15], by simp, rfl⟩
            clear ih2 r0 r1 r2 r3 r9 r10 r11 r14 r15
            rintro p ρ'' K'' ih3 ⟨_, rfl, hp', hdr, r0, r1, r2, r3, r9, r10, r11, r14, r15, r16, rfl⟩
            simp -implicitDefEqProofs
            first | refine go_draw 15 f_mixed (by decide +kernel) ?_ | refine go_draw 13 f_mixed (by decide +kernel) ?_ | refine go_draw 12 f_mixed (by decide +kernel) ?_
            rcases Nat.eq_zero_or_pos p with rfl | hpos
            · simp -implicitDefEqProofs [r16]
              exact hk3 _ _ ⟨0, by omega, by simp, hdr, by simp [r0], by simp [r1], by simp [r2], by simp [r3], by simp [r9], by simp [r10], by simp [r11], by simp [r14], by simp [r15], by simp [r16], rfl⟩
            · obtain ⟨p0, hp0⟩ : ∃ q, p - 1 = q := ⟨_, rfl⟩
              have hpl : p0 < M'.length := by omega
              obtain ⟨z, hz, hz'⟩ := getAt hpl
              have hws : IntKind.i64.wrap ((p : Int) - 1) = (p0 : Int) := wsub (b := 1) hp0 (by omega) (by omega)
              have hpi : (0 : Int) < (p : Int) := by omega
              have i1 : (t : Int) < ((itemOf js z).at_ : Int) ↔ t < z.1 := by show (t : Int) < (z.1 : Int) ↔ _; omega
              by_cases hc : t < z.1
              · simp -implicitDefEqProofs [r9, r14, r15, r16, hpi, hpos, hws, hpl, hz, hkl, ht, i1, hc]
                exact AGo.again ih3 (m' := p0) (by omega) (HLe.refl _) ⟨p0, rfl, by omega, fun w hw => by
                  rw [List.drop_eq_getElem_cons hpl, hz] at hw
                  rcases List.mem_cons.1 hw with h | h
                  · rw [h]; exact hc
                  · exact hdr w (by rw [show p = p0 + 1 by omega]; exact h), by simp [r0], by simp [r1], by simp [r2], by simp [r3], by simp [r9], by simp [r10], by simp [r11], by simp [r14], by simp [r15], by simp, rfl⟩
              · simp -implicitDefEqProofs [r9, r14, r15, r16, hpi, hpos, hws, hpl, hz, hkl, ht, i1, hc]
                exact hk3 _ _ ⟨p, hp', take_le hle' hp' (fun w hw _ => by
                  rw [hp0, hz'] at hw
                  rw [← Option.some.inj hw]; omega), hdr, by simp [r0], by simp [r1], by simp [r2], by simp [r3], by simp [r9], by simp [r10], by simp [r11], by simp [r14], by simp [r15], by simp [r16], rfl⟩
          · clear r0 r1 r2 r3 r9 r10 r11 r14 r15
            rintro ρ'' K'' ⟨p, hp', htk, hdr, r0, r1, r2, r3, r9, r10, r11, r14, r15, r16, rfl⟩
            have hins : insP M' (t, i) = M'.take p ++ (t, i) :: M'.drop p := insP_at htk hdr
            have q11 := hle2 _ _ q11
            have hti : rItAV js (t, i) = .agg [.sc (.int .i64 (t : Int)), .sc (.int .u64 (j.id : Int)), .sc (.int .i64 (i : Int)), .sc (.int .i64 j.tim), .sc (.int .i64 j.lim)] := by
              unfold rItAV itemOf
              simp only [hjd, htmo, Int.toNat_natCast]
            have hgen : (M'.map (rItAV js)).take p ++ [.agg [.sc (.int .i64 (t : Int)), .sc (.int .u64 (j.id : Int)), .sc (.int .i64 (i : Int)), .sc (.int .i64 j.tim), .sc (.int .i64 j.lim)]] ++ (M'.map (rItAV js)).drop p = (insP M' (t, i)).map (rItAV js) := by
              rw [hins, List.map_append, List.map_cons, hti, List.append_assoc, List.map_take, List.map_drop]; rfl
            have hxl := hMl M'
            have hszM : szs 5 (M'.map (rItAV js)) = true := szs_map (f := rItAV js) (fun _ => rfl) _
            have hszT := szs_take hszM p
            have hszD := szs_drop hszM p
            generalize M'.map (rItAV js) = xs at *
            have hpi : (0 : Int) ≤ (p : Int) := by omega
            have hpx : p ≤ xs.length := by omega
            have hpx2 : (p : Int) ≤ (xs.length : Int) := by omega
            simp -implicitDefEqProofs [r10, r11, r14, r15, hkl, ht, q11]
            refine go_draw2 14 [0, 1, 2, 3, 4, 5, 6, 7, 8, 9, 10, 11] [12, 13] K'' f_mixed (by decide +kernel) (HC.refl _) ?_
            simp -implicitDefEqProofs [r10, r11, r14, r15, hkl, ht, q11]
            refine AES.alloc fun b17 h17 => ?_
            simp -implicitDefEqProofs
            refine AES.store (if_pos rfl) ?_ ?_
            · simp only [lset_cons, lset_nil]
              exact ((HC.refl _).setn h17).setn h17
            simp -implicitDefEqProofs
            generalize hK : Heap.set K'' b17 _ = K3
            have l3 : HLe K'' K3 := by rw [← hK]; exact HLe.set_fresh h17
            have q17 : K3 b17 = some (.cells [.sc (.int .i64 (t : Int)), .sc (.int .u64 (j.id : Int)), .sc (.int .i64 (i : Int)), .sc (.int .i64 j.tim), .sc (.int .i64 j.lim)] 109) := by rw [← hK]; simp [Heap.set]
            clear hK h17
            refine go_draw2 13 [0, 1, 2, 3, 5, 6, 8, 9, 10] [4, 7, 11, 12] K3 f_mixed (by decide +kernel) (HC.refl _) ?_
            simp -implicitDefEqProofs [r9, r16, q17, hszM, hpi, hpx, hpx2]
            have hb5 : xs.length ≤ 1001000 := by omega
            refine aes_growsF el_97 (GrowsF.zero (H0 := K3)) (by simp) hszT (by simp [List.length_take]; omega) (by simp [List.length_take, maxLen]; omega) fun t1 G1 hg1 => ?_
            rw [List.nil_append] at hg1 ⊢
            simp -implicitDefEqProofs
            refine aes_growsF el_97 hg1 hszT (by simp [szs]) (by simp [List.length_take]; omega) (by simp [List.length_take, maxLen]; omega) fun t2 G2 hg2 => ?_
            simp -implicitDefEqProofs
            refine aes_growsF el_97 hg2 (by simp [hszT]) hszD (by simp [List.length_take]; omega) (by simp [List.length_take, maxLen]; omega) fun t3 G3 hg3 => ?_
            rw [hgen] at hg3 ⊢
            simp -implicitDefEqProofs [r15, hwk]
            exact AGo.again ih2 (m' := L.length - (k + 1)) (by omega) (HLe.refl _) ⟨k + 1, insP M' (t, i), t3, rfl, by omega, hput, ins_le hle', by rw [ins_len]; omega, by simp [r0], by simp [r1], by simp [r2], by simp [r3], by simp, by simp [r10], by simp [r11], by simp [r14], by simp, (hle2.trans l3).trans hg3.le⟩
        · have hkn : ¬ k < L.length := by omega
          rw [List.drop_of_length_le hkl] at hput
          obtain rfl : M' = PM := hput
          simp -implicitDefEqProofs [r14, r15, hkn]
          exact hk' _ _ ⟨tk', by simp [r0], by simp [r1], by simp [r2], by simp [r3], by simp [r9], by simp [r10], hle2⟩
      · clear r0 r1 r2 r3 r9 r10
        rintro ρ' K' ⟨tk', r0, r1, r2, r3, r9, r10, hle2⟩
        simp -implicitDefEqProofs [r10, hwi]
        exact AGo.again ih (m' := js.length - (i + 1)) (by omega) (HLe.refl _) ⟨i + 1, putRow M i L, tk', rfl, by omega, hput, putRow_le i L M hle, by rw [putRow_len]; omega, by simp [r0], by simp [r1], by simp [r2], by simp [r3], by simp [r9], by simp, l1.trans hle2⟩
    · have hl : liveJ j = false := by unfold liveJ; rw [hp]; simp [hma]
      rw [l0, hl, if_neg (by simp)] at hput
      simp -implicitDefEqProofs [q11, hp, r10, hwi, hma]
      exact AGo.again ih (m' := js.length - (i + 1)) (by omega) (HLe.refl _) ⟨i + 1, M, tk, rfl, by omega, hput, hle, by omega, by simp [r0], by simp [r1], by simp [r2], by simp [r3], by simp [r9], by simp, l1⟩
  · have hn : ¬ i < js.length := by omega
    rw [List.drop_of_length_le hge] at hput
    obtain rfl : M = N := hput
    have hRl : R.map piAV = (M.map (rItAV js)).take most.toNat := by
      rw [← hR2, List.map_map, ← List.map_take]; rfl
    rw [hRl]
    by_cases hml : most < (M.length : Int)
    · have hm0 : 0 ≤ most := by omega
      have hm2 : most ≤ (M.length : Int) := by omega
      have hsz : szs 5 (M.map (rItAV js)) = true := szs_map (f := rItAV js) (fun _ => rfl) _
      simp -implicitDefEqProofs [r0, r3, r9, r10, hn, hml, hm0, hm2, hsz]
      exact hH.wk
    · rw [List.take_of_length_le (by rw [hMl]; omega)]
      simp -implicitDefEqProofs [r0, r3, r9, r10, hn, hml]
      exact hH.wk
end Go.Proofs.YtmoncokklkiikaaGreatDoor
namespace Go.Proofs.YtmoncokklkiikaaGreatDoor
open Rg Go
variable {H : Heap}
def ty5 : List UInt8 := [48, 32, 42, 32, 42, 32, 42, 32, 42]
def yx5 : Ex := ⟨⟨1, false⟩, ⟨16777215, true⟩, ⟨4294967294, true⟩, ⟨8190, true⟩, ⟨127, true⟩⟩
set_option maxRecDepth 100000 in
theorem ky5 : cronK ty5 = (yx5, 0) := by decide +kernel
theorem bit0 : ∀ m, m < 60 → hasB yx5.a.bits ((m : Nat) : Int) = true → m = 0 := by decide +kernel
theorem fire5 : ∀ i, i < 25 → fireB yx5 (3600 * i) = true := by decide +kernel
end Go.Proofs.YtmoncokklkiikaaGreatDoor
namespace Go.Proofs.YtmoncokklkiikaaGreatDoor
open Rg Go
variable {H : Heap}
def PI.it (y : PI) : Nat × Nat := (y.at_, y.job)
abbrev itAV (p : Nat × Nat) : AV := .agg [.sc (.int .i64 (p.1 : Int)), .sc (.int .u64 (p.2 : Int))]
theorem pit_it (L : List PI) : L.map pitAV = (L.map PI.it).map itAV := by
  rw [List.map_map]; rfl
set_option maxHeartbeats 4000000 in
theorem c_equalP (L M : List (Nat × Nat)) (t u : Rg.Tok) (hL : L.length ≤ 1000000) : AOk Tryz.prog 58 [.sl (L.map itAV) t, .sl (M.map itAV) u] H (.sc (.bool (decide (L = M)))) H := by
  refine ACalls.into Tryz.func58 rfl Tryz.ntmps58 Tryz.results58 (by simp) ?_
  simp -implicitDefEqProofs
  by_cases hl : L.length = M.length
  · have hl' : (L.length : Int) = (M.length : Int) := by omega
    simp -implicitDefEqProofs [hl, hl']
    refine AGo.rounds (fun m ρ K => ∃ i, m = L.length - i ∧ i ≤ L.length ∧ L.take i = M.take i ∧ ρ 13 = .sc (.int .i64 (i : Int)) ∧ ρ 0 = .sl (L.map itAV) t ∧ ρ 1 = .sl (M.map itAV) u ∧ ρ 12 = .sc (.int .i64 (M.length : Int)) ∧ K = H) ?_ (m := L.length) (HLe.refl _)
      ⟨0, rfl, by omega, by simp, by simp, by simp, by simp, by simp, rfl⟩
    rintro m ρ K ih ⟨i, rfl, hi, hti, r13, r0, r1, r12, rfl⟩
    rcases Nat.lt_or_ge i L.length with hlt | hge
    · have hlm : i < M.length := by omega
      obtain ⟨x, hx, hx2⟩ := getAt hlt
      obtain ⟨y, hy, hy2⟩ := getAt hlm
      have hlt' : (i : Int) < (L.length : Int) := by omega
      have hlm' : (i : Int) < (M.length : Int) := by omega
      have hw1 : IntKind.i64.wrap ((i : Int) + 1) = ((i + 1 : Nat) : Int) := wadd (b := 1) rfl (by omega)
      simp -implicitDefEqProofs [r13, r0, r1, r12, hlm, hlm']
      refine go_draw 9 f_mixed (by decide +kernel) ?_
      by_cases hxy : x = y
      · subst hxy
        simp -implicitDefEqProofs [r13, r0, r1, r12, hlt, hlm, hx, hy, hw1]
        refine AGo.again ih (m' := L.length - (i + 1)) (by omega) (HLe.refl _) ⟨i + 1, rfl, by omega, ?_, by simp, by simp [r0], by simp [r1], by simp [r12], rfl⟩
        rw [List.take_add_one, List.take_add_one, hti, hx2, hy2]
      · have hne : ¬ L = M := by
          intro e
          subst e
          rw [hx2] at hy2
          cases hy2
          exact hxy rfl
        have hb : (!((x.1 : Int) == (y.1 : Int)) || !((x.2 : Int) == (y.2 : Int))) = true := by
          by_cases h1 : x.1 = y.1
          · have h2 : ¬ x.2 = y.2 := fun h2 => hxy (Prod.ext h1 h2)
            have h2' : ¬ (x.2 : Int) = (y.2 : Int) := by omega
            simp [h2']
          · have h1' : ¬ (x.1 : Int) = (y.1 : Int) := by omega
            simp [h1']
        simp -implicitDefEqProofs [r13, r0, r1, r12, hlt, hlm, hx, hy, hb, hne]
    · have hn : ¬ (i : Int) < (M.length : Int) := by omega
      have hn' : ¬ i < M.length := by omega
      have he : L = M := by rw [List.take_of_length_le hge, List.take_of_length_le (by omega)] at hti; exact hti
      simp -implicitDefEqProofs [r13, r0, r1, r12, hn, hn', he]
  · have hl' : ¬ (L.length : Int) = (M.length : Int) := by omega
    have hne : ¬ L = M := fun e => hl (by rw [e])
    simp -implicitDefEqProofs [hl, hl', hne]
def ty6 : List UInt8 := [42, 47, 51, 48, 32, 42, 32, 42, 32, 42, 32, 42]
def yx6 : Ex := ⟨⟨1073741825, true⟩, ⟨16777215, true⟩, ⟨4294967294, true⟩, ⟨8190, true⟩, ⟨127, true⟩⟩
set_option maxRecDepth 100000 in
theorem ky6 : cronK ty6 = (yx6, 0) := by decide +kernel
def jPa : Jb := ⟨1, [97], ty5, 2, 0, 1, 0, 4000, [], false, 0, 0⟩
def jPb : Jb := ⟨2, [98], ty6, 2, 0, 1, 0, 60, [], false, 0, 0⟩
theorem jPa_live : liveJ jPa = true := by
  have e : (cronK jPa.ex).2 = 0 := by rw [show jPa.ex = ty5 from rfl, ky5]
  unfold liveJ mayJ
  rw [e]
  decide
theorem jPb_live : liveJ jPb = true := by
  have e : (cronK jPb.ex).2 = 0 := by rw [show jPb.ex = ty6 from rfl, ky6]
  unfold liveJ mayJ
  rw [e]
  decide
theorem bit6 : ∀ m, m < 60 → hasB yx6.a.bits ((m : Nat) : Int) = true → m = 0 ∨ m = 30 := by decide +kernel
theorem fires_a : firesL yx5 0 7200 = [3600, 7200] := by
  refine pNat_eq (fires_sorted _ _ _) (by decide) fun k => ?_
  rw [fires_mem]
  constructor
  · rintro ⟨h1, h2, h3⟩
    obtain ⟨n, h, m, g1, g2, g3, rfl, _, _, g5, _⟩ := fire_inv (by omega) h3
    have := bit0 m g3 g5
    simp only [List.mem_cons, List.not_mem_nil, or_false]
    omega
  · intro hk
    simp only [List.mem_cons, List.not_mem_nil, or_false] at hk
    rcases hk with rfl | rfl
    · exact ⟨by omega, by omega, fire5 1 (by omega)⟩
    · exact ⟨by omega, by omega, fire5 2 (by omega)⟩
theorem fire6 : ∀ i, i < 25 → fireB yx6 (1800 * i) = true := by decide +kernel
theorem fires_b : firesL yx6 0 7200 = [1800, 3600, 5400, 7200] := by
  refine pNat_eq (fires_sorted _ _ _) (by decide) fun k => ?_
  rw [fires_mem]
  constructor
  · rintro ⟨h1, h2, h3⟩
    obtain ⟨n, h, m, g1, g2, g3, rfl, _, _, g5, _⟩ := fire_inv (by omega) h3
    have := bit6 m g3 g5
    simp only [List.mem_cons, List.not_mem_nil, or_false]
    omega
  · intro hk
    simp only [List.mem_cons, List.not_mem_nil, or_false] at hk
    rcases hk with rfl | rfl | rfl | rfl
    · exact ⟨by omega, by omega, fire6 1 (by omega)⟩
    · exact ⟨by omega, by omega, fire6 2 (by omega)⟩
    · exact ⟨by omega, by omega, fire6 3 (by omega)⟩
    · exact ⟨by omega, by omega, fire6 4 (by omega)⟩
theorem plan_two : planL [jPa, jPb] 0 7200 = [(1800, 1), (3600, 0), (3600, 1), (5400, 1), (7200, 0), (7200, 1)] := by
  have ea : restJ 0 7200 jPa = [3600, 7200] := by
    unfold restJ
    rw [if_pos jPa_live, show jPa.ex = ty5 from rfl, ky5]
    exact fires_a
  have eb : restJ 0 7200 jPb = [1800, 3600, 5400, 7200] := by
    unfold restJ
    rw [if_pos jPb_live, show jPb.ex = ty6 from rfl, ky6]
    exact fires_b
  unfold planL
  rw [List.map_cons, List.map_cons, List.map_nil, ea, eb]
  decide
def itemsTwo : List PI := [⟨1800, 2, 1, 60, 1⟩, ⟨3600, 1, 0, 4000, 1⟩, ⟨3600, 2, 1, 60, 1⟩, ⟨5400, 2, 1, 60, 1⟩, ⟨7200, 1, 0, 4000, 1⟩, ⟨7200, 2, 1, 60, 1⟩]
theorem planI_two : planI [jPa, jPb] 0 7200 9 = itemsTwo := by
  unfold planI planZ
  rw [if_pos (by decide), show (0 : Int).toNat = 0 from rfl, show (7200 : Int).toNat = 7200 from rfl, plan_two]
  rfl
theorem planI_five : planI [jPa, jPb] 5 5 9 = [] := by
  unfold planI planZ
  rw [if_neg (by decide)]
  rfl
theorem planI_zero : planI [jPa, jPb] 0 7200 0 = [] := rfl
theorem jobs_two : JobsOk [jPa, jPb] := by
  refine ⟨by decide, ?_, ?_, by decide⟩
  · intro j hj
    simp only [List.mem_cons, List.not_mem_nil, or_false] at hj
    rcases hj with rfl | rfl <;> decide
  · intro j hj
    simp only [List.mem_cons, List.not_mem_nil, or_false] at hj
    rcases hj with rfl | rfl <;> decide
theorem c_two : AOk Tryz.prog 124 [] H (.sl (jobsAV [jPa, jPb]) .no) H := by
  refine ACalls.into Tryz.func124 rfl Tryz.ntmps124 Tryz.results124 (by simp) ?_
  simp -implicitDefEqProofs
  refine AAlloc.intro fun b1 h1 => ?_
  simp -implicitDefEqProofs
  refine AAlloc.intro fun b2 h2 => ?_
  have n12 : b1 ≠ b2 := by intro e; subst e; simp [Heap.set] at h2
  have e2 : H b2 = none := (HLe.set_fresh h1).none h2
  simp -implicitDefEqProofs [n12, jPa, jPb, ty5, ty6]
  repeat (first | exact HWk.refl _ | refine HWk.new (by assumption) ?_)
theorem c_known37 (hG : Glob H) : AOk Tryz.prog 50 [] H (.sc (.bool true)) H := by
  have hT : GlobT H := hG.ctz
  have f1 := c_pFirst hG hT jobs_two 0 7200 9 (by omega)
  have f2 := c_pPeak hG hT jobs_two 0 7200 9 (by omega)
  have f3 := c_pGap hG hT jobs_two 0 7200 9 (by omega)
  have f4 := c_pClashes hG hT jobs_two 0 7200 9 (by omega)
  have f5 := c_pFirst hG hT jobs_two 5 5 9 (by omega)
  have f6 := c_pFirst hG hT jobs_two 0 7200 0 (by omega)
  rw [planI_two] at f1 f2 f3 f4
  rw [planI_five] at f5
  rw [planI_zero] at f6
  rw [show peakP itemsTwo = (3, 7200) by decide] at f2
  rw [show gapP itemsTwo 0 7200 = (0, 1800) by decide] at f3
  rw [show clashP itemsTwo = [⟨7200, 1, 0, 4000, 1⟩] from by kernel_rfl] at f4
  have g1 := c_equalP (H := H) [(1800, 2), (3600, 1), (3600, 2), (5400, 2), (7200, 1), (7200, 2)] [(1800, 2), (3600, 1), (3600, 2), (5400, 2), (7200, 1), (7200, 2)] .no .full (by decide)
  have g2 := c_equalP (H := H) [(7200, 1)] [(7200, 1)] .no .full (by decide)
  simp only [itemsTwo, List.map_cons, List.map_nil] at f1 f4 f5 f6 g1 g2
  refine ACalls.into Tryz.func50 rfl Tryz.ntmps50 Tryz.results50 (by simp) ?_
  simp -implicitDefEqProofs
  refine ACall.eq c_two ?_
  simp -implicitDefEqProofs
  refine ACall.eq f1 ?_
  simp -implicitDefEqProofs
  refine ACall.eq c_two ?_
  simp -implicitDefEqProofs
  refine ACall.eq f2 ?_
  simp -implicitDefEqProofs
  refine ACall.eq c_two ?_
  simp -implicitDefEqProofs
  refine ACall.eq f3 ?_
  simp -implicitDefEqProofs
  refine ACall.eq g1 ?_
  simp -implicitDefEqProofs
  refine ACall.eq c_two ?_
  simp -implicitDefEqProofs
  refine ACall.eq f4 ?_
  simp -implicitDefEqProofs
  refine ACall.eq g2 ?_
  simp -implicitDefEqProofs
  refine ACall.eq c_two ?_
  simp -implicitDefEqProofs
  refine ACall.eq f5 ?_
  simp -implicitDefEqProofs
  refine ACall.eq c_two ?_
  simp -implicitDefEqProofs
  refine ACall.eq f6 ?_
  simp -implicitDefEqProofs
end Go.Proofs.YtmoncokklkiikaaGreatDoor
namespace Go.Proofs.YtmoncokklkiikaaGreatDoor
open Rg Go
variable {H : Heap}
abbrev u64V (n : Nat) : AV := .sc (.int .u64 (n : Int))
def setU (D : List Nat) : List (AV × AV × Nat) := D.zipIdx.map fun p => (u64V p.1, .agg [], p.2)
theorem setU_snoc (D : List Nat) (a : Nat) : setU (D ++ [a]) = setU D ++ [(u64V a, .agg [], D.length)] := by
  unfold setU
  rw [List.zipIdx_append]
  simp
theorem aeqv_u64 (k x : Nat) : aeqv Tryz.prog 5 22 (u64V k) (u64V x) = some (decide (k = x)) := by
  have e : decide (k = x) = decide ((k : Int) = (x : Int)) := by
    by_cases h : k = x
    · subst h; simp
    · have : ¬ (k : Int) = (x : Int) := by omega
      simp [h, this]
  rw [e]
  unfold u64V aeqv
  simp [tkd_22]
  rfl
theorem leastU (p : Nat → Prop) : ∀ n, p n → ∃ m, m ≤ n ∧ p m ∧ ∀ k, k < m → ¬ p k := fun n => by
  induction n using Nat.strongRecOn with
  | _ n ih =>
    intro hn
    by_cases h : ∃ k, k < n ∧ p k
    · obtain ⟨k, hk, hp⟩ := h
      obtain ⟨m, h1, h2, h3⟩ := ih k hk hp
      exact ⟨m, by omega, h2, h3⟩
    · exact ⟨n, Nat.le_refl n, hn, fun k hk hp => h ⟨k, hk, hp⟩⟩
theorem setU_hit {D : List Nat} {a : Nat} (h : a ∈ D) : ∃ i, afind Tryz.prog 22 (u64V a) (setU D) 0 = some (some (i, .agg [])) := by
  obtain ⟨n, hn, hmin⟩ : ∃ n, D[n]? = some a ∧ ∀ j, j < n → D[j]? ≠ some a := by
    obtain ⟨n, hn⟩ := List.getElem?_of_mem h
    obtain ⟨m, h1, h2, h3⟩ := leastU (fun k => D[k]? = some a) n hn
    exact ⟨m, h2, h3⟩
  have hz : D.zipIdx[n]? = some (a, n) := by simp [List.getElem?_zipIdx, hn]
  refine ⟨n, ?_⟩
  have := afind_hit (P := Tryz.prog) (kt := 22) (k := u64V a) (fun p : Nat × Nat => u64V p.1) (fun _ => .agg []) (fun p => p.2) (fun p => decide (a = p.1)) D.zipIdx 0 n (a, n) (fun p _ => aeqv_u64 a p.1) hz (by simp) fun j p hj hp => by
    simp only [decide_eq_false_iff_not]
    intro e
    simp only [List.getElem?_zipIdx, Option.map_eq_some_iff] at hp
    obtain ⟨y, h1, h2⟩ := hp
    rw [← h2] at e
    exact hmin j hj (by rw [h1, e])
  rw [Nat.zero_add] at this
  exact this
theorem setU_miss {D : List Nat} {a : Nat} (h : a ∉ D) : afind Tryz.prog 22 (u64V a) (setU D) 0 = some none := by
  refine afind_miss (P := Tryz.prog) (kt := 22) (k := u64V a) (fun p : Nat × Nat => u64V p.1) (fun _ => .agg []) (fun p => p.2) (fun p => decide (a = p.1)) D.zipIdx 0 (fun p _ => aeqv_u64 a p.1) fun p hp => ?_
  simp only [decide_eq_false_iff_not]
  rintro rfl
  exact h (List.fst_mem_of_mem_zipIdx hp)
theorem mapTU : Tryz.prog.underlying 184 = some (.map 22 82) := by kernel_rfl
theorem uintT : Tryz.prog.underlying 22 = some (.int .u64) := by kernel_rfl
theorem u64_check (a : Nat) : acheck Tryz.prog 3 22 (u64V a) = true := by
  unfold acheck
  rw [uintT]
def bigJ (j : Jb) : Bool := decide (1000 < IntKind.i64.wrap ((j.name.length : Int) + (j.ex.length : Int))) || decide (20 < j.deps.length)
def heavyGo : List Nat → List Jb → Bool
  | _, [] => false
  | seen, j :: r => decide (j.id ∈ seen) || bigJ j || heavyGo (seen ++ [j.id]) r
def heavyP (js : List Jb) (most : Int) : Bool := heavyGo [] js || decide (12 < js.length) || decide (60 < most)
theorem heavy_no : ∀ (js : List Jb) (seen : List Nat), heavyGo seen js = false → (∀ j ∈ js, j.id ∉ seen ∧ j.deps.length ≤ 20) ∧ (js.map Jb.id).Nodup
  | [], _, _ => ⟨by simp, List.nodup_nil⟩
  | j :: r, seen, h => by
    unfold heavyGo bigJ at h
    simp only [Bool.or_eq_false_iff, decide_eq_false_iff_not] at h
    obtain ⟨⟨h1, _, h2⟩, h3⟩ := h
    obtain ⟨g1, g2⟩ := heavy_no r _ h3
    refine ⟨fun k hk => ?_, ?_⟩
    · rcases List.mem_cons.1 hk with e | hk
      · rw [e]; exact ⟨h1, by omega⟩
      · exact ⟨fun hs => (g1 k hk).1 (List.mem_append.2 (.inl hs)), (g1 k hk).2⟩
    · rw [List.map_cons, List.nodup_cons]
      refine ⟨fun hm => ?_, g2⟩
      obtain ⟨k, hk, e⟩ := List.mem_map.1 hm
      exact (g1 k hk).1 (List.mem_append.2 (.inr (by rw [e]; simp)))
theorem heavy_ok {js : List Jb} {most : Int} (hex : ∀ j ∈ js, j.ex.length ≤ 9223372036854775807) (h : heavyP js most = false) : JobsOk js ∧ js.length ≤ 12 ∧ most ≤ 60 := by
  unfold heavyP at h
  simp only [Bool.or_eq_false_iff, decide_eq_false_iff_not] at h
  obtain ⟨⟨h1, h2⟩, h3⟩ := h
  obtain ⟨g1, g2⟩ := heavy_no js [] h1
  exact ⟨⟨by omega, hex, fun j hj => by have := (g1 j hj).2; omega, g2⟩, by omega, by omega⟩
set_option maxHeartbeats 8000000 in
theorem c_heavy37 (js : List Jb) (most : Int) (hjs : js.length ≤ 9223372036854775807) : AOk Tryz.prog 51 [.sl (jobsAV js) .no, .sc (.int .i64 most)] H (.sc (.bool (heavyP js most))) H := by
  obtain ⟨R, hR⟩ : ∃ R, heavyGo [] js = R := ⟨_, rfl⟩
  unfold heavyP
  rw [hR]
  refine ACalls.into Tryz.func51 rfl Tryz.ntmps51 Tryz.results51 (by simp) ?_
  simp -implicitDefEqProofs
  refine ACall.intro (c_makeMap 184) fun v K hv => ?_
  obtain ⟨m, hm, rfl, rfl⟩ := hv
  simp -implicitDefEqProofs
  refine AGo.rounds (fun μ ρ K => ∃ (i : Nat), μ = js.length - i ∧ i ≤ js.length ∧ heavyGo ((js.take i).map Jb.id) (js.drop i) = R ∧ ρ 0 = .sl (jobsAV js) .no ∧ ρ 1 = .sc (.int .i64 most) ∧ ρ 5 = .sc (.map (some m)) ∧ ρ 11 = .sl (jobsAV js) .no ∧ ρ 12 = .sc (.int .i64 (js.length : Int)) ∧ ρ 13 = .sc (.int .i64 (i : Int)) ∧ HLe H K ∧
    K m = some (.map (setU ((js.take i).map Jb.id)) i)) ?_ (m := js.length) (HLe.refl _)
    ⟨0, by omega, by omega, hR, by simp, by simp, by simp, by simp, by simp, by simp, HLe.set_fresh hm, by simp [Heap.set, setU]⟩
  clear hR
  rintro μ ρ K ih ⟨i, rfl, hi, hgo, r0, r1, r5, r11, r12, r13, hle, hmK⟩
  rcases Nat.lt_or_ge i js.length with hlt | hge
  · obtain ⟨j, hj, _⟩ := getAt hlt
    have hwi : IntKind.i64.wrap ((i : Int) + 1) = ((i + 1 : Nat) : Int) := wadd (b := 1) rfl (by omega)
    have hDl : ((js.take i).map Jb.id).length = i := by rw [List.length_map, List.length_take]; omega
    have hDs : (js.take (i + 1)).map Jb.id = (js.take i).map Jb.id ++ [j.id] := by
      rw [List.take_succ_eq_append_getElem hlt, List.map_append, hj]; rfl
    rw [List.drop_eq_getElem_cons hlt, heavyGo, hj, ← hDs] at hgo
    have hsn := setU_snoc ((js.take i).map Jb.id) j.id
    rw [← hDs, hDl] at hsn
    obtain ⟨D, hD⟩ : ∃ D, (js.take i).map Jb.id = D := ⟨_, rfl⟩
    rw [hD] at hgo hmK hsn hDl
    simp -implicitDefEqProofs [r11, r12, r13, hlt, hj]
    refine AAlloc.intro fun b7 h7 => ?_
    have nm7 : m ≠ b7 := by rintro rfl; rw [hmK] at h7; cases h7
    simp -implicitDefEqProofs [r5]
    generalize hK1 : Heap.set K b7 _ = K1
    have l1 : HLe K K1 := by rw [← hK1]; exact HLe.set_fresh h7
    have k7 : K1 b7 = some (.cells (jbC j .no) 25) := by rw [← hK1]; simp [Heap.set]
    have hm1 := l1 _ _ hmK
    clear hK1 h7
    by_cases hin : j.id ∈ D
    · have hR : R = true := by rw [← hgo]; simp [hin]
      subst hR
      obtain ⟨q, hq⟩ := setU_hit hin
      refine ACall.eq (c_lookup2 mapTU uintT hm1 (u64_check j.id) hq) ?_
      simp -implicitDefEqProofs
      refine AAlloc.intro fun b8 h8 => ?_
      have n78 : b7 ≠ b8 := by rintro rfl; rw [k7] at h8; cases h8
      simp -implicitDefEqProofs [n78, k7]
      exact HWk.new (hle.none (l1.none h8)) (hle.trans l1).wk
    · have hc2 := c_lookup2_no (z := .agg #[]) mapTU uintT hm1 (u64_check j.id) (by kernel_rfl) (setU_miss hin)
      refine ACall.eq hc2 ?_
      simp -implicitDefEqProofs
      refine AAlloc.intro fun b8 h8 => ?_
      have n78 : b7 ≠ b8 := by rintro rfl; rw [k7] at h8; cases h8
      have nm8 : m ≠ b8 := by rintro rfl; rw [hm1] at h8; cases h8
      have hle := hle.trans l1
      obtain ⟨w, hw⟩ : ∃ w, IntKind.i64.wrap ((j.name.length : Int) + (j.ex.length : Int)) = w := ⟨_, rfl⟩
      unfold bigJ at hgo
      rw [hw] at hgo
      have i20 : (20 : Int) < (j.deps.length : Int) ↔ 20 < j.deps.length := by omega
      by_cases c1 : 1000 < w
      · have hR : R = true := by rw [← hgo]; simp [c1]
        subst hR
        simp -implicitDefEqProofs [n78, k7, hw, c1]
        exact HWk.new (hle.none h8) hle.wk
      · by_cases c2 : 20 < j.deps.length
        · have hR : R = true := by rw [← hgo]; simp [c2]
          subst hR
          simp -implicitDefEqProofs [n78, k7, hw, c1, i20, c2]
          exact HWk.new (hle.none h8) hle.wk
        · have hgo : heavyGo ((js.take (i + 1)).map Jb.id) (js.drop (i + 1)) = R := by
            rw [← hgo]
            simp [hin, c1, c2]
          simp -implicitDefEqProofs [n78, k7, hw, c1, i20, c2, r5]
          generalize hK2 : Heap.set K1 b8 _ = K2
          have l2 : HLe K1 K2 := by rw [← hK2]; exact HLe.set_fresh h8
          have hm2 := l2 _ _ hm1
          have hle := hle.trans l2
          clear hK2
          refine ACall.eq (c_insert mapTU uintT hm2 (u64_check j.id) (setU_miss hin) (.agg [])) ?_
          rw [← hsn]
          simp -implicitDefEqProofs [r13, hwi]
          exact AGo.again ih (m' := js.length - (i + 1)) (by omega) (HLe.refl _) ⟨i + 1, rfl, by omega, hgo, by simp [r0], by simp [r1], by simp [r5], by simp [r11], by simp [r12], by simp, HLe.set_new hle hm, by simp [Heap.set]⟩
  · have hn : ¬ i < js.length := by omega
    rw [List.drop_of_length_le hge] at hgo
    obtain rfl : false = R := hgo
    have i12 : (12 : Int) < (js.length : Int) ↔ 12 < js.length := by omega
    by_cases c1 : 12 < js.length
    · simp -implicitDefEqProofs [r0, r12, r13, hn, i12, c1]
      exact hle.wk
    · simp -implicitDefEqProofs [r0, r1, r12, r13, hn, i12, c1]
      exact hle.wk
end Go.Proofs.YtmoncokklkiikaaGreatDoor
namespace Go.Proofs.YtmoncokklkiikaaGreatDoor
open Rg Go
variable {H : Heap}
set_option maxHeartbeats 8000000 in
theorem planPeaks_ok (hG : Glob H) {js : List Jb} (hjs : js.length ≤ 9223372036854775807) (hex : ∀ j ∈ js, j.ex.length ≤ 9223372036854775807) (fr tt most : Int) :
    AOk Tryz.prog 9 [.sl (jobsAV js) .no, .sc (.int .i64 fr), .sc (.int .i64 tt), .sc (.int .i64 most)] H (.sc (.bool true)) H := by
  have hT : GlobT H := hG.ctz
  refine ACalls.into Tryz.func9 rfl Tryz.ntmps9 Tryz.results9 (by simp) ?_
  simp -implicitDefEqProofs
  refine ACall.eq (c_known37 hG) ?_
  simp -implicitDefEqProofs
  refine ACall.eq (c_heavy37 js most hjs) ?_
  cases hh : heavyP js most with
  | true => simp -implicitDefEqProofs
  | false =>
  obtain ⟨hj, hl12, hm60⟩ := heavy_ok hex hh
  have q1 := c_rFirst (H := H) hj (by omega) fr tt most (by omega)
  have q2 := c_pPeak hG hT hj fr tt most (by omega)
  have q3 := c_pGap hG hT hj fr tt most (by omega)
  have q4 := fun K (h : Glob K) => c_pClashes h h.ctz hj fr tt most (by omega)
  have hLm := planI_len js fr tt most
  have hok := planI_ok (js := js) (fr := fr) (tt := tt) (most := most)
  generalize planI js fr tt most = L at *
  have hLl : L.length ≤ 60 := by omega
  have q5 := c_rPeak (H := H) L .no (by omega) hok
  have q6 := c_rGap (H := H) L .no fr tt (by omega) hok
  have q7 := c_rClashes (H := H) L .no (by omega) hok
  have hI := clashIx_map L
  have hIl := clashIx_lt L
  have hIn := clashGoI_len L 0 ([], [])
  generalize (peakP L) = pk at *
  generalize (gapP L fr tt) = gp at *
  generalize hcl : clashP L = CP at *
  change (clashIx L).length ≤ 0 + L.length at hIn
  generalize clashIx L = I at *
  simp -implicitDefEqProofs
  refine ACall.eq q1 ?_
  simp -implicitDefEqProofs
  refine ACall.eq q2 ?_
  simp -implicitDefEqProofs
  refine ACall.eq q5 ?_
  simp -implicitDefEqProofs
  refine ACall.eq q3 ?_
  simp -implicitDefEqProofs
  refine ACall.eq q6 ?_
  simp -implicitDefEqProofs
  refine ACall.eq q7 ?_
  simp -implicitDefEqProofs
  obtain ⟨cl, hclf⟩ : ∃ cl : Nat → AV, cl = fun k => pitAV (L.getD k pi0) := ⟨_, rfl⟩
  have hclI : I.map cl = CP.map pitAV := by rw [← hI, hclf, List.map_map]; rfl
  have hszc : ∀ q, szs 2 ((I.take q).map cl) = true := fun q => szs_map (f := cl) (fun k => by rw [hclf]; rfl) _
  refine AGo.rounds (fun μ ρ K => ∃ (i : Nat) (tk : Rg.Tok), μ = I.length - i ∧ i ≤ I.length ∧ ρ 0 = .sl (jobsAV js) .no ∧ ρ 1 = .sc (.int .i64 fr) ∧ ρ 2 = .sc (.int .i64 tt) ∧ ρ 3 = .sc (.int .i64 most) ∧ ρ 9 = .sl (L.map piAV) .no ∧ ρ 10 = .sc (.int .i64 (pk.1 : Int)) ∧ ρ 11 = .sc (.int .i64 (pk.2 : Int)) ∧ ρ 12 = .sc (.int .i64 (pk.1 : Int)) ∧ ρ 13 = .sc (.int .i64 (pk.2 : Int)) ∧ ρ 14 = .sc (.int .i64 (gp.1 : Int)) ∧ ρ 15 = .sc (.int .i64 (gp.2 : Int)) ∧ ρ 16 = .sc (.int .i64 (gp.1 : Int)) ∧ ρ 17 = .sc (.int .i64 (gp.2 : Int)) ∧
    ρ 18 = .sl ((I.take i).map cl) tk ∧ ρ 60 = .sl (I.map fun k : Nat => .sc (.int .i64 (k : Int))) .no ∧ ρ 61 = .sc (.int .i64 (I.length : Int)) ∧ ρ 62 = .sc (.int .i64 (i : Int)) ∧ GrowsF H ((I.take i).map cl) 2 111 tk K) ?_ (m := I.length) (HLe.refl _)
    ⟨0, .nil, by omega, by omega, by simp, by simp, by simp, by simp, by simp, by simp, by simp, by simp, by simp, by simp, by simp, by simp, by simp, by simp, by simp, by simp, by simp, .inl ⟨rfl, .inl rfl, rfl⟩⟩
  clear q1 q2 q3 q5 q6 q7
  rintro μ ρ K ih ⟨i, tk, rfl, hi, r0, r1, r2, r3, r9, r10, r11, r12, r13, r14, r15, r16, r17, r18, r60, r61, r62, hg⟩
  rcases Nat.lt_or_ge i I.length with hlt | hge
  · obtain ⟨k, hk, hk'⟩ := getAt hlt
    have hkl := hIl k (List.mem_of_getElem? hk')
    obtain ⟨y, hy, hy'⟩ := getAt hkl
    have hyd : L.getD k pi0 = y := by rw [List.getD_eq_getElem?_getD, hy']; rfl
    have hwi : IntKind.i64.wrap ((i : Int) + 1) = ((i + 1 : Nat) : Int) := wadd (b := 1) rfl (by omega)
    have hd : (I.take (i + 1)).map cl = (I.take i).map cl ++ [pitAV y] := by
      rw [List.take_succ_eq_append_getElem hlt, List.map_append, hk, hclf]
      simp only [List.map_cons, List.map_nil, hyd]
    have hxl : ((I.take i).map cl).length = i := by rw [List.length_map, List.length_take]; omega
    have hsz := hszc i
    generalize (I.take i).map cl = xs at *
    simp -implicitDefEqProofs [r60, r61, r62, hlt, hk]
    refine go_draw2 15 [0, 1, 2, 3, 4, 5, 6, 7, 8, 9, 10, 11, 12] [13, 14] K f_mixed (by decide +kernel) (HC.refl _) ?_
    simp -implicitDefEqProofs [r18, r9, hkl, hy]
    refine aes_growsF el_105 hg hsz (by simp [szs]) (by simp; omega) (by simp [maxLen]; omega) fun t1 G1 hg1 => ?_
    simp -implicitDefEqProofs [r62, hwi]
    refine AGo.again ih (m' := I.length - (i + 1)) (by omega) (HLe.refl _) ⟨i + 1, t1, rfl, by omega, by simp [r0], by simp [r1], by simp [r2], by simp [r3], by simp [r9], by simp [r10], by simp [r11], by simp [r12], by simp [r13], by simp [r14], by simp [r15], by simp [r16], by simp [r17], by simp [hd], by simp [r60], by simp [r61], by simp, ?_⟩
    rw [hd]
    exact hg1
  · have hn : ¬ i < I.length := by omega
    rw [List.take_of_length_le hge, hclI] at r18
    have hKG : Glob K := hG.le hg.le
    have h1 := q4 K hKG
    have h2 := c_equalP (H := K) (CP.map PI.it) (CP.map PI.it) .no tk (by
      rw [List.length_map, ← hI, List.length_map]; omega)
    rw [← pit_it] at h2
    simp -implicitDefEqProofs [r10, r11, r12, r13, r14, r15, r16, r17, r61, r62, r0, r1, r2, r3, r18, hn]
    first | refine ACall.eq h1 ?_ | refine AQS.eq h1 ?_
    simp -implicitDefEqProofs [r18]
    first | refine ACall.eq h2 ?_ | refine AQS.eq h2 ?_
    simp -implicitDefEqProofs
    exact hg.le.wk
end Go.Proofs.YtmoncokklkiikaaGreatDoor
