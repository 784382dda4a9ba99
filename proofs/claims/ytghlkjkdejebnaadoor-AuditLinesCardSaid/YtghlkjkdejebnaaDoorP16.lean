/- The document's rows for findings hold. The law of findings' lines. -/
import Derived.Test.YtghlkjkdejebnaaDoorP15
set_option linter.unusedSimpArgs false
set_option linter.unusedVariables false
set_option linter.unnecessarySimpa false
namespace Go.Proofs.YtghlkjkdejebnaaDoor
open Rg Go Go.RowKit
variable {H : Heap}
theorem c_equalF (L M : List (Nat × Nat)) (t u : Rg.Tok) (hL : L.length ≤ 1000000) : AOk Tryd.prog 11 [.sl (L.map fiAV) t, .sl (M.map fiAV) u] H (.sc (.bool (decide (L = M)))) H := by
  refine ACalls.into Tryd.func11 rfl Tryd.ntmps11 Tryd.results11 (by simp) ?_
  simp -implicitDefEqProofs
  by_cases hl : L.length = M.length
  · have hl' : (L.length : Int) = (M.length : Int) := by omega
    simp -implicitDefEqProofs [hl, hl']
    refine AGo.rounds (fun m ρ K => ∃ i, m = L.length - i ∧ i ≤ L.length ∧ L.take i = M.take i ∧ ρ 13 = .sc (.int .i64 (i : Int)) ∧ ρ 0 = .sl (L.map fiAV) t ∧ ρ 1 = .sl (M.map fiAV) u ∧ ρ 12 = .sc (.int .i64 (M.length : Int)) ∧ K = H) ?_ (m := L.length) (HLe.refl _)
      ⟨0, rfl, by omega, by simp, by simp, by simp, by simp, by simp, rfl⟩
    rintro m ρ K ih ⟨i, rfl, hi, hti, r13, r0, r1, r12, rfl⟩
    rcases Nat.lt_or_ge i L.length with hlt | hge
    · have hlm : i < M.length := by omega
      obtain ⟨x, hx, hx2⟩ := getAt hlt
      obtain ⟨y, hy, hy2⟩ := getAt hlm
      have hlt' : (i : Int) < (L.length : Int) := by omega
      have hlm' : (i : Int) < (M.length : Int) := by omega
      have hw1 : IntKind.i64.wrap ((i : Int) + 1) = ((i + 1 : Nat) : Int) := by rw [wrap_i64 (by omega) (by omega)]; omega
      simp -implicitDefEqProofs [r13, r0, r1, r12, hlm, hlm']
      refine go_draw 9 f_mixed (by decide +kernel) ?_
      by_cases hxy : x = y
      · subst hxy
        simp -implicitDefEqProofs [r13, r0, r1, r12, hlt, hlm, hx, hy, hw1]
        refine AGo.again ih (m' := L.length - (i + 1)) (by omega) (HLe.refl _) ⟨i + 1, rfl, by omega, ?_, by simp, by simp [r0], by simp [r1], by simp [r12], rfl⟩
        rw [List.take_add_one, List.take_add_one, hti, hx2, hy2]
      · have hne : ¬ L = M := by
          intro e
          subst e
          rw [hx2] at hy2
          cases hy2
          exact hxy rfl
        have hb : (!((x.1 : Int) == (y.1 : Int)) || !((x.2 : Int) == (y.2 : Int))) = true := by
          by_cases h1 : x.1 = y.1
          · have h2 : ¬ x.2 = y.2 := fun h2 => hxy (Prod.ext h1 h2)
            have h2' : ¬ (x.2 : Int) = (y.2 : Int) := by omega
            simp [h2']
          · have h1' : ¬ (x.1 : Int) = (y.1 : Int) := by omega
            simp [h1']
        simp -implicitDefEqProofs [r13, r0, r1, r12, hlt, hlm, hx, hy, hb, hne]
    · have hn : ¬ (i : Int) < (M.length : Int) := by omega
      have hn' : ¬ i < M.length := by omega
      have he : L = M := by rw [List.take_of_length_le hge, List.take_of_length_le (by omega)] at hti; exact hti
      simp -implicitDefEqProofs [r13, r0, r1, r12, hn, hn', he]
  · have hl' : ¬ (L.length : Int) = (M.length : Int) := by omega
    have hne : ¬ L = M := fun e => hl (by rw [e])
    simp -implicitDefEqProofs [hl, hl', hne]
theorem tfs_cnt : tfs Tryd.prog 35 = some [(false, 3, 0), (false, 3, 1), (false, 3, 2), (false, 3, 3), (false, 3, 4), (false, 3, 5)] := by kernel_rfl
theorem fnd_two : fndA false 0 (offA false + 2) = [(3, 0), (1, 1), (3, 1)] := rfl
theorem facts_tl : (factsA true 2).length = 3 := rfl
theorem facts_szs : szs 31 (factsA true 2) = true := rfl
theorem facts_two : (List.take 3 (factsA true 2)).tail = factsA false 2 := rfl
set_option maxHeartbeats 2000000 in
theorem c_known (hG : GlobA H) : AOk Tryd.prog 4 [] H (.sc (.bool true)) H := by
  have d1 : lineV 1 2 = [116, 119, 105, 99, 101, 32, 50] := by decide +kernel
  refine ACalls.into Tryd.func4 rfl Tryd.ntmps4 Tryd.results4 (by simp) ?_
  simp -implicitDefEqProofs
  refine ACall.eq (c_line hG 1 2 (by omega) (by omega) (by omega)) ?_
  rw [d1]
  simp -implicitDefEqProofs
  have c3 : ∀ K : Heap, AOk Tryd.prog 10 [] K (.sl (factsA true 2) .full) K := fun K => c_three
  refine ACall.eq (c3 _) ?_
  simp -implicitDefEqProofs
  refine ACall.eq c_count ?_
  simp -implicitDefEqProofs [cntA, tfs_cnt, aeqv, aeqF]
  have r1 : readA [103, 105, 118, 101, 110, 32, 49, 48] = some (5, 10) := by decide +kernel
  have r2 : readA [103, 105, 118, 101, 110, 32, 48, 49, 48] = none := by decide +kernel
  have q1 := c_read hG [103, 105, 118, 101, 110, 32, 49, 48] (by simp)
  rw [r1] at q1
  refine ACall.eq q1 ?_
  simp -implicitDefEqProofs [outA]
  refine AAlloc.intro fun b1 h1 => ?_
  simp -implicitDefEqProofs
  generalize hK : Heap.set H b1 _ = K1
  have kL1 : HLe H K1 := by rw [← hK]; exact HLe.set_fresh h1
  have k1 : K1 b1 = some (.cells [.sc (.int .u8 5), .sc (.int .i64 10)] 23) := by rw [← hK]; simp [Heap.set]
  clear hK
  have q2 := c_read (hG.le kL1) [103, 105, 118, 101, 110, 32, 48, 49, 48] (by simp)
  rw [r2] at q2
  refine ACall.eq q2 ?_
  simp -implicitDefEqProofs [outA]
  refine AAlloc.intro fun b3 h3 => ?_
  simp -implicitDefEqProofs
  generalize hK : Heap.set K1 b3 _ = K3
  have kL3 : HLe K1 K3 := by rw [← hK]; exact HLe.set_fresh h3
  clear hK
  replace k1 := kL3 _ _ k1
  replace kL1 := kL1.trans kL3
  refine ACall.eq (c3 _) ?_
  simp -implicitDefEqProofs
  refine ACall.intro (c_some true 2 (by omega)) fun v K5 hv => ?_
  obtain ⟨t5, rfl, l5⟩ := hv
  rw [fnd_three]
  replace k1 := l5 _ _ k1
  replace kL1 := kL1.trans l5
  simp -implicitDefEqProofs
  refine ACall.eq (c_equalF (H := K5) [(1, 2)] [(1, 2)] _ _ (by simp)) ?_
  simp -implicitDefEqProofs
  refine ACall.eq (c3 _) ?_
  simp -implicitDefEqProofs [facts_two, facts_tl, facts_szs]
  refine ACall.intro (c_some false 2 (by omega)) fun v K6 hv => ?_
  obtain ⟨t6, rfl, l6⟩ := hv
  rw [fnd_two]
  replace k1 := l6 _ _ k1
  replace kL1 := kL1.trans l6
  simp -implicitDefEqProofs
  refine ACall.eq (c_equalF (H := K6) [(3, 0), (1, 1), (3, 1)] [(3, 0), (1, 1), (3, 1)] _ _ (by simp)) ?_
  simp -implicitDefEqProofs [k1]
  refine ACall.intro (c_some false 0 (by omega)) fun v K7 hv => ?_
  obtain ⟨t7, rfl, l7⟩ := hv
  simp -implicitDefEqProofs
  exact ⟨rfl, (kL1.trans l7).wk⟩
end Go.Proofs.YtghlkjkdejebnaaDoor
namespace Go.Proofs.YtghlkjkdejebnaaDoor
open Rg Go Go.RowKit
variable {H : Heap}
theorem words_le (k : Nat) : ((wordsA[k]?).getD []).length ≤ 7 := by
  rcases h : wordsA[k]? with _ | w
  · simp
  · simpa using words_len w (List.mem_of_getElem? h)
theorem lineV_len {k : Nat} {n : Int} (h : n < 2147483648) : (lineV k n).length ≤ 30 := by
  unfold lineV
  split
  · have h1 := words_le (k - 1)
    have h2 := dec_len9 n.toNat (by omega)
    simp only [lineA, List.length_append, List.length_cons]
    omega
  · simp
theorem readA_nil : readA [] = none := by decide +kernel
set_option maxHeartbeats 2000000 in
theorem c_law (hG : GlobA H) (k : Nat) (n : Int) (s : List UInt8) (hk : k < 256) (h0 : -9223372036854775808 ≤ n) (h1 : n ≤ 9223372036854775807) :
    AOk Tryd.prog 3 [fiA k n, str s] H (.sc (.bool true)) H := by
  refine ACalls.into Tryd.func3 rfl Tryd.ntmps3 Tryd.results3 (by simp) ?_
  simp -implicitDefEqProofs [AV.cells]
  refine AAlloc.intro fun b hb => ?_
  simp -implicitDefEqProofs
  generalize hK : Heap.set H b _ = K1
  have kL : HLe H K1 := by rw [← hK]; exact HLe.set_fresh hb
  have k1 : K1 b = some (.cells [.sc (.int .u8 (k : Int)), .sc (.int .i64 n)] 23) := by rw [← hK]; simp [Heap.set]
  clear hK
  have kG := hG.le kL
  refine ACall.eq (c_known kG) ?_
  simp -implicitDefEqProofs
  by_cases hs : 300 < s.length
  · have hs' : (300 : Int) < (s.length : Int) := by omega
    simp -implicitDefEqProofs [hs, hs']
    exact kL.wk
  have hs' : ¬ (300 : Int) < (s.length : Int) := by omega
  by_cases hn : 2147483648 ≤ n
  · simp -implicitDefEqProofs [hs, hs', hn, k1]
    exact kL.wk
  simp -implicitDefEqProofs [hs, hs', hn, k1]
  refine ACall.eq (c_line kG k n hk h0 h1) ?_
  simp -implicitDefEqProofs [k1]
  refine ACall.eq (c_refLine k n hk h0 h1) ?_
  obtain ⟨t, ht⟩ : ∃ t, lineV k n = t := ⟨_, rfl⟩
  have htl : t.length ≤ 30 := by rw [← ht]; exact lineV_len (by omega)
  rw [ht]
  simp -implicitDefEqProofs
  refine AGo.joinLoop (fun ρ K => ρ 2 = .sc (.pointer (some ⟨b, 0, none⟩)) ∧ ρ 5 = str t ∧ HLe K1 K) (fun k' hk' => ?_) ?_
  · refine AGo.rounds (fun m ρ K => ∃ i : Nat, m = 2 - i ∧ i ≤ 2 ∧ ρ 2 = .sc (.pointer (some ⟨b, 0, none⟩)) ∧ ρ 5 = str t ∧ ρ 32 = .sl [str s, str t] .full ∧ ρ 33 = .sc (.int .i64 2) ∧ ρ 34 = .sc (.int .i64 (i : Int)) ∧ HLe K1 K) ?_ (m := 2) (HLe.refl _)
      ⟨0, rfl, by omega, by simp, by simp, by simp, by simp, by simp, HLe.refl _⟩
    rintro m ρ K ih ⟨i, rfl, hi, r2, r5, r32, r33, r34, hle⟩
    by_cases hi2 : i < 2
    · have hi2' : (i : Int) < 2 := by omega
      obtain ⟨x, hx, hxl⟩ : ∃ x : List UInt8, [str s, str t][i]? = some (str x) ∧ x.length ≤ 1000 := by
        have : i = 0 ∨ i = 1 := by omega
        rcases this with rfl | rfl
        · exact ⟨s, rfl, by omega⟩
        · exact ⟨t, rfl, by omega⟩
      have hw : IntKind.i64.wrap ((i : Int) + 1) = (i : Int) + 1 := wrap_i64 (by omega) (by omega)
      have hxj : ([str s, str t] : List AV)[i]'(by simpa using hi2) = str x := by
        have := List.getElem?_eq_some_iff.1 hx
        exact this.2
      simp -implicitDefEqProofs [r2, r5, r32, r33, r34, hi2, hi2', hxj]
      refine ACall.eq (c_read (kG.le hle) x hxl) ?_
      have hrr := readA_eq x
      have hcr : ∀ K : Heap, AOk Tryd.prog 8 [str x] K (outR (readA x)) K := fun K => by
        have := c_refRead (H := K) x hxl
        rw [hrr] at this
        exact this
      rcases hrx : readA x with _ | ⟨k2, n2⟩
      · rw [hrx] at hcr
        simp -implicitDefEqProofs [outA]
        refine AAlloc.intro fun b8 h8 => ?_
        simp -implicitDefEqProofs
        generalize hK8 : Heap.set K b8 _ = K8
        have l8 : HLe K K8 := by rw [← hK8]; exact HLe.set_fresh h8
        have k8 : K8 b8 = some (.cells [.sc (.int .u8 0), .sc (.int .i64 0)] 23) := by rw [← hK8]; simp [Heap.set]
        clear hK8
        refine ACall.eq (hcr _) ?_
        simp -implicitDefEqProofs [outR]
        refine AAlloc.intro fun b10 h10 => ?_
        have n8 : b8 ≠ b10 := by rintro rfl; rw [k8] at h10; cases h10
        simp -implicitDefEqProofs [n8, k8, r34, hw]
        exact AGo.again ih (m' := 2 - (i + 1)) (by omega) (HLe.refl _) ⟨i + 1, rfl, by omega, by simp [r2], by simp [r5], by simp [r32], by simp [r33], by simp, (hle.trans l8).trans (HLe.set_fresh h10)⟩
      · rw [hrx] at hcr
        simp -implicitDefEqProofs [outA]
        refine AAlloc.intro fun b8 h8 => ?_
        simp -implicitDefEqProofs
        generalize hK8 : Heap.set K b8 _ = K8
        have l8 : HLe K K8 := by rw [← hK8]; exact HLe.set_fresh h8
        have k8 : K8 b8 = some (.cells [.sc (.int .u8 (k2 : Int)), .sc (.int .i64 (n2 : Int))] 23) := by rw [← hK8]; simp [Heap.set]
        clear hK8
        refine ACall.eq (hcr _) ?_
        simp -implicitDefEqProofs [outR]
        refine AAlloc.intro fun b10 h10 => ?_
        have n8 : b8 ≠ b10 := by rintro rfl; rw [k8] at h10; cases h10
        simp -implicitDefEqProofs [n8, k8, r34, hw]
        exact AGo.again ih (m' := 2 - (i + 1)) (by omega) (HLe.refl _) ⟨i + 1, rfl, by omega, by simp [r2], by simp [r5], by simp [r32], by simp [r33], by simp, (hle.trans l8).trans (HLe.set_fresh h10)⟩
    · have hi2' : ¬ (i : Int) < 2 := by omega
      simp -implicitDefEqProofs [r2, r5, r32, r33, r34, hi2, hi2']
      exact hk' _ _ ⟨by simp [r2], by simp [r5], hle⟩
  · rintro ρ K ⟨r2, r5, hle⟩
    simp -implicitDefEqProofs [r5]
    refine ACall.eq (c_read (kG.le hle) t (by omega)) ?_
    have kb := hle _ _ k1
    by_cases hok : okA k n = true
    · have hok2 := hok
      simp only [okA, Bool.and_eq_true, decide_eq_true_eq] at hok2
      obtain ⟨z, rfl⟩ : ∃ z : Nat, n = (z : Int) := ⟨n.toNat, by omega⟩
      have hrt : readA t = some (k, z) := by
        rw [← ht, lineV, if_pos hok]
        exact readA_line ⟨hok2.1.1, hok2.1.2⟩ (by omega)
      have htn : t ≠ [] := by rintro rfl; rw [readA_nil] at hrt; cases hrt
      have htb : (t == []) = false := by simpa using htn
      rw [hrt]
      simp -implicitDefEqProofs [outA]
      refine AAlloc.intro fun b12 h12 => ?_
      have n12 : b ≠ b12 := by rintro rfl; rw [kb] at h12; cases h12
      simp -implicitDefEqProofs [r5, r2, n12, kb, htb]
      exact ((kL.trans hle).trans (HLe.set_fresh h12)).wk
    · have htn : t = [] := by rw [← ht, lineV, if_neg hok]
      subst htn
      rw [readA_nil]
      simp -implicitDefEqProofs [outA]
      refine AAlloc.intro fun b12 h12 => ?_
      have n12 : b ≠ b12 := by rintro rfl; rw [kb] at h12; cases h12
      simp -implicitDefEqProofs [r5, r2, n12, kb]
      exact ((kL.trans hle).trans (HLe.set_fresh h12)).wk
end Go.Proofs.YtghlkjkdejebnaaDoor
