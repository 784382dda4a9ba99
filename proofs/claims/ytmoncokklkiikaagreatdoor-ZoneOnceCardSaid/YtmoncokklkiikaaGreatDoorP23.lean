/- ZoneOnce. -/
import Derived.Test.YtmoncokklkiikaaGreatDoorP22
import Derived.Test.YtmoncokklkiikaaGreatDoorP19
set_option linter.unusedSimpArgs false
set_option linter.unusedVariables false
set_option linter.unnecessarySimpa false
namespace Go.Proofs.YtmoncokklkiikaaGreatDoor
open Rg Go
variable {H : Heap}
theorem GlobZ.keep {b : Nat} {A K : Heap} (h : GlobZ A) (hk : Keep b A K) {es : List (AV × AV × Nat)} {n : Nat} (hb : A b = some (.map es n)) : GlobZ K := by
  obtain ⟨⟨us, h1, h2⟩, h3⟩ := h
  refine ⟨⟨us, hk _ _ ?_ h1, h2⟩, hk _ _ ?_ h3⟩
  · rintro e; rw [e, hb] at h1; cases h1
  · rintro e; rw [e, hb] at h3; cases h3
@[simp] theorem st_lookT {P : Program} {ev : Operand → AV} {K : Heap} {T : TypeId} {x i : Operand} : astepV P (.lookup T x i true) ev K = prim P 2 T [ev x, ev i] := rfl
theorem atRho {P : Program} {n : Nat} {Q : Post} {ρ : Nat → AV} {k : List AItem} {K : Heap} (h : ∀ ρ1, ρ1 = ρ → AGo P n Q k ρ1 K) : AGo P n Q k ρ K := h ρ rfl
theorem pred_ex {n : Nat} (h : 1 ≤ n) : ∃ m : Nat, (n : Int) - 1 = (m : Int) := ⟨n - 1, by omega⟩
theorem pred_lt {n m b : Nat} (h : (n : Int) - 1 = (m : Int)) (hn : n < b) : m < b := by omega
def bef (L : List Int) : Nat → Int
  | 0 => -1
  | j + 1 => L.getD j 0
def cnt (D : List Int) (L : List Int) (j : Nat) : Nat := ((L.take j).filter fun t => decide (t ∈ D)).length
theorem bef_succ {L : List Int} {j : Nat} {t : Int} (h : L[j]? = some t) : bef L (j + 1) = t := by
  show L.getD j 0 = t
  rw [List.getD_eq_getElem?_getD, h]
  rfl
theorem bef_lt {L : List Int} (hs : L.Pairwise (· < ·)) {m : Nat} {b : Int} (hm : ∀ a ∈ L, (m : Int) < a ∧ a ≤ b) {j : Nat} {t : Int} (h : L[j]? = some t) : ¬ t ≤ bef L j := by
  have hj := (List.getElem?_eq_some_iff.1 h).1
  have ht := (List.getElem?_eq_some_iff.1 h).2
  cases j with
  | zero =>
    have := (hm t (List.mem_of_getElem? h)).1
    show ¬ t ≤ -1
    omega
  | succ j =>
    have hj2 : j < L.length := by omega
    rw [bef_succ (List.getElem?_eq_getElem hj2), ← ht]
    have := List.pairwise_iff_getElem.1 hs j (j + 1) hj2 hj (by omega)
    omega
theorem cnt_in {D L : List Int} {j : Nat} {t : Int} (h : L[j]? = some t) (ht : t ∈ D) : cnt D L (j + 1) = cnt D L j + 1 := by
  have hj := (List.getElem?_eq_some_iff.1 h).1
  unfold cnt
  rw [List.take_succ_eq_append_getElem hj, (List.getElem?_eq_some_iff.1 h).2, List.filter_append]
  simp [ht]
theorem cnt_out {D L : List Int} {j : Nat} {t : Int} (h : L[j]? = some t) (ht : t ∉ D) : cnt D L (j + 1) = cnt D L j := by
  have hj := (List.getElem?_eq_some_iff.1 h).1
  unfold cnt
  rw [List.take_succ_eq_append_getElem hj, (List.getElem?_eq_some_iff.1 h).2, List.filter_append]
  simp [ht]
theorem cnt_all {D L : List Int} (h : L.filter (fun t => decide (t ∈ D)) = D) : cnt D L L.length = D.length := by
  unfold cnt
  rw [List.take_length, h]
theorem cnt_le {D L : List Int} (h : L.filter (fun t => decide (t ∈ D)) = D) (j : Nat) : cnt D L j ≤ D.length := by
  have e : L.filter (fun t => decide (t ∈ D)) = (L.take j).filter (fun t => decide (t ∈ D)) ++ (L.drop j).filter (fun t => decide (t ∈ D)) := by rw [← List.filter_append, List.take_append_drop]
  have : D.length = (L.filter (fun t => decide (t ∈ D))).length := by rw [h]
  rw [e, List.length_append] at this
  unfold cnt
  omega
theorem nE {a b : Nat} (h : a ≠ b) : (a = b) = False := eq_false h
set_option maxHeartbeats 8000000 in
theorem zoneOnce_ok (hG : GlobZ H) (z : Zn) (tk : Rg.Tok) {x : Ex} (hx : x.ok) (fr : Int) (hlen : z.l.length ≤ 8796093022208) : AOk Tryz.prog 7 [zAV z tk, exAV x, .sc (.int .i64 fr)] H (.sc (.bool true)) H := by
  refine ACalls.into Tryz.func7 rfl Tryz.ntmps7 Tryz.results7 (by simp) ?_
  simp -implicitDefEqProofs
  refine AAlloc.intro fun b3 h3 => ?_
  simp -implicitDefEqProofs
  refine AAlloc.intro fun b4 h4 => ?_
  have n34 : b3 ≠ b4 := by intro e; subst e; simp [Heap.set] at h4
  have e4 : H b4 = none := (HLe.set_fresh h3).none h4
  simp -implicitDefEqProofs
  refine AAlloc.intro fun b6 h6 => ?_
  have n36 : b3 ≠ b6 := by intro e; subst e; simp [Heap.set, n34] at h6
  have n46 : b4 ≠ b6 := by intro e; subst e; simp [Heap.set] at h6
  have e6 : H b6 = none := ((HLe.set_fresh h3).trans (HLe.set_fresh h4)).none h6
  simp -implicitDefEqProofs
  generalize hK : Heap.set _ b6 _ = K1
  have g3 : K1 b3 = some (.cells (zC z tk) 55) := by rw [← hK]; simp [Heap.set, n34, n36]
  have g4 : K1 b4 = some (.cells (exC x) 42) := by rw [← hK]; simp [Heap.set, n46]
  have g6 : K1 b6 = some (.cells [.sc (.bool false)] 4) := by rw [← hK]; simp [Heap.set]
  have kG : GlobZ K1 := by rw [← hK]; exact ((hG.new h3).new h4).new h6
  have kW : HWk H K1 := by rw [← hK]; exact HWk.new e6 (HWk.new e4 (HWk.new h3 (HWk.refl _)))
  clear hK
  refine ACall.eq (c_known36 kG) ?_
  simp -implicitDefEqProofs [g3]
  refine ACall.eq (c_ofZ z tk hlen) ?_
  simp -implicitDefEqProofs
  refine AAlloc.intro fun b7 h7 => ?_
  have n37 : b3 ≠ b7 := by intro e; subst e; rw [g3] at h7; cases h7
  have n47 : b4 ≠ b7 := by intro e; subst e; rw [g4] at h7; cases h7
  have n67 : b6 ≠ b7 := by intro e; subst e; rw [g6] at h7; cases h7
  simp -implicitDefEqProofs [n37, n47, n67, g3]
  generalize hK : Heap.set K1 b7 _ = K2
  have g32 : K2 b3 = some (.cells (zC z tk) 55) := by rw [← hK]; simp [Heap.set, n37, g3]
  have g42 : K2 b4 = some (.cells (exC x) 42) := by rw [← hK]; simp [Heap.set, n47, g4]
  have g62 : K2 b6 = some (.cells [.sc (.bool false)] 4) := by rw [← hK]; simp [Heap.set, n67, g6]
  have g72 : K2 b7 = some (.cells (zC z .no) 61) := by rw [← hK]; simp [Heap.set]
  have kG2 : GlobZ K2 := by rw [← hK]; exact kG.new h7
  have kW2 : HWk H K2 := by rw [← hK]; exact HWk.new (kW.none h7) kW
  clear hK g3 g4 g6 kG kW
  have hW6 : ∀ o, HWk H (K2.set b6 o) := fun o => HWk.new e6 kW2
  refine ACall.eq (c_heavyZ z tk) ?_
  by_cases hv : 100 < z.l.length
  · simp -implicitDefEqProofs [hv, g62]
    exact hW6 _
  · simp -implicitDefEqProofs [hv, g72]
    refine ACall.eq (c_rMay z .no (by omega)) ?_
    cases hz : mayZ z with
    | false =>
      simp -implicitDefEqProofs [g62]
      exact hW6 _
    | true =>
      simp -implicitDefEqProofs [g42]
      refine ACall.eq (c_ref7May x hx) ?_
      cases hm : mayX x with
      | false =>
        simp -implicitDefEqProofs [g62]
        exact hW6 _
      | true =>
        by_cases f0 : fr < 172800
        · simp -implicitDefEqProofs [f0, g62]
          exact hW6 _
        · by_cases f1 : 13569033600 < fr
          · simp -implicitDefEqProofs [f0, f1, g62]
            exact hW6 _
          · obtain ⟨fr, rfl⟩ := Int.eq_ofNat_of_zero_le (a := fr) (by omega)
            obtain ⟨q, hq⟩ : ∃ q, fr % 60 = q := ⟨_, rfl⟩
            obtain ⟨B, hB⟩ : ∃ B, fr - q = B := ⟨_, rfl⟩
            have hw1 : (fr : Int).tmod 60 = (q : Int) := wmod (b := 60) hq
            have hw2 : IntKind.i64.wrap ((fr : Int) - (q : Int)) = (B : Int) := wsub hB (by omega) (by omega)
            obtain ⟨E, hE⟩ : ∃ E, B + 172800 = E := ⟨_, rfl⟩
            have hw3 : IntKind.i64.wrap ((B : Int) + 172800) = (E : Int) := wadd (b := 172800) hE (by omega)
            have hB50 : 50400 ≤ B := by omega
            have hB6 : B % 60 = 0 := by omega
            have hB1 : 172740 ≤ B := by omega
            have hB2 : B + 172800 + 50400 < 13569465600 := by omega
            obtain ⟨F, hF⟩ : ∃ F, B + 172740 = F := ⟨_, rfl⟩
            have hw5 : IntKind.i64.wrap ((E : Int) - 60) = (F : Int) := wsub (b := 60) (by omega) (by omega) (by omega)
            obtain ⟨low, hlo, l1, l2, l3, l4⟩ := begin_there hz (l := B) (by omega) (by omega)
            obtain ⟨high, hhi, u1, u2, u3, u4⟩ := begin_there hz (l := F) (by omega) (by omega)
            obtain ⟨low, rfl⟩ := Int.eq_ofNat_of_zero_le l1
            obtain ⟨high, rfl⟩ := Int.eq_ofNat_of_zero_le u1
            have hw6 : IntKind.i64.wrap ((low : Int) - 1) = (low : Int) - 1 := wrap_i64 (by omega) (by omega)
            obtain ⟨lm, hlm⟩ := pred_ex (n := low) (by omega)
            have u_low : low < 13569465600 := Int.ofNat_lt.1 l2
            have hhg2 : high < 13569465600 := Int.ofNat_lt.1 u2
            have hlm2 : lm < 13569465600 := pred_lt hlm u_low
            have hBI : (0 : Int) ≤ (B : Int) ∧ (B : Int) < 13569465600 := by omega
            have hfrM : (0 : Int) ≤ (fr : Int) ∧ (fr : Int) < 13569465600 := by omega
            have hFI : (0 : Int) ≤ (F : Int) ∧ (F : Int) < 13569465600 := by omega
            have hon := fun (D L : List Int) => once_all (x := x) (D := D) (L := L) (low := (low : Int)) (high := (high : Int)) hz hB1 hB6 hB2
            have hhi' : beginZ z ((B + 172740 : Nat) : Int) = some (high : Int) := by rw [hF]; exact hhi
            clear l1 l2 l3 l4 u1 u2 u3 u4
            simp -implicitDefEqProofs [f0, f1]
            refine ACall.intro (c_makeMap 81) fun v K3 ⟨mm, hmm, hv2, hK3⟩ => ?_
            subst hv2
            have m3 : b3 ≠ mm := by intro e; subst e; rw [g32] at hmm; cases hmm
            have m4 : b4 ≠ mm := by intro e; subst e; rw [g42] at hmm; cases hmm
            have m6 : b6 ≠ mm := by intro e; subst e; rw [g62] at hmm; cases hmm
            have m7 : b7 ≠ mm := by intro e; subst e; rw [g72] at hmm; cases hmm
            have em : H mm = none := kW2.none hmm
            have g33 : K3 b3 = some (.cells (zC z tk) 55) := by rw [hK3]; simp [Heap.set, m3, g32]
            have g43 : K3 b4 = some (.cells (exC x) 42) := by rw [hK3]; simp [Heap.set, m4, g42]
            have g63 : K3 b6 = some (.cells [.sc (.bool false)] 4) := by rw [hK3]; simp [Heap.set, m6, g62]
            have g73 : K3 b7 = some (.cells (zC z .no) 61) := by rw [hK3]; simp [Heap.set, m7, g72]
            have gm3 : K3 mm = some (.map [] 0) := by rw [hK3]; simp [Heap.set]
            have kG3 : GlobZ K3 := by rw [hK3]; exact kG2.new hmm
            have kW3 : HWk H K3 := by rw [hK3]; exact HWk.new em kW2
            clear hK3 hmm g32 g42 g62 g72 kG2 hW6
            simp -implicitDefEqProofs
            refine AAlloc.intro fun b8 h8 => ?_
            have n38 : b3 ≠ b8 := by intro e; subst e; rw [g33] at h8; cases h8
            have n48 : b4 ≠ b8 := by intro e; subst e; rw [g43] at h8; cases h8
            have n68 : b6 ≠ b8 := by intro e; subst e; rw [g63] at h8; cases h8
            have n78 : b7 ≠ b8 := by intro e; subst e; rw [g73] at h8; cases h8
            have n8m : b8 ≠ mm := by intro e; subst e; rw [gm3] at h8; cases h8
            simp -implicitDefEqProofs [hw1, hw2]
            generalize hK : Heap.set K3 b8 _ = K4
            have k3 : K4 b3 = some (.cells (zC z tk) 55) := by rw [← hK]; simp [Heap.set, n38, g33]
            have k4 : K4 b4 = some (.cells (exC x) 42) := by rw [← hK]; simp [Heap.set, n48, g43]
            have k6 : K4 b6 = some (.cells [.sc (.bool false)] 4) := by rw [← hK]; simp [Heap.set, n68, g63]
            have k7 : K4 b7 = some (.cells (zC z .no) 61) := by rw [← hK]; simp [Heap.set, n78, g73]
            have k8 : K4 b8 = some (.cells [.sc (.map (some mm))] 81) := by rw [← hK]; simp [Heap.set]
            have km : K4 mm = some (.map [] 0) := by rw [← hK]; simp [Heap.set, n8m.symm, gm3]
            have kG : GlobZ K4 := by rw [← hK]; exact kG3.new h8
            have kW : HWk H K4 := by rw [← hK]; exact HWk.new (kW3.none h8) kW3
            clear hK g33 g43 g63 g73 gm3 kG3 kW3 h8
            refine AGo.joinLoop (fun ρ K => ∃ D, BegsOk z x B 2880 D ∧ Keep mm K4 K ∧ K mm = some (.map (setE D) D.length) ∧ ρ 2 = .sc (.int .i64 (fr : Int)) ∧ ρ 3 = .sc (.pointer (some ⟨b3, 0, none⟩)) ∧ ρ 4 = .sc (.pointer (some ⟨b4, 0, none⟩)) ∧ ρ 6 = .sc (.pointer (some ⟨b6, 0, none⟩)) ∧ ρ 7 = .sc (.pointer (some ⟨b7, 0, none⟩)) ∧ ρ 8 = .sc (.pointer (some ⟨b8, 0, none⟩))) ?_ ?_
            · intro k' hk'
              refine AGo.rounds (fun μ ρ K => ∃ (i : Nat) (D : List Int) (last : Int), μ = 2880 - i ∧ i ≤ 2880 ∧ BegsOk z x B i D ∧ (D = [] ∨ last ∈ D ∧ ∀ d ∈ D, d ≤ last) ∧ Keep mm K4 K ∧ K mm = some (.map (setE D) D.length) ∧ ρ 2 = .sc (.int .i64 (fr : Int)) ∧ ρ 3 = .sc (.pointer (some ⟨b3, 0, none⟩)) ∧ ρ 4 = .sc (.pointer (some ⟨b4, 0, none⟩)) ∧ ρ 6 = .sc (.pointer (some ⟨b6, 0, none⟩)) ∧ ρ 7 = .sc (.pointer (some ⟨b7, 0, none⟩)) ∧ ρ 8 = .sc (.pointer (some ⟨b8, 0, none⟩)) ∧
                ρ 9 = .sc (.int .i64 last) ∧ ρ 10 = .sc (.int .i64 ((B + 60 * i : Nat) : Int))) ?_ (m := 2880) (HLe.refl _)
                ⟨0, [], fr, rfl, by omega, BegsOk.zero z x B, .inl rfl, Keep.refl, km, by simp, by simp, by simp, by simp, by simp, by simp, by simp, by simp⟩
              rintro μ ρ K ih ⟨i, D, last, rfl, hi, hD, hlast, hKp, hmK, r2, r3, r4, r6, r7, r8, r9, r10⟩
              obtain ⟨l, hl⟩ : ∃ l, B + 60 * i = l := ⟨_, rfl⟩
              rw [hl] at r10
              have q3 := hKp _ _ m3 k3
              have q4 := hKp _ _ m4 k4
              have q6 := hKp _ _ m6 k6
              have q7 := hKp _ _ m7 k7
              have q8 := hKp _ _ n8m k8
              by_cases hlt : i < 2880
              · have hle : l < E := by omega
                have hw4 : IntKind.i64.wrap ((l : Int) + 60) = ((B + 60 * (i + 1) : Nat) : Int) := wadd (b := 60) (by omega) (by omega)
                have hmc := momI_clk (t := l) (by omega)
                have hmy := mayC_clk (t := l) (by omega)
                have hfire : fireB x l = fitsX x (clk l) := by unfold fireB; rw [decide_eq_true (by omega), Bool.true_and]
                have hsp := fun K => c_ref5Split (H := K) (t := l) (by omega)
                simp -implicitDefEqProofs [r2, r10, hw1, hw2, hw3, hle]
                refine ACall.eq (hsp _) ?_
                generalize clk l = c at *
                simp -implicitDefEqProofs
                refine AAlloc.intro fun b11 h11 => ?_
                have n3 : b3 ≠ b11 := by intro e; subst e; rw [q3] at h11; cases h11
                have n4 : b4 ≠ b11 := by intro e; subst e; rw [q4] at h11; cases h11
                have n6 : b6 ≠ b11 := by intro e; subst e; rw [q6] at h11; cases h11
                have n8 : b8 ≠ b11 := by intro e; subst e; rw [q8] at h11; cases h11
                have nm : mm ≠ b11 := by intro e; subst e; rw [hmK] at h11; cases h11
                simp -implicitDefEqProofs [r4, q4, n4]
                generalize hK5 : Heap.set K b11 _ = K5
                have hKp5 : Keep mm K4 K5 := by rw [← hK5]; exact hKp.new h11
                have hm5 : K5 mm = some (.map (setE D) D.length) := by rw [← hK5]; simp [Heap.set, nm, hmK]
                have p3 : K5 b3 = some (.cells (zC z tk) 55) := by rw [← hK5]; simp [Heap.set, n3, q3]
                have p8 : K5 b8 = some (.cells [.sc (.map (some mm))] 81) := by rw [← hK5]; simp [Heap.set, n8, q8]
                have p11 : K5 b11 = some (.cells [.sc (.int .i64 c.y), .sc (.int .i64 c.m), .sc (.int .i64 c.d), .sc (.int .i64 c.h), .sc (.int .i64 c.mi), .sc (.int .i64 c.s), .sc (.int .i64 c.w)] 48) := by rw [← hK5]; simp [Heap.set]
                clear hK5
                refine ACall.eq (c_ref7Fits x hx c) ?_
                cases hf : fitsX x c with
                | false =>
                  rw [hf] at hfire
                  simp -implicitDefEqProofs [r10, hw4]
                  exact AGo.again ih (m' := 2880 - (i + 1)) (by omega) (HLe.refl _) ⟨i + 1, D, last, rfl, by omega, hD.skip (by rw [hl]; exact hfire), hlast, hKp5, hm5, by simp [r2], by simp [r3], by simp [r4], by simp [r6], by simp [r7], by simp [r8], by simp [r9], by simp⟩
                | true =>
                  rw [hf] at hfire
                  obtain ⟨a, hba, _⟩ := begin_there hz (l := l) (by omega) (by omega)
                  have hbc : beginC z c = some a := by unfold beginC; rw [if_pos ⟨hz, hmy⟩, hmc]; exact hba
                  have hbe : beginE z c = 0 := by unfold beginE; rw [if_pos ⟨hz, hmy⟩, hmc, hba]; rfl
                  have hb := fun K => c_zBeginC (H := K) z tk c
                  rw [hbc, hbe] at hb
                  have hdl := hD.le hz hB50 (a := a) (by rw [hl]; exact hba)
                  have hal : D ≠ [] → ¬ a < last := fun h => by
                    rcases hlast with h1 | ⟨h1, _⟩
                    · exact absurd h1 h
                    · have := hdl last h1; omega
                  simp -implicitDefEqProofs [r3, p3, p11]
                  refine ACall.eq (hb _) ?_
                  have two : D = [] ∨ D ≠ [] := by cases D <;> simp
                  have hnew : ∀ D', (a ∈ D ∧ D' = D ∨ a ∉ D ∧ D' = D ++ [a]) → BegsOk z x B (i + 1) D' ∧ (D' = [] ∨ a ∈ D' ∧ ∀ d ∈ D', d ≤ a) := fun D' hD' => by
                    rcases hD' with ⟨h1, rfl⟩ | ⟨h1, rfl⟩
                    · exact ⟨hD.old (by rw [hl]; exact hba) h1, .inr ⟨h1, hdl⟩⟩
                    · refine ⟨hD.new hz hB50 (by rw [hl]; exact hfire) (by rw [hl]; exact hba) h1, .inr ⟨by simp, fun d hd => ?_⟩⟩
                      rcases List.mem_append.1 hd with hd | hd
                      · exact hdl d hd
                      · simp only [List.mem_singleton] at hd; omega
                  have hlm : ∀ K, K mm = some (.map (setE D) D.length) → AOk Tryz.prog Tryz.prog.funcs.size (pa 14 81 [.sc (.map (some mm))]) K (.sc (.int .i64 (D.length : Int))) K := fun K h => by
                    have := c_lenMap mapT h
                    rwa [setE_len] at this
                  have put : ∃ D' K', AOk Tryz.prog Tryz.prog.funcs.size (pa 3 81 [.sc (.map (some mm)), .sc (.int .i64 a), .agg []]) K5 (.sc undef) K' ∧ (a ∈ D ∧ D' = D ∨ a ∉ D ∧ D' = D ++ [a]) ∧ Keep mm K4 K' ∧ K' mm = some (.map (setE D') D'.length) := by
                    by_cases hin : a ∈ D
                    · obtain ⟨j, hj1, hj2, hj3⟩ := set_hit hin
                      refine ⟨D, _, c_update mapT intT hm5 (i64_check a) hj1 hj3 (.agg []), .inl ⟨hin, rfl⟩, hKp5.put, ?_⟩
                      rw [set_eq hj3]
                      simp [Heap.set]
                    · refine ⟨D ++ [a], _, c_insert mapT intT hm5 (i64_check a) (set_miss hin) (.agg []), .inr ⟨hin, rfl⟩, hKp5.put, ?_⟩
                      rw [setE_snoc]
                      simp [Heap.set]
                  obtain ⟨D', K', hput, hDD, hKp', hm'⟩ := put
                  obtain ⟨hD1, hD2⟩ := hnew D' hDD
                  rcases two with h0 | h0
                  · by_cases hlt2 : a < last
                    · subst h0
                      simp -implicitDefEqProofs [optI, r9, r8, p8, hlt2]
                      refine ACall.eq (hlm _ hm5) ?_
                      simp -implicitDefEqProofs [optI, r8, p8]
                      refine ACall.eq hput ?_
                      simp -implicitDefEqProofs [r10, hw4]
                      exact AGo.again ih (m' := 2880 - (i + 1)) (by omega) (HLe.refl _) ⟨i + 1, D', a, rfl, by omega, hD1, hD2, hKp', hm', by simp [r2], by simp [r3], by simp [r4], by simp [r6], by simp [r7], by simp [r8], by simp, by simp⟩
                    · simp -implicitDefEqProofs [optI, r9, r8, p8, hlt2]
                      refine ACall.eq hput ?_
                      simp -implicitDefEqProofs [r10, hw4]
                      exact AGo.again ih (m' := 2880 - (i + 1)) (by omega) (HLe.refl _) ⟨i + 1, D', a, rfl, by omega, hD1, hD2, hKp', hm', by simp [r2], by simp [r3], by simp [r4], by simp [r6], by simp [r7], by simp [r8], by simp, by simp⟩
                  · have hlt2 := hal h0
                    simp -implicitDefEqProofs [optI, r9, r8, p8, hlt2]
                    refine ACall.eq hput ?_
                    simp -implicitDefEqProofs [r10, hw4]
                    exact AGo.again ih (m' := 2880 - (i + 1)) (by omega) (HLe.refl _) ⟨i + 1, D', a, rfl, by omega, hD1, hD2, hKp', hm', by simp [r2], by simp [r3], by simp [r4], by simp [r6], by simp [r7], by simp [r8], by simp, by simp⟩
              · obtain rfl : i = 2880 := by omega
                have hle : ¬ l < E := by omega
                simp -implicitDefEqProofs [r2, r10, hw1, hw2, hw3, hle]
                exact hk' _ _ ⟨D, hD, hKp, hmK, by simp [r2], by simp [r3], by simp [r4], by simp [r6], by simp [r7], by simp [r8]⟩
            · rintro ρ K ⟨D, hD, hKp, hmK, r2, r3, r4, r6, r7, r8⟩
              have q3 := hKp _ _ m3 k3
              have q4 := hKp _ _ m4 k4
              have q6 := hKp _ _ m6 k6
              have q7 := hKp _ _ m7 k7
              have q8 := hKp _ _ n8m k8
              have qG : GlobZ K := kG.keep hKp km
              have qW : HWk H K := hKp.wk kW em
              clear hKp k3 k4 k6 k7 k8 km kG kW
              have rl : ∀ K, AOk Tryz.prog 41 [zAV z .no, .sc (.int .i64 (B : Int))] K (.sc (.int .i64 (low : Int))) K := fun K => by
                have := c_rBegin (H := K) z .no (l := (B : Int)) hBI.1 hBI.2 hz
                rwa [show beginI z (B : Int) = (low : Int) by unfold beginI; rw [hlo]] at this
              have rh : ∀ K, AOk Tryz.prog 41 [zAV z .no, .sc (.int .i64 (F : Int))] K (.sc (.int .i64 (high : Int))) K := fun K => by
                have := c_rBegin (H := K) z .no (l := (F : Int)) hFI.1 hFI.2 hz
                rwa [show beginI z (F : Int) = (high : Int) by unfold beginI; rw [hhi]] at this
              simp -implicitDefEqProofs
              refine go_draw3J (fun ρ' K' => ∃ b15 b16, b15 ≠ b16 ∧ K b15 = none ∧ K b16 = none ∧ HLe K K' ∧ K' b15 = some (.cells [.sc (.int .i64 (low : Int))] 2) ∧ K' b16 = some (.cells [.sc (.int .i64 (high : Int))] 2) ∧
                ρ' 2 = .sc (.int .i64 (fr : Int)) ∧ ρ' 3 = .sc (.pointer (some ⟨b3, 0, none⟩)) ∧ ρ' 4 = .sc (.pointer (some ⟨b4, 0, none⟩)) ∧ ρ' 6 = .sc (.pointer (some ⟨b6, 0, none⟩)) ∧ ρ' 8 = .sc (.pointer (some ⟨b8, 0, none⟩)) ∧ ρ' 15 = .sc (.pointer (some ⟨b15, 0, none⟩)) ∧ ρ' 16 = .sc (.pointer (some ⟨b16, 0, none⟩)))
                [0, 1, 2, 3, 4, 5, 6, 7, 8, 9, 10, 11, 12, 13] K f_mixed (by decide +kernel) (HC.refl _) ?_ ?_
              · simp -implicitDefEqProofs
                iterate 5 (refine aq3_op ?_; simp -implicitDefEqProofs [r2, r7, q7, hw1, hw2])
                refine aq3_op ?_
                simp -implicitDefEqProofs
                refine ⟨_, fun H' _ => rl H', ?_⟩
                iterate 7 (refine aq3_op ?_; simp -implicitDefEqProofs [r2, r7, q7, hw1, hw2, hw3, hw5])
                refine aq3_op ?_
                simp -implicitDefEqProofs
                refine ⟨_, fun H' _ => rh H', ?_⟩
                simp -implicitDefEqProofs
                refine AWK.two 14 15 (by decide +kernel) ?_ ?_
                · refine AWE.op rfl ?_
                  simp -implicitDefEqProofs
                  refine AWS.alloc fun b15 h15 => ?_
                  refine AWK.one 15 (by decide +kernel) ?_
                  refine AWE.op rfl ?_
                  simp -implicitDefEqProofs
                  refine AWS.alloc fun b16 h16 => ?_
                  have nxy : b15 ≠ b16 := by intro e; subst e; simp [Heap.set] at h16
                  have h16' : K b16 = none := by simpa [Heap.set, nxy.symm] using h16
                  refine AWK.one 16 (by decide +kernel) ?_
                  refine AWE.op rfl ?_
                  simp -implicitDefEqProofs [nxy, nxy.symm]
                  refine AWS.store (by simp [Heap.set, nxy, nxy.symm]; exact ⟨rfl, rfl⟩) (by repeat (first | exact HC.refl _ | refine HC.setn ?_ (by assumption))) ?_
                  refine AWK.one 17 (by decide +kernel) ?_
                  refine AWE.op rfl ?_
                  simp -implicitDefEqProofs [nxy, nxy.symm]
                  refine AWS.store (by simp [Heap.set, nxy, nxy.symm]; exact ⟨rfl, rfl⟩) (by repeat (first | exact HC.refl _ | refine HC.setn ?_ (by assumption))) ?_
                  refine AWK.fin (by decide +kernel) ?_
                  exact ⟨b15, b16, nxy, by assumption, by assumption, by repeat (first | exact HLe.refl _ | refine HLe.set_new ?_ (by assumption)), by simp [Heap.set, nxy], by simp [Heap.set], by simp [r2], by simp [r3], by simp [r4], by simp [r6], by simp [r8], by simp, by simp⟩
                · refine AWE.op rfl ?_
                  simp -implicitDefEqProofs
                  refine AWS.alloc fun b16 h16 => ?_
                  refine AWK.one 14 (by decide +kernel) ?_
                  refine AWE.op rfl ?_
                  simp -implicitDefEqProofs
                  refine AWS.alloc fun b15 h15 => ?_
                  have nxy : b15 ≠ b16 := by intro e; subst e; simp [Heap.set] at h15
                  have h15' : K b15 = none := by simpa [Heap.set, nxy] using h15
                  refine AWK.one 16 (by decide +kernel) ?_
                  refine AWE.op rfl ?_
                  simp -implicitDefEqProofs [nxy, nxy.symm]
                  refine AWS.store (by simp [Heap.set, nxy, nxy.symm]; exact ⟨rfl, rfl⟩) (by repeat (first | exact HC.refl _ | refine HC.setn ?_ (by assumption))) ?_
                  refine AWK.one 17 (by decide +kernel) ?_
                  refine AWE.op rfl ?_
                  simp -implicitDefEqProofs [nxy, nxy.symm]
                  refine AWS.store (by simp [Heap.set, nxy, nxy.symm]; exact ⟨rfl, rfl⟩) (by repeat (first | exact HC.refl _ | refine HC.setn ?_ (by assumption))) ?_
                  refine AWK.fin (by decide +kernel) ?_
                  exact ⟨b15, b16, nxy, by assumption, by assumption, by repeat (first | exact HLe.refl _ | refine HLe.set_new ?_ (by assumption)), by simp [Heap.set, nxy], by simp [Heap.set], by simp [r2], by simp [r3], by simp [r4], by simp [r6], by simp [r8], by simp, by simp⟩
              · rintro ρ K5 ⟨b15, b16, n56, h15, h16, hle, g15, g16, r2, r3, r4, r6, r8, r15, r16⟩
                have p3 := hle _ _ q3
                have p4 := hle _ _ q4
                have p6 := hle _ _ q6
                have p8 := hle _ _ q8
                have pm := hle _ _ hmK
                have pG : GlobZ K5 := qG.le hle
                have pW : HWk H K5 := qW.trans hle.wk
                have e15 : H b15 = none := qW.none h15
                have e16 : H b16 = none := qW.none h16
                have x3 : b3 ≠ b15 := by rintro rfl; rw [q3] at h15; cases h15
                clear q3 q4 q6 q7 q8 hmK qG
                simp -implicitDefEqProofs
                refine AAlloc.intro fun b17 h17 => ?_
                simp -implicitDefEqProofs
                refine AAlloc.intro fun b18 h18 => ?_
                have n78 : b17 ≠ b18 := by intro e; subst e; simp [Heap.set] at h18
                have h18' : K5 b18 = none := by simpa [Heap.set, n78.symm] using h18
                have ne7 : ∀ {c : Nat} {o : AObj}, K5 c = some o → c ≠ b17 := by rintro c o hc rfl; rw [hc] at h17; cases h17
                have ne8 : ∀ {c : Nat} {o : AObj}, K5 c = some o → c ≠ b18 := by rintro c o hc rfl; rw [hc] at h18'; cases h18'
                simp -implicitDefEqProofs [r3, r4, r15, r16, p3, p4, g15, g16, ne7 p3, ne8 p3, ne7 p4, ne8 p4, ne7 g15, ne8 g15, ne7 g16, ne8 g16, hw6]
                generalize hK : Heap.set _ b18 _ = K6
                have w3 : K6 b3 = some (.cells (zC z tk) 55) := by rw [← hK]; simp [Heap.set, ne7 p3, ne8 p3, p3]
                have w6 : K6 b6 = some (.cells [.sc (.bool false)] 4) := by rw [← hK]; simp [Heap.set, ne7 p6, ne8 p6, p6]
                have w8 : K6 b8 = some (.cells [.sc (.map (some mm))] 81) := by rw [← hK]; simp [Heap.set, ne7 p8, ne8 p8, p8]
                have wm : K6 mm = some (.map (setE D) D.length) := by rw [← hK]; simp [Heap.set, ne7 pm, ne8 pm, pm]
                have w15 : K6 b15 = some (.cells [.sc (.int .i64 (low : Int))] 2) := by rw [← hK]; simp [Heap.set, ne7 g15, ne8 g15, g15]
                have w16 : K6 b16 = some (.cells [.sc (.int .i64 (high : Int))] 2) := by rw [← hK]; simp [Heap.set, ne7 g16, ne8 g16, g16]
                have w17 : K6 b17 = some (.cells [.sc (.int .i64 (-1))] 2) := by rw [← hK]; simp [Heap.set, n78]
                have w18 : K6 b18 = some (.cells [.sc (.int .i64 (0 : Nat))] 3) := by rw [← hK]; simp [Heap.set]
                have wG : GlobZ K6 := by rw [← hK]; exact (pG.new h17).new h18
                have e17 : H b17 = none := pW.none h17
                have e18 : H b18 = none := pW.none h18'
                have wW : HWk H K6 := by rw [← hK]; exact HWk.new e18 (HWk.new e17 pW)
                have z3 := nE (ne7 p3)
                have z3' := nE (ne8 p3)
                have z6 := nE (ne7 p6)
                have z6' := nE (ne8 p6)
                have z8 := nE (ne7 p8)
                have z8' := nE (ne8 p8)
                have zm := nE (ne7 pm)
                have zm' := nE (ne8 pm)
                have z15 := nE (ne7 g15)
                have z15' := nE (ne8 g15)
                have z16 := nE (ne7 g16)
                have z16' := nE (ne8 g16)
                have z78 := nE n78
                have z87 := nE n78.symm
                clear hK n78 ne7 ne8 p3 p4 p6 p8 pm g15 g16 pG pW h17 h18 h18' hle
                refine ACall.intro (c_zAll z tk x ((low : Int) - 1) (high : Int)) fun v K7 hv => ?_
                obtain ⟨c4, c5, c6, c7, rfl, hle, d4, d5, d6, d7⟩ := hv
                have y3 := hle _ _ w3
                have y6 := hle _ _ w6
                have y8 := hle _ _ w8
                have ym := hle _ _ wm
                have y15 := hle _ _ w15
                have y16 := hle _ _ w16
                have y17 := hle _ _ w17
                have y18 := hle _ _ w18
                have yG : GlobZ K7 := wG.le hle
                have yW : HWk H K7 := wW.trans hle.wk
                clear w3 w6 w8 wm w15 w16 w17 w18 wG wW hle
                have zc4 : (c4 = b17) = False := nE (by rintro rfl; rw [d4] at y17; simp at y17)
                have zc5 : (c5 = b17) = False := nE (by rintro rfl; rw [d5] at y17; simp at y17)
                have zc7 : (c7 = b17) = False := nE (by rintro rfl; rw [d7] at y17; simp at y17)
                have zc4' : (c4 = b18) = False := nE (by rintro rfl; rw [d4] at y18; simp at y18)
                have zc5' : (c5 = b18) = False := nE (by rintro rfl; rw [d5] at y18; simp at y18)
                have zc6' : (c6 = b18) = False := nE (by rintro rfl; rw [d6] at y18; simp at y18)
                have zc7' : (c7 = b18) = False := nE (by rintro rfl; rw [d7] at y18; simp at y18)
                obtain ⟨L, hL⟩ := runz_ex z x (high : Int) _ ((low : Int) - 1) (Nat.le_refl _)
                obtain ⟨o1, o2⟩ := hon D L hD hlo hhi' hL
                have hDlen := hD.len
                have oS := runz_sorted hL
                have oG := runz_gt hL
                rw [hlm] at d6 hL oG
                have zc6 : (c6 = b17) = False := nE (by rintro rfl; rw [d6] at y17; simp at y17)
                simp -implicitDefEqProofs
                refine atRho fun ρ1 hρ1 => ?_
                have r2' : ρ1 2 = .sc (.int .i64 (fr : Int)) := by rw [hρ1]; simp [r2]
                have r3' : ρ1 3 = .sc (.pointer (some ⟨b3, 0, none⟩)) := by rw [hρ1]; simp [r3]
                have r6' : ρ1 6 = .sc (.pointer (some ⟨b6, 0, none⟩)) := by rw [hρ1]; simp [r6]
                have r8' : ρ1 8 = .sc (.pointer (some ⟨b8, 0, none⟩)) := by rw [hρ1]; simp [r8]
                have r15' : ρ1 15 = .sc (.pointer (some ⟨b15, 0, none⟩)) := by rw [hρ1]; simp [r15]
                have r16' : ρ1 16 = .sc (.pointer (some ⟨b16, 0, none⟩)) := by rw [hρ1]; simp [r16]
                have r17' : ρ1 17 = .sc (.pointer (some ⟨b17, 0, none⟩)) := by rw [hρ1]; simp
                have r18' : ρ1 18 = .sc (.pointer (some ⟨b18, 0, none⟩)) := by rw [hρ1]; simp
                have r119' : ρ1 119 = .sc (.func (.func 114) #[] #[.pointer (some ⟨c6, 0, none⟩), .pointer (some ⟨c7, 0, none⟩), .pointer (some ⟨c4, 0, none⟩), .pointer (some ⟨c5, 0, none⟩)]) := by rw [hρ1]; simp
                clear hρ1 r2 r3 r4 r6 r8 r15 r16 rl rh hw1 hw2 hw3 hw5 hw6 hD hlo hhi h15 h16 e15 e16 x3
                clear ρ
                refine AGo.rangeF (gf := 114) (lb := #[.pointer (some ⟨c6, 0, none⟩), .pointer (some ⟨c7, 0, none⟩), .pointer (some ⟨c4, 0, none⟩), .pointer (some ⟨c5, 0, none⟩)])
                  (fun Dd l _ K => K b18 = some (.cells [.sc (.int .i64 (cnt D L L.length : Nat))] 3) ∧ K b3 = some (.cells (zC z tk) 55) ∧ K b6 = some (.cells [.sc (.bool false)] 4) ∧ K b8 = some (.cells [.sc (.map (some mm))] 81) ∧ K mm = some (.map (setE D) D.length) ∧
                    K Dd = some .dfr ∧ (∃ r, K l = some (.lrec r) ∧ r.st ≠ .busy ∧ r.pe = none) ∧ GlobZ K ∧ HWk H K) rfl r119' (by simp) ?_ ?_ ?_
                · intro Dd l hDd hl
                  generalize hr : ARec.mk _ _ _ _ _ _ _ _ = r0
                  have hst : r0.st = .ready := by rw [← hr]
                  have hpe : r0.pe = none := by rw [← hr]
                  have hps : r0.ps.size = 1 := by rw [← hr]; rfl
                  have hDl : Dd ≠ l := by intro e; subst e; simp [Heap.set] at hl
                  have hl3 : K7 l = none := by simpa [Heap.set, hDl.symm] using hl
                  have ne1 : ∀ {c : Nat} {o : AObj}, K7 c = some o → c ≠ Dd := by rintro c o hc rfl; rw [hc] at hDd; cases hDd
                  have ne2 : ∀ {c : Nat} {o : AObj}, K7 c = some o → c ≠ l := by rintro c o hc rfl; rw [hc] at hl3; cases hl3
                  have eD : H Dd = none := yW.none hDd
                  have el : H l = none := yW.none hl3
                  refine (c_zAllIt (l := l) (b4 := c4) (b5 := c5) (b6 := c6) (b7 := c7) (z := z) (t := tk) hz hx hm (a := lm) (b := high) hlm2 hhg2 hL
                    (fun j K => K b3 = some (.cells (zC z tk) 55) ∧ K b6 = some (.cells [.sc (.bool false)] 4) ∧ K b8 = some (.cells [.sc (.map (some mm))] 81) ∧ K mm = some (.map (setE D) D.length) ∧
                      K b15 = some (.cells [.sc (.int .i64 (low : Int))] 2) ∧ K b16 = some (.cells [.sc (.int .i64 (high : Int))] 2) ∧ K b17 = some (.cells [.sc (.int .i64 (bef L j))] 2) ∧ K b18 = some (.cells [.sc (.int .i64 (cnt D L j : Nat))] 3) ∧
                      K l = some (.lrec r0) ∧ K Dd = some .dfr ∧ K c4 = some (.cells (zC z tk) 55) ∧ K c5 = some (.cells (exC x) 42) ∧ K c6 = some (.cells [.sc (.int .i64 lm)] 2) ∧ K c7 = some (.cells [.sc (.int .i64 high)] 2) ∧ GlobZ K ∧ HWk H K)
                    (fun j K h => ⟨h.2.2.2.2.2.2.2.2.2.2.1, h.2.2.2.2.2.2.2.2.2.2.2.1, h.2.2.2.2.2.2.2.2.2.2.2.2.1, h.2.2.2.2.2.2.2.2.2.2.2.2.2.1, h.2.2.2.2.2.2.2.2.2.2.2.2.2.2.1.tab⟩) ?_ ?_).mono ?_
                  · rintro j K t hj ⟨f3, f6, f8, fm, f15, f16, f17, f18, fl, fD, f4', f5', f6', f7', fG, fW⟩
                    have nl : ∀ {c : Nat} {o : AObj}, K c = some o → (∀ r, o ≠ .lrec r) → (c = l) = False := fun {c o} hc ho => nE (by rintro rfl; rw [fl] at hc; cases hc; exact ho _ rfl)
                    have htD : ∃ isin, isin = decide (t ∈ D) := ⟨_, rfl⟩
                    obtain ⟨isin, hin⟩ := htD
                    have look : ∀ K', K' mm = some (.map (setE D) D.length) → AOk Tryz.prog Tryz.prog.funcs.size (pa 2 81 [.sc (.map (some mm)), .sc (.int .i64 t)]) K' (.tup [.agg [], .sc (.bool isin)]) K' := fun K' h => by
                      by_cases hh : t ∈ D
                      · obtain ⟨q, q1, _, _⟩ := set_hit hh
                        rw [hin, decide_eq_true hh]
                        exact c_lookup2 mapT intT h (i64_check t) q1
                      · rw [hin, decide_eq_false hh]
                        exact c_lookup2_no (z := .agg #[]) mapT intT h (i64_check t) (by kernel_rfl) (set_miss hh)
                    have q3 := nl f3 (by simp)
                    have q6 := nl f6 (by simp)
                    have q8 := nl f8 (by simp)
                    have qm := nl fm (by simp)
                    have q15 := nl f15 (by simp)
                    have q16 := nl f16 (by simp)
                    have qc4 := nl f4' (by simp)
                    have qc5 := nl f5' (by simp)
                    have qc6 := nl f6' (by simp)
                    have qc7 := nl f7' (by simp)
                    have q17 := nl f17 (by simp)
                    have q18 := nl f18 (by simp)
                    have qD := nl fD (by simp)
                    have hbf := bef_lt oS oG hj
                    have hbs := bef_succ hj
                    have hci := cnt_in (D := D) hj
                    have hco := cnt_out (D := D) hj
                    have hcw : IntKind.i64.wrap ((cnt D L j : Int) + 1) = ((cnt D L j + 1 : Nat) : Int) := wadd (b := 1) rfl (Nat.le_trans (Nat.succ_le_succ (Nat.le_trans (cnt_le o2 j) hDlen)) (by decide))
                    have ho1 := o1 t (List.mem_of_getElem? hj)
                    refine ACalls.round fl (by simp [hps]) ?_
                    subst hr
                    simp -implicitDefEqProofs [aputs]
                    refine AGo.bgn rfl fl rfl ?_
                    simp -implicitDefEqProofs [r8', f8, q8]
                    refine ACall.eq (look _ (by simp [Heap.set, qm, fm])) ?_
                    simp -implicitDefEqProofs
                    refine AAlloc.intro fun b20 h20 => ?_
                    simp only [Heap.set] at h20
                    have f20 : K b20 = none := by
                      split at h20
                      · cases h20
                      · exact h20
                    have nf : ∀ {c : Nat} {o : AObj}, K c = some o → (c = b20) = False := fun hc => nE (by rintro rfl; rw [f20] at hc; cases hc)
                    have w3 := nf f3
                    have w6 := nf f6
                    have w8 := nf f8
                    have wm := nf fm
                    have w15 := nf f15
                    have w16 := nf f16
                    have wc4 := nf f4'
                    have wc5 := nf f5'
                    have wc6 := nf f6'
                    have wc7 := nf f7'
                    have w17 := nf f17
                    have w18 := nf f18
                    have wD := nf fD
                    have wl := nf fl
                    have e20 : H b20 = none := fW.none f20
                    have zD : (Dd = b17) = False := nE (ne1 y17).symm
                    have zD' : (Dd = b18) = False := nE (ne1 y18).symm
                    have three : isin = true ∨ (isin = false ∧ t = low) ∨ (isin = false ∧ ¬ t = low ∧ t = high) := by
                      cases isin with
                      | true => exact .inl rfl
                      | false =>
                        have : t ∉ D := by simpa using hin
                        rcases ho1 with h | h | h
                        · exact absurd h this
                        · exact .inr (.inl ⟨rfl, h⟩)
                        · by_cases h2 : t = low
                          · exact .inr (.inl ⟨rfl, h2⟩)
                          · exact .inr (.inr ⟨rfl, h2, h⟩)
                    rcases three with h | ⟨h, h2⟩ | ⟨h, h2, h3⟩
                    · have hh : t ∈ D := of_decide_eq_true (hin.symm.trans h)
                      simp -implicitDefEqProofs [h, r15', f15, q15, w15, r16', f16, q16, w16, r17', f17, q17, w17, hbf, r8', f8, q8, w8]
                      refine ACall.eq (look _ (by simp [Heap.set, qm, wm, fm])) ?_
                      simp -implicitDefEqProofs
                      refine AAlloc.intro fun b22 h22 => ?_
                      have f22 : K b22 = none ∧ b22 ≠ b20 ∧ b22 ≠ l := by
                        by_cases c1 : b22 = b20
                        · subst c1; simp [Heap.set] at h22
                        · by_cases c2 : b22 = l
                          · subst c2; simp [Heap.set, c1] at h22
                          · exact ⟨by simpa [Heap.set, c1, c2] using h22, c1, c2⟩
                      obtain ⟨f22, u20, u22⟩ := f22
                      have uf : ∀ {c : Nat} {o : AObj}, K c = some o → (c = b22) = False := fun hc => nE (by rintro rfl; rw [f22] at hc; cases hc)
                      have u3 := uf f3
                      have u6 := uf f6
                      have u8 := uf f8
                      have um := uf fm
                      have u15 := uf f15
                      have u16 := uf f16
                      have uc4 := uf f4'
                      have uc5 := uf f5'
                      have uc6 := uf f6'
                      have uc7 := uf f7'
                      have u17 := uf f17
                      have u18 := uf f18
                      have uD := uf fD
                      have ul := uf fl
                      have e22 : H b22 = none := fW.none f22
                      simp -implicitDefEqProofs [h, r18', f18, q18, w18, u18, hcw, r17', f17, q17, w17, u17, z78, z87]
                      have wlz : (l = b20) = False := wl
                      have wl' : (b20 = l) = False := nE (fun e => by rw [e] at f20; rw [f20] at fl; cases fl)
                      have ulz : (l = b22) = False := ul
                      have ul17 : (l = b17) = False := nE (fun e => by rw [e, f17] at fl; cases fl)
                      have ul18 : (l = b18) = False := nE (fun e => by rw [e, f18] at fl; cases fl)
                      refine ⟨_, by simp [Heap.set, ulz, wlz, ul17, ul18]; rfl, rfl, ?_⟩
                      exact ⟨by simp [Heap.set, q3, w3, u3, z3, z3', f3],
                        by simp [Heap.set, q6, w6, u6, z6, z6', f6],
                        by simp [Heap.set, q8, w8, u8, z8, z8', f8],
                        by simp [Heap.set, qm, wm, um, zm, zm', fm],
                        by simp [Heap.set, q15, w15, u15, z15, z15', f15],
                        by simp [Heap.set, q16, w16, u16, z16, z16', f16],
                        by simp [Heap.set, q17, hbs],
                        by simp [Heap.set, q18, z87, hci hh],
                        by simp [Heap.set],
                        by simp [Heap.set, qD, wD, uD, zD, zD', fD],
                        by simp [Heap.set, qc4, wc4, uc4, zc4, zc4', f4'],
                        by simp [Heap.set, qc5, wc5, uc5, zc5, zc5', f5'],
                        by simp [Heap.set, qc6, wc6, uc6, zc6, zc6', f6'],
                        by simp [Heap.set, qc7, wc7, uc7, zc7, zc7', f7'],
                        (((((fG.set (b := l) (by simp [fl])).new (b := b20) (by simp [Heap.set, wl', f20])).new (b := b22) (by simp [Heap.set, u20, u22, f22])).set (b := b18) (by simp [Heap.set, q18, w18, u18, f18])).set (b := b17) (by simp [Heap.set, q17, w17, u17, z78, f17])).set (b := l) (by simp [Heap.set, ulz, wlz, ul17, ul18]),
                        HWk.new el (HWk.new e17 (HWk.new e18 (HWk.new e22 (HWk.new e20 (HWk.new el fW)))))⟩
                    · have hh : t ∉ D := of_decide_eq_false (hin.symm.trans h)
                      have h2 := decide_eq_true h2
                      simp -implicitDefEqProofs [h, h2, r15', f15, q15, w15, r16', f16, q16, w16, r17', f17, q17, w17, hbf, r8', f8, q8, w8]
                      refine ACall.eq (look _ (by simp [Heap.set, qm, wm, fm])) ?_
                      simp -implicitDefEqProofs
                      refine AAlloc.intro fun b22 h22 => ?_
                      have f22 : K b22 = none ∧ b22 ≠ b20 ∧ b22 ≠ l := by
                        by_cases c1 : b22 = b20
                        · subst c1; simp [Heap.set] at h22
                        · by_cases c2 : b22 = l
                          · subst c2; simp [Heap.set, c1] at h22
                          · exact ⟨by simpa [Heap.set, c1, c2] using h22, c1, c2⟩
                      obtain ⟨f22, u20, u22⟩ := f22
                      have uf : ∀ {c : Nat} {o : AObj}, K c = some o → (c = b22) = False := fun hc => nE (by rintro rfl; rw [f22] at hc; cases hc)
                      have u3 := uf f3
                      have u6 := uf f6
                      have u8 := uf f8
                      have um := uf fm
                      have u15 := uf f15
                      have u16 := uf f16
                      have uc4 := uf f4'
                      have uc5 := uf f5'
                      have uc6 := uf f6'
                      have uc7 := uf f7'
                      have u17 := uf f17
                      have u18 := uf f18
                      have uD := uf fD
                      have ul := uf fl
                      have e22 : H b22 = none := fW.none f22
                      simp -implicitDefEqProofs [h, r18', f18, q18, w18, u18, hcw, r17', f17, q17, w17, u17, z78, z87]
                      have wlz : (l = b20) = False := wl
                      have wl' : (b20 = l) = False := nE (fun e => by rw [e] at f20; rw [f20] at fl; cases fl)
                      have ulz : (l = b22) = False := ul
                      have ul17 : (l = b17) = False := nE (fun e => by rw [e, f17] at fl; cases fl)
                      have ul18 : (l = b18) = False := nE (fun e => by rw [e, f18] at fl; cases fl)
                      refine ⟨_, by simp [Heap.set, ulz, wlz, ul17, ul18]; rfl, rfl, ?_⟩
                      exact ⟨by simp [Heap.set, q3, w3, u3, z3, z3', f3],
                        by simp [Heap.set, q6, w6, u6, z6, z6', f6],
                        by simp [Heap.set, q8, w8, u8, z8, z8', f8],
                        by simp [Heap.set, qm, wm, um, zm, zm', fm],
                        by simp [Heap.set, q15, w15, u15, z15, z15', f15],
                        by simp [Heap.set, q16, w16, u16, z16, z16', f16],
                        by simp [Heap.set, q17, hbs],
                        by simp [Heap.set, q18, w18, u18, z87, f18, hco hh],
                        by simp [Heap.set],
                        by simp [Heap.set, qD, wD, uD, zD, zD', fD],
                        by simp [Heap.set, qc4, wc4, uc4, zc4, zc4', f4'],
                        by simp [Heap.set, qc5, wc5, uc5, zc5, zc5', f5'],
                        by simp [Heap.set, qc6, wc6, uc6, zc6, zc6', f6'],
                        by simp [Heap.set, qc7, wc7, uc7, zc7, zc7', f7'],
                        ((((fG.set (b := l) (by simp [fl])).new (b := b20) (by simp [Heap.set, wl', f20])).new (b := b22) (by simp [Heap.set, u20, u22, f22])).set (b := b17) (by simp [Heap.set, q17, w17, u17, f17])).set (b := l) (by simp [Heap.set, ulz, wlz, ul17]),
                        HWk.new el (HWk.new e17 (HWk.new e22 (HWk.new e20 (HWk.new el fW))))⟩
                    · have hh : t ∉ D := of_decide_eq_false (hin.symm.trans h)
                      have h3 := decide_eq_true h3
                      simp -implicitDefEqProofs [h, h2, h3, r15', f15, q15, w15, r16', f16, q16, w16, r17', f17, q17, w17, hbf, r8', f8, q8, w8]
                      refine ACall.eq (look _ (by simp [Heap.set, qm, wm, fm])) ?_
                      simp -implicitDefEqProofs
                      refine AAlloc.intro fun b22 h22 => ?_
                      have f22 : K b22 = none ∧ b22 ≠ b20 ∧ b22 ≠ l := by
                        by_cases c1 : b22 = b20
                        · subst c1; simp [Heap.set] at h22
                        · by_cases c2 : b22 = l
                          · subst c2; simp [Heap.set, c1] at h22
                          · exact ⟨by simpa [Heap.set, c1, c2] using h22, c1, c2⟩
                      obtain ⟨f22, u20, u22⟩ := f22
                      have uf : ∀ {c : Nat} {o : AObj}, K c = some o → (c = b22) = False := fun hc => nE (by rintro rfl; rw [f22] at hc; cases hc)
                      have u3 := uf f3
                      have u6 := uf f6
                      have u8 := uf f8
                      have um := uf fm
                      have u15 := uf f15
                      have u16 := uf f16
                      have uc4 := uf f4'
                      have uc5 := uf f5'
                      have uc6 := uf f6'
                      have uc7 := uf f7'
                      have u17 := uf f17
                      have u18 := uf f18
                      have uD := uf fD
                      have ul := uf fl
                      have e22 : H b22 = none := fW.none f22
                      simp -implicitDefEqProofs [h, r18', f18, q18, w18, u18, hcw, r17', f17, q17, w17, u17, z78, z87]
                      have wlz : (l = b20) = False := wl
                      have wl' : (b20 = l) = False := nE (fun e => by rw [e] at f20; rw [f20] at fl; cases fl)
                      have ulz : (l = b22) = False := ul
                      have ul17 : (l = b17) = False := nE (fun e => by rw [e, f17] at fl; cases fl)
                      have ul18 : (l = b18) = False := nE (fun e => by rw [e, f18] at fl; cases fl)
                      refine ⟨_, by simp [Heap.set, ulz, wlz, ul17, ul18]; rfl, rfl, ?_⟩
                      exact ⟨by simp [Heap.set, q3, w3, u3, z3, z3', f3],
                        by simp [Heap.set, q6, w6, u6, z6, z6', f6],
                        by simp [Heap.set, q8, w8, u8, z8, z8', f8],
                        by simp [Heap.set, qm, wm, um, zm, zm', fm],
                        by simp [Heap.set, q15, w15, u15, z15, z15', f15],
                        by simp [Heap.set, q16, w16, u16, z16, z16', f16],
                        by simp [Heap.set, q17, hbs],
                        by simp [Heap.set, q18, w18, u18, z87, f18, hco hh],
                        by simp [Heap.set],
                        by simp [Heap.set, qD, wD, uD, zD, zD', fD],
                        by simp [Heap.set, qc4, wc4, uc4, zc4, zc4', f4'],
                        by simp [Heap.set, qc5, wc5, uc5, zc5, zc5', f5'],
                        by simp [Heap.set, qc6, wc6, uc6, zc6, zc6', f6'],
                        by simp [Heap.set, qc7, wc7, uc7, zc7, zc7', f7'],
                        ((((fG.set (b := l) (by simp [fl])).new (b := b20) (by simp [Heap.set, wl', f20])).new (b := b22) (by simp [Heap.set, u20, u22, f22])).set (b := b17) (by simp [Heap.set, q17, w17, u17, f17])).set (b := l) (by simp [Heap.set, ulz, wlz, ul17]),
                        HWk.new el (HWk.new e17 (HWk.new e22 (HWk.new e20 (HWk.new el fW))))⟩
                  · have hG1 : GlobZ (K7.set Dd .dfr) := yG.new hDd
                    have fb : bef L 0 = -1 := rfl
                    have fc : cnt D L 0 = 0 := rfl
                    exact ⟨by simp [Heap.set, nE (ne2 y3), nE (ne1 y3), y3],
                      by simp [Heap.set, nE (ne2 y6), nE (ne1 y6), y6],
                      by simp [Heap.set, nE (ne2 y8), nE (ne1 y8), y8],
                      by simp [Heap.set, nE (ne2 ym), nE (ne1 ym), ym],
                      by simp [Heap.set, nE (ne2 y15), nE (ne1 y15), y15],
                      by simp [Heap.set, nE (ne2 y16), nE (ne1 y16), y16],
                      by simp [Heap.set, nE (ne2 y17), nE (ne1 y17), y17, fb],
                      by simp [Heap.set, nE (ne2 y18), nE (ne1 y18), y18, fc],
                      by simp [Heap.set],
                      by simp [Heap.set, hDl],
                      by simp [Heap.set, nE (ne2 d4), nE (ne1 d4), d4],
                      by simp [Heap.set, nE (ne2 d5), nE (ne1 d5), d5],
                      by simp [Heap.set, nE (ne2 d6), nE (ne1 d6), d6],
                      by simp [Heap.set, nE (ne2 d7), nE (ne1 d7), d7],
                      hG1.new hl,
                      HWk.new el (HWk.new eD yW)⟩
                  · rintro v K ⟨f3, f6, f8, fm, f15, f16, f17, f18, fl, fD, f4', f5', f6', f7', fG, fW⟩
                    exact ⟨f18, f3, f6, f8, fm, fD, ⟨r0, fl, by rw [hst]; simp, hpe⟩, fG, fW⟩
                · rintro Dd l v K hDd hl ⟨_, _, _, _, _, _, ⟨r, h1, h2, _⟩, _⟩
                  exact ⟨r, h1, h2⟩
                · rintro Dd l v K r hDd hl ⟨g18, g3, g6, g8, gm, gD, ⟨r', gl, _, hpe⟩, gG, gW⟩ hK
                  rw [gl] at hK
                  cases hK
                  have hDl : Dd ≠ l := by intro e; subst e; simp [Heap.set] at hl
                  have hl3 : K7 l = none := by simpa [Heap.set, hDl.symm] using hl
                  have eD : H Dd = none := yW.none hDd
                  have el : H l = none := yW.none hl3
                  have nl : ∀ {c : Nat} {o : AObj}, K7 c = some o → (c = l) = False := fun hc => nE (by rintro rfl; rw [hl3] at hc; cases hc)
                  rw [cnt_all o2] at g18
                  simp -implicitDefEqProofs [hpe, del_apply, nl y18, g18, r18', r8', nl y8, g8]
                  refine ACall.eq (c_lenMap mapT (show (K.del l) mm = some (.map (setE D) D.length) by simp [del_apply, nl ym, gm])) ?_
                  rw [setE_len]
                  generalize hK8 : K.del l = K8
                  have k3 : K8 b3 = some (.cells (zC z tk) 55) := by rw [← hK8]; simp [del_apply, nl y3, g3]
                  have k6 : K8 b6 = some (.cells [.sc (.bool false)] 4) := by rw [← hK8]; simp [del_apply, nl y6, g6]
                  have kD : K8 Dd = some .dfr := by rw [← hK8]; simp [del_apply, nE hDl, gD]
                  have kW : HWk H K8 := by rw [← hK8]; exact HWk.delNew el gW
                  have d6 : (Dd = b6) = False := nE (by rintro rfl; rw [k6] at kD; cases kD)
                  have d6' : (b6 = Dd) = False := nE (by rintro rfl; rw [k6] at kD; cases kD)
                  clear hK8 g3 g6 g8 gm gD gG gW gl nl hl hl3 hDl hDd
                  clear y3 y6 y8 ym y15 y16 y17 y18 yG yW
                  have hfM : (0 : Int) ≤ (fr : Int) ∧ (fr : Int) < 13569465600 := hfrM
                  have ho := offOk_iff.1 (at_ok hz (fr : Int))
                  obtain ⟨u, hu⟩ : ∃ u, (fr : Int) + atZ z fr = u := ⟨_, rfl⟩
                  have hlc : localC z fr = splitI u := by unfold localC; rw [if_pos ⟨hz, momOk_iff.2 hfM⟩, hu]
                  have hle : localE z fr = splitE u := by unfold localE; rw [if_pos hz, if_pos (momOk_iff.2 hfM), hu]
                  have hloc := fun K => c_zLocal (H := K) z tk (fr : Int)
                  rw [hlc, hle] at hloc
                  simp -implicitDefEqProofs [r3', k3, r2']
                  refine ACall.eq (hloc _) ?_
                  by_cases hur : 0 ≤ u ∧ u < 13569465600
                  · have hsE : splitE u = 0 := if_pos hur
                    have hsI : splitI u = clk u.toNat := if_pos hur
                    obtain ⟨u', hu'⟩ := Int.eq_ofNat_of_zero_le hur.1
                    have hun : u.toNat = u' := by rw [hu']; rfl
                    have hul : u' < 13569465600 := by have := hur.2; rw [hu'] at this; exact Int.ofNat_lt.1 this
                    have hmI : momI (clk u') = u := by rw [momI_clk hul, hu']
                    have hmC := mayC_clk hul
                    rw [hsE, hsI, hun]
                    have hmo := fun K => c_zMomentsC (H := K) z tk (clk u')
                    have e1 : momentsZ z (clk u') = momZ z u := by unfold momentsZ; rw [if_pos ⟨hz, hmC⟩, hmI]
                    have e2 : argE z (clk u') = 0 := if_pos ⟨hz, hmC⟩
                    have hin : (fr : Int) ∈ momZ z u := (mom_mem hz).2 ⟨hfM.1, hfM.2, hu⟩
                    have hml := mom_len hz (L := momZ z u) (List.Pairwise.imp (fun h => Int.ne_of_lt h) (mom_sorted z _)) fun t ht => (mom_mem hz).1 ht
                    rw [e1, e2] at hmo
                    generalize momZ z u = M at *
                    generalize clk u' = c at *
                    simp -implicitDefEqProofs
                    refine AAlloc.intro fun b24 h24 => ?_
                    have n3 : b3 ≠ b24 := by rintro rfl; rw [k3] at h24; cases h24
                    have n6 : b6 ≠ b24 := by rintro rfl; rw [k6] at h24; cases h24
                    have nD : Dd ≠ b24 := by rintro rfl; rw [kD] at h24; cases h24
                    simp -implicitDefEqProofs [r3', k3, n3]
                    refine ACall.eq (hmo _) ?_
                    generalize hK9 : Heap.set K8 b24 _ = K9
                    have j6 : K9 b6 = some (.cells [.sc (.bool false)] 4) := by rw [← hK9]; simp [Heap.set, n6, k6]
                    have jD : K9 Dd = some .dfr := by rw [← hK9]; simp [Heap.set, nD, kD]
                    have jW : HWk H K9 := by rw [← hK9]; exact HWk.new (kW.none h24) kW
                    clear hK9
                    simp -implicitDefEqProofs
                    refine AGo.rounds (fun μ ρ K => ∃ i : Nat, μ = M.length - i ∧ i ≤ M.length ∧ ρ 2 = .sc (.int .i64 (fr : Int)) ∧ ρ 6 = .sc (.pointer (some ⟨b6, 0, none⟩)) ∧ ρ 25 = .sc (.int .i64 0) ∧ ρ 27 = .sc (.bool (decide ((fr : Int) ∈ M.take i))) ∧ ρ 172 = .sl (M.map i64) .no ∧ ρ 173 = .sc (.int .i64 (M.length : Int)) ∧ ρ 174 = .sc (.int .i64 (i : Int)) ∧ K = K9) ?_ (m := M.length) (HLe.refl _)
                      ⟨0, by simp, by simp, by simp [r2'], by simp [r6'], by simp, by simp, by simp, by simp, by simp, rfl⟩
                    rintro μ ρ K ih ⟨i, rfl, hi, s2, s6, s25, s27, s172, s173, s174, rfl⟩
                    rcases Nat.lt_or_ge i M.length with hlt | hge
                    · obtain ⟨y, hy, _⟩ := getAt hlt
                      have hw7 : IntKind.i64.wrap ((i : Int) + 1) = ((i + 1 : Nat) : Int) := wadd (b := 1) rfl (Nat.le_trans hlt (Nat.le_trans hml (by decide)))
                      have htk : decide ((fr : Int) ∈ M.take (i + 1)) = (decide ((fr : Int) ∈ M.take i) || decide (y = (fr : Int))) := by
                        rw [List.take_succ_eq_append_getElem hlt, hy]
                        simp [eq_comm]
                      generalize decide ((fr : Int) ∈ M.take i) = bb at *
                      have hlt2 : M.length - (i + 1) < M.length - i := Nat.sub_lt_sub_left hlt (Nat.lt_succ_self i)
                      cases bb with
                      | true =>
                        simp -implicitDefEqProofs [s172, s173, s174, hlt, hy, i64, s27, hw7]
                        exact AGo.again ih (m' := M.length - (i + 1)) hlt2 (HLe.refl _) ⟨i + 1, rfl, hlt, by simp [s2], by simp [s6], by simp [s25], by simp [htk], by simp [s172], by simp [s173], by simp, rfl⟩
                      | false =>
                        simp -implicitDefEqProofs [s172, s173, s174, hlt, hy, i64, s27, s2, hw7]
                        exact AGo.again ih (m' := M.length - (i + 1)) hlt2 (HLe.refl _) ⟨i + 1, rfl, hlt, by simp [s2], by simp [s6], by simp [s25], by simp [htk], by simp [s172], by simp [s173], by simp, rfl⟩
                    · have hn : ¬ i < M.length := Nat.not_lt.2 hge
                      rw [List.take_of_length_le hge, decide_eq_true hin] at s27
                      simp -implicitDefEqProofs [s173, s174, hn, s25, s27, s6, j6, mark_ret, mark_nrm, jD, d6, d6']
                      exact HWk.delNew eD (HWk.new e6 jW)
                  · have hsE : splitE u = 50 := if_neg hur
                    rw [hsE]
                    simp -implicitDefEqProofs
                    refine AAlloc.intro fun b24 h24 => ?_
                    have n6 : b6 ≠ b24 := by rintro rfl; rw [k6] at h24; cases h24
                    have nD : Dd ≠ b24 := by rintro rfl; rw [kD] at h24; cases h24
                    simp -implicitDefEqProofs [r6', k6, n6, mark_ret, mark_nrm, nD, kD, d6, d6']
                    exact HWk.delNew eD (HWk.new e6 (HWk.new (kW.none h24) kW))
end Go.Proofs.YtmoncokklkiikaaGreatDoor
