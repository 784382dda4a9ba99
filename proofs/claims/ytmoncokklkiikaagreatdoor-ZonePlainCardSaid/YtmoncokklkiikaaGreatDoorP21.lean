/- The chapter's rows on zones. The chapter's rows on zones, all of them. ZonePlain. What a law's row lists of package variables, as the start heap of its run; a world that meets it. -/
import Derived.Test.YtmoncokklkiikaaGreatDoorP20
import Derived.Test.YtmoncokklkiikaaGreatDoorP18
import Derived.Test.YtmoncokklkiikaaGreatDoorP13
import Derived.Test.YtmoncokklkiikaaGreatDoorP08
import Derived.Lib.LaidU8
set_option linter.unusedSimpArgs false
set_option linter.unusedVariables false
set_option linter.unnecessarySimpa false
namespace Go.Proofs.YtmoncokklkiikaaGreatDoor
open Rg Go
variable {H : Heap}
def zS : Zn := ⟨3600, [(10000800, 7200), (20000880, 3600)]⟩
theorem zS_may : mayZ zS = true := by decide +kernel
theorem zS_at1 : atZ zS 10000799 = 3600 := by decide +kernel
theorem zS_at2 : atZ zS 10000800 = 7200 := by decide +kernel
theorem zS_mom1 : momZ zS 10005000 = [] := by decide +kernel
theorem zS_mom2 : momZ zS 20005000 = [19997800, 20001400] := by decide +kernel
theorem zS_begin : beginZ zS 10005000 = some 10000800 := by unfold beginZ; rw [zS_mom1]; decide +kernel
def tyS : List UInt8 := [42, 32, 42, 32, 42, 32, 42, 32, 42]
def xS : Ex := (cronK tyS).1
theorem xS_eq : cronK tyS = (xS, 0) := by decide +kernel
theorem xS_ok : xS.ok ∧ mayX xS = true := ⟨⟨by decide, by decide, by decide, by decide, by decide⟩, by decide +kernel⟩
theorem zS_at (t : Int) : atZ zS t = 3600 ∨ atZ zS t = 7200 := by
  have := atL_mem zS.l zS.first t
  simp only [zS, List.map_cons, List.map_nil, List.mem_cons, List.not_mem_nil, or_false] at this
  unfold atZ
  simp only [zS]
  omega
theorem zS_aft : IsAft zS xS 0 59 (some 60) := by
  refine ⟨3660, by omega, by omega, by decide +kernel, ?_, by omega, fun k _ hk hf b hb => ?_⟩
  · have h1 : momZ zS ((3660 : Nat) : Int) = [60] := by decide +kernel
    unfold beginZ
    rw [h1]
  · obtain ⟨h1, h2, h3, h4⟩ := begin_some zS_may hb
    have h60 := (fire_eq xS (by omega)).1 hf |>.1
    have a1 := zS_at b
    have a2 := zS_at (b - 1)
    unfold gZ at h3 h4
    rcases h4 with h4 | ⟨⟨o, ho⟩, h4⟩
    · omega
    · simp only [zS, List.mem_cons, Prod.mk.injEq, List.not_mem_nil, or_false] at ho
      omega
theorem c_someZ : AOk Tryz.prog 95 [] H (zAV zS .no) H := by
  refine ACalls.into Tryz.func95 rfl Tryz.ntmps95 Tryz.results95 (by simp) ?_
  simp -implicitDefEqProofs
  refine AAlloc.intro fun b1 h1 => ?_
  simp -implicitDefEqProofs
  exact ⟨⟨rfl, wkL_refl _⟩, HWk.new h1 (HWk.refl _)⟩
theorem c_clockZ {t : Nat} (ht : t < 13569465600) : AOk Tryz.prog 96 [.sc (.int .i64 t)] H (cAV (clk t)) H := by
  refine ACalls.into Tryz.func96 rfl Tryz.ntmps96 Tryz.results96 (by simp) ?_
  simp -implicitDefEqProofs
  refine AAlloc.intro fun b2 h2 => ?_
  simp -implicitDefEqProofs
  refine ACall.eq (c_ref5Split ht) ?_
  simp -implicitDefEqProofs
  refine AAlloc.intro fun b3 h3 => ?_
  have n23 : b2 ≠ b3 := by intro e; subst e; simp [Heap.set] at h3
  have n32 := n23.symm
  have e3 : H b3 = none := (HLe.set_fresh h2).none h3
  simp -implicitDefEqProofs [n23, n32]
  repeat (first | exact HWk.refl _ | refine HWk.new (by assumption) ?_)
theorem c_eq64 (L M : List Int) (t u : Rg.Tok) (hL : L.length ≤ 1000000) (hM : M.length ≤ 1000000) : AOk Tryz.prog 42 [.sl (L.map i64) t, .sl (M.map i64) u] H (.sc (.bool (decide (L = M)))) H := by
  refine ACalls.into Tryz.func42 rfl Tryz.ntmps42 Tryz.results42 (by simp) ?_
  by_cases hl : L.length = M.length
  · simp -implicitDefEqProofs [hl]
    generalize hr : decide (L = M) = r
    refine AGo.rounds (fun μ ρ K => ∃ (i : Nat), μ = L.length - i ∧ i ≤ L.length ∧ (L.drop i = M.drop i ↔ L = M) ∧ ρ 0 = .sl (L.map i64) t ∧ ρ 1 = .sl (M.map i64) u ∧ ρ 12 = .sc (.int .i64 (L.length : Int)) ∧ ρ 13 = .sc (.int .i64 (i : Int)) ∧ K = H) ?_ (m := L.length) (HLe.refl _)
      ⟨0, by omega, by omega, by simp, by simp, by simp, by simp [hl], by simp, rfl⟩
    rintro μ ρ K ih ⟨i, rfl, hi, he, r0, r1, r12, r13, rfl⟩
    rcases Nat.lt_or_ge i L.length with hlt | hge
    · obtain ⟨x, hx, _⟩ := getAt hlt
      have hlt2 : i < M.length := by omega
      obtain ⟨y, hy, _⟩ := getAt hlt2
      have hw1 : IntKind.i64.wrap ((i : Int) + 1) = (i : Int) + 1 := wrap_i64 (by omega) (by omega)
      rw [List.drop_eq_getElem_cons hlt, List.drop_eq_getElem_cons hlt2, hx, hy] at he
      simp -implicitDefEqProofs [r0, r1, r12, r13, hlt]
      refine go_draw 9 f_mixed (by decide +kernel) ?_
      simp -implicitDefEqProofs [r0, r1, r12, r13, hlt, hlt2, hx, hy, i64]
      by_cases hxy : x = y
      · simp -implicitDefEqProofs [hxy, r13, hw1]
        refine AGo.again ih (m' := L.length - (i + 1)) (by omega) (HLe.refl _) ⟨i + 1, rfl, by omega, ?_, by simp [r0], by simp [r1], by simp [r12], by simp, rfl⟩
        rw [← he, hxy]
        simp
      · obtain rfl : r = false := by
          rw [← hr, decide_eq_false_iff_not, ← he]
          intro h
          injection h with h1 h2
          exact hxy h1
        simp -implicitDefEqProofs [hxy]
    · have hn : ¬ i < L.length := by omega
      rw [List.drop_of_length_le hge, List.drop_of_length_le (by omega)] at he
      obtain rfl : r = true := by rw [← hr, decide_eq_true_iff]; exact he.1 rfl
      simp -implicitDefEqProofs [r12, r13, hn]
  · have : ¬ L = M := fun h => hl (by rw [h])
    have hl' : ¬ (L.length : Int) = (M.length : Int) := by omega
    simp -implicitDefEqProofs [hl, hl', this]
theorem zS_text : textZ zS = [43, 48, 49, 48, 48, 32, 49, 48, 48, 48, 48, 56, 48, 48, 43, 48, 50, 48, 48, 32, 50, 48, 48, 48, 48, 56, 56, 48, 43, 48, 49, 48, 48] := by
  have e : ∀ u, Lib.decDigits u = if u < 10 then [UInt8.ofNat (48 + u)] else Lib.decDigits (u / 10) ++ [UInt8.ofNat (48 + u % 10)] := fun u => by
    rw [Lib.decDigits]; split <;> rfl
  have e1 : Lib.itoa 10000800 = [49, 48, 48, 48, 48, 56, 48, 48] := by
    rw [itoa_nat (by omega)]
    simp [e]
  have e2 : Lib.itoa 20000880 = [50, 48, 48, 48, 48, 56, 56, 48] := by
    rw [itoa_nat (by omega)]
    simp [e]
  have w1 : wrZ 3600 = [43, 48, 49, 48, 48] := by decide +kernel
  have w2 : wrZ 7200 = [43, 48, 50, 48, 48] := by decide +kernel
  unfold textZ
  rw [if_pos zS_may]
  unfold wordsZ
  simp only [zS, List.map_cons, List.map_nil, partZ, e1, e2, w1, w2]
  decide +kernel
end Go.Proofs.YtmoncokklkiikaaGreatDoor
namespace Go.Proofs.YtmoncokklkiikaaGreatDoor
open Rg Go
variable {H : Heap}
theorem clkS (t : Nat) (ht : t < 13569465600) : momI (clk t) = (t : Int) ∧ mayC (clk t) = true := ⟨momI_clk ht, mayC_clk ht⟩
theorem zS_m1 : momentsZ zS (clk 10005000) = [] ∧ argE zS (clk 10005000) = 0 := by
  obtain ⟨h1, h2⟩ := clkS 10005000 (by decide)
  unfold momentsZ argE
  rw [if_pos ⟨zS_may, h2⟩, if_pos ⟨zS_may, h2⟩, h1]
  exact ⟨zS_mom1, rfl⟩
theorem zS_m2 : momentsZ zS (clk 20005000) = [19997800, 20001400] ∧ argE zS (clk 20005000) = 0 := by
  obtain ⟨h1, h2⟩ := clkS 20005000 (by decide)
  unfold momentsZ argE
  rw [if_pos ⟨zS_may, h2⟩, if_pos ⟨zS_may, h2⟩, h1]
  exact ⟨zS_mom2, rfl⟩
theorem zS_b1 : beginC zS (clk 10005000) = some 10000800 ∧ beginE zS (clk 10005000) = 0 := by
  obtain ⟨h1, h2⟩ := clkS 10005000 (by decide)
  unfold beginC beginE
  rw [if_pos ⟨zS_may, h2⟩, if_pos ⟨zS_may, h2⟩, h1]
  exact ⟨zS_begin, by rw [show beginZ zS ((10005000 : Nat) : Int) = some 10000800 from zS_begin]; rfl⟩
theorem zS_o1 : offsetZ zS 10000799 = 3600 := by unfold offsetZ; rw [if_pos zS_may]; exact zS_at1
theorem zS_o2 : offsetZ zS 10000800 = 7200 := by unfold offsetZ; rw [if_pos zS_may]; exact zS_at2
set_option maxHeartbeats 4000000 in
theorem c_known36 (hG : GlobZ H) : AOk Tryz.prog 25 [] H (.sc (.bool true)) H := by
  have m1 := fun K => c_zMomentsC (H := K) zS .no (clk 10005000)
  have m2 := fun K => c_zMomentsC (H := K) zS .no (clk 20005000)
  have b1 := fun K => c_zBeginC (H := K) zS .no (clk 10005000)
  have q1 := fun K => c_clockZ (H := K) (t := 10005000) (by decide)
  have q2 := fun K => c_clockZ (H := K) (t := 20005000) (by decide)
  have px := fun K => c_ref7Parse (H := K) tyS (by decide)
  have af := fun K (hG : GlobZ K) => c_zAfter hG.tab zS .no xS_ok.1 (m := 59) zS_may xS_ok.2 (by decide) zS_aft
  have my := fun K => c_zMay (H := K) zS .no
  have o1 := fun K => c_zOffsetAt (H := K) zS .no 10000799
  have o2 := fun K => c_zOffsetAt (H := K) zS .no 10000800
  have tx := fun K (hG : GlobZ K) => c_zText hG zS .no
  have eq := fun K => c_eq64 (H := K) [19997800, 20001400] [19997800, 20001400] .no .full (by decide) (by decide)
  have sm := c_someZ (H := H)
  rw [zS_m1.1, zS_m1.2] at m1
  rw [zS_m2.1, zS_m2.2] at m2
  rw [zS_b1.1, zS_b1.2] at b1
  rw [xS_eq] at px
  rw [zS_may] at my
  rw [zS_o1] at o1
  rw [zS_o2] at o2
  rw [zS_text] at tx
  generalize clk 10005000 = k1 at *
  generalize clk 20005000 = k2 at *
  generalize zS = z at *
  generalize xS = x at *
  refine ACalls.into Tryz.func25 rfl Tryz.ntmps25 Tryz.results25 (by simp) ?_
  simp -implicitDefEqProofs
  refine ACall.eq sm ?_
  simp -implicitDefEqProofs
  refine AAlloc.intro fun c1 h1 => ?_
  simp -implicitDefEqProofs
  generalize hK : Heap.set _ c1 _ = K1
  have g1 : K1 c1 = some (.cells (zC z .no) 55) := by rw [← hK]; simp [Heap.set]
  have kG : GlobZ K1 := by rw [← hK]; exact hG.new h1
  have kW : HWk H K1 := by rw [← hK]; exact HWk.new h1 (HWk.refl _)
  clear hK
  refine go_draw 8 f_mixed (by decide +kernel) ?_
  simp -implicitDefEqProofs [g1]
  refine AQS.eq (q1 _) ?_
  simp -implicitDefEqProofs
  refine AQS.eq (m1 _) ?_
  simp -implicitDefEqProofs
  refine go_draw 8 f_mixed (by decide +kernel) ?_
  simp -implicitDefEqProofs [g1]
  refine AQS.eq (q1 _) ?_
  simp -implicitDefEqProofs
  refine AQS.eq (b1 _) ?_
  simp -implicitDefEqProofs [optI]
  refine go_draw 8 f_mixed (by decide +kernel) ?_
  simp -implicitDefEqProofs [g1]
  refine AQS.eq (q2 _) ?_
  simp -implicitDefEqProofs
  refine AQS.eq (m2 _) ?_
  simp -implicitDefEqProofs
  refine ACall.eq (px _) ?_
  simp -implicitDefEqProofs
  refine AAlloc.intro fun c8 h8 => ?_
  have n18 : c1 ≠ c8 := by intro e; subst e; rw [g1] at h8; cases h8
  simp -implicitDefEqProofs [n18, g1]
  generalize hK : Heap.set K1 c8 _ = K2
  have g2 : K2 c1 = some (.cells (zC z .no) 55) := by rw [← hK]; simp [Heap.set, n18, g1]
  have kG2 : GlobZ K2 := by rw [← hK]; exact kG.new h8
  have kW2 : HWk H K2 := by rw [← hK]; exact HWk.new (kW.none h8) kW
  clear hK
  refine ACall.eq (af _ kG2) ?_
  simp -implicitDefEqProofs [g2, optI, errI]
  refine ACall.eq (my _) ?_
  simp -implicitDefEqProofs [g2]
  refine ACall.eq (o1 _) ?_
  simp -implicitDefEqProofs [g2]
  refine ACall.eq (o2 _) ?_
  simp -implicitDefEqProofs [g2]
  refine ACall.eq (tx _ kG2) ?_
  simp -implicitDefEqProofs [i64]
  refine ACall.eq (eq _) ?_
  simp -implicitDefEqProofs
  exact kW2
end Go.Proofs.YtmoncokklkiikaaGreatDoor
namespace Go.Proofs.YtmoncokklkiikaaGreatDoor
open Rg Go
variable {H : Heap}
def stepA (n : Int) : Int := 172800 + (if n < 0 then 0 else n) % 1000000 * 60
def chsA (o : Int) : Int → List Int → List (Int × Int)
  | _, [] => []
  | m, n :: r => (m + stepA n, o) :: chsA o (m + stepA n) r
theorem stepA_le (n : Int) : 172800 ≤ stepA n ∧ stepA n ≤ 60172740 ∧ stepA n % 60 = 0 := by
  unfold stepA
  split <;> omega
theorem chsA_off (o : Int) : ∀ (A : List Int) (m : Int), ∀ c ∈ chsA o m A, c.2 = o
  | [], m, c, h => by cases h
  | n :: r, m, c, h => by
    rcases List.mem_cons.1 h with e | h
    · rw [e]
    · exact chsA_off o r _ c h
theorem chsA_len (o : Int) : ∀ (A : List Int) (m : Int), (chsA o m A).length = A.length
  | [], m => rfl
  | n :: r, m => by simp [chsA, chsA_len o r]
theorem chsA_may {o : Int} (ho : offOk o = true) : ∀ (A : List Int) (m : Int) (p : Option Int), (p = none ∨ p = some m) → 0 ≤ m → m % 60 = 0 → m + A.length * 60172740 < 13569465600 → mayL p (chsA o m A) = true
  | [], m, p, _, _, _, _ => rfl
  | n :: r, m, p, hp, h0, h6, hm => by
    have h1 := stepA_le n
    simp only [List.length_cons] at hm
    unfold chsA
    rw [mayL_cons]
    refine ⟨ho, by omega, by omega, by omega, fun q hq => ?_, chsA_may ho r _ _ (.inr rfl) (by omega) (by omega) (by omega)⟩
    rcases hp with rfl | rfl
    · cases hq
    · cases hq; omega
set_option maxHeartbeats 8000000 in
theorem zonePlain_ok (hG : GlobZ H) (o : Int) {x : Ex} (hx : x.ok) (m : Int) (A : List Int) (tk : Rg.Tok) (hA : A.length ≤ maxLen) : AOk Tryz.prog 5 [.sc (.int .i64 o), exAV x, .sc (.int .i64 m), .sl (A.map i64) tk] H (.sc (.bool true)) H := by
  have hz0 : mayZ ⟨o, []⟩ = offOk o := by simp [mayZ, mayL]
  refine ACalls.into Tryz.func5 rfl Tryz.ntmps5 Tryz.results5 (by simp) ?_
  simp -implicitDefEqProofs
  refine AAlloc.intro fun b5 h5 => ?_
  simp -implicitDefEqProofs
  generalize hK : Heap.set _ b5 _ = K1
  have g5 : K1 b5 = some (.cells (exC x) 42) := by rw [← hK]; simp [Heap.set]
  have kG : GlobZ K1 := by rw [← hK]; exact hG.new h5
  have kW : HLe H K1 := by rw [← hK]; exact HLe.set_fresh h5
  clear hK
  refine ACall.eq (c_known36 kG) ?_
  simp -implicitDefEqProofs
  refine AAlloc.intro fun b9 h9 => ?_
  have n59 : b5 ≠ b9 := by intro e; subst e; rw [g5] at h9; cases h9
  simp -implicitDefEqProofs [n59, g5]
  refine ACall.eq (c_ofZ ⟨o, []⟩ .nil (by simp)) ?_
  simp -implicitDefEqProofs
  refine ACall.eq (c_rMay ⟨o, []⟩ .no (by simp)) ?_
  rw [hz0]
  have hWb : ∀ q, HWk H (K1.set b9 q) := fun q => (kW.trans (HLe.set_fresh h9)).wk
  cases ho : offOk o with
  | false =>
    simp -implicitDefEqProofs
    exact hWb _
  | true =>
    simp -implicitDefEqProofs [n59, g5]
    refine ACall.eq (c_ref7May x hx) ?_
    cases hm : mayX x with
    | false =>
      simp -implicitDefEqProofs
      exact hWb _
    | true =>
      by_cases m0 : m < 86400
      · simp -implicitDefEqProofs [m0]
        exact hWb _
      · by_cases m1 : 13569379200 < m
        · simp -implicitDefEqProofs [m0, m1]
          exact hWb _
        · by_cases ha : 60 < A.length
          · have ha' : (60 : Int) < (A.length : Int) := by omega
            simp -implicitDefEqProofs [m0, m1, ha, ha']
            exact hWb _
          · have ha' : ¬ (60 : Int) < (A.length : Int) := by omega
            obtain ⟨m, rfl⟩ := Int.eq_ofNat_of_zero_le (a := m) (by omega)
            have ho' := offOk_iff.1 ho
            obtain ⟨u, hu⟩ : ∃ u : Nat, (u : Int) = m + o := ⟨((m : Int) + o).toNat, by omega⟩
            obtain ⟨q, hq⟩ := next_ex x u
            have hr := plain_aft (L := []) (x := x) (t := m) (fun c hc => by cases hc) ho (by omega) hu hq
            have hC := plain_aft (L := chsA o 0 A) (x := x) (t := m) (chsA_off o A 0) ho (by omega) hu hq
            have hCm : mayZ ⟨o, chsA o 0 A⟩ = true := by
              simp only [mayZ, ho, Bool.true_and, Bool.and_eq_true, decide_eq_true_eq]
              exact ⟨by rw [chsA_len]; omega, chsA_may ho A 0 none (.inl rfl) (by omega) (by omega) (by omega)⟩
            have hw1 : IntKind.i64.wrap ((m : Int) + o) = (u : Int) := by rw [wrap_i64 (by omega) (by omega), hu]
            have hw2 : IntKind.i64.wrap o = o := wrap_i64 (by omega) (by omega)
            simp -implicitDefEqProofs [m0, m1, ha, ha', n59, g5]
            generalize hK : Heap.set K1 b9 _ = K2
            have g52 : K2 b5 = some (.cells (exC x) 42) := by rw [← hK]; simp [Heap.set, n59, g5]
            have kG2 : GlobZ K2 := by rw [← hK]; exact kG.new h9
            have hR0 : RowZ 2 69 55 K1 b9 0 (fun t => [.sc (.int .i64 o), .sl [] t]) K2 := by rw [← hK]; exact ⟨HLe.set_fresh h9, h9, .nil, by simp [Heap.set], .inl ⟨rfl, rfl⟩⟩
            clear hK
            refine ACall.eq (c_zAfter kG2.tab ⟨o, []⟩ .nil hx (m := m) (by rw [hz0]; exact ho) hm (by omega) hr) ?_
            simp -implicitDefEqProofs [g52, hw1, hw2]
            refine ACall.eq (c_after kG2.tab hx hm (t := u) (by omega) hq) ?_
            simp -implicitDefEqProofs [outAV]
            have three : q = none ∨ (∃ b : Nat, q = some b ∧ b < 13569465600 ∧ (b : Int) - o < 13569465600) ∨ ∃ b : Nat, q = some b ∧ b < 13569465600 ∧ ¬ (b : Int) - o < 13569465600 := by
              cases q with
              | none => exact .inl rfl
              | some b =>
                have := hq.2.1
                by_cases hb : (b : Int) - o < 13569465600
                · exact .inr (.inl ⟨b, rfl, this, hb⟩)
                · exact .inr (.inr ⟨b, rfl, this, hb⟩)
            rcases three with e | ⟨b, e, hbM, hb⟩ | ⟨b, e, hbM, hb⟩
            case' inr.inr =>
              have hr0 : plainN o q = none := by rw [e]; simp only [plainN]; rw [if_neg hb]
              have hwb : IntKind.i64.wrap ((b : Int) - o) = (b : Int) - o := wrap_i64 (by omega) (by omega)
              have hbb : 13569465600 ≤ (b : Int) - o := by omega
              rw [hr0, e]
              simp -implicitDefEqProofs [optI, errI, optN, errN, hw2, hwb, hbb]
              exact (kW.trans hR0.le).wk
            case' inl =>
              obtain ⟨r, hr0⟩ : ∃ r, plainN o q = r := ⟨_, rfl⟩
              have hr1 : r = none := by rw [← hr0, e]; rfl
              rw [hr0, e]
              rw [hr0] at hC
              simp -implicitDefEqProofs [hr1, optI, errI, optN, errN]
            case' inr.inl =>
              obtain ⟨r, hr0⟩ : ∃ r, plainN o q = r := ⟨_, rfl⟩
              have hr1 : r = some ((b : Int) - o) := by rw [← hr0, e]; simp only [plainN]; rw [if_pos hb]
              have hwb : IntKind.i64.wrap ((b : Int) - o) = (b : Int) - o := wrap_i64 (by omega) (by omega)
              rw [hr0, e]
              rw [hr0] at hC
              simp -implicitDefEqProofs [hr1, optI, errI, optN, errN, hw2, hwb]
            all_goals
              refine AGo.rounds (fun μ ρ K => ∃ (R : List Int) (D : List (Int × Int)) (s i : Nat), μ = R.length ∧ i + R.length = A.length ∧ A.drop i = R ∧ D ++ chsA o s R = chsA o 0 A ∧ D.length = i ∧ s ≤ i * 60172740 ∧
                ρ 0 = .sc (.int .i64 o) ∧ ρ 2 = .sc (.int .i64 m) ∧ ρ 5 = .sc (.pointer (some ⟨b5, 0, none⟩)) ∧ ρ 9 = .sc (.pointer (some ⟨b9, 0, none⟩)) ∧ ρ 10 = .sc (.int .i64 (optI r)) ∧ ρ 11 = .sc (.int .i64 (errI r)) ∧ ρ 14 = .sc (.int .i64 (s : Int)) ∧
                ρ 88 = .sl (A.map i64) tk ∧ ρ 89 = .sc (.int .i64 (A.length : Int)) ∧ ρ 90 = .sc (.int .i64 (i : Int)) ∧ RowZ 2 69 55 K1 b9 D.length (fun t => [.sc (.int .i64 o), .sl (D.map chAV) t]) K) ?_ (m := A.length) (HLe.refl _)
                ⟨A, [], 0, 0, rfl, by omega, rfl, rfl, rfl, by omega, by simp, by simp, by simp, by simp, by simp [hr1, optI], by simp [hr1, errI], by simp, by simp, by simp, by simp, by simpa using hR0⟩
              clear hr1 e
              rintro μ ρ K ih ⟨R, D, s, i, rfl, hil, hdr, hD, hDl, hs, r0, r2, r5, r9, r10, r11, r14, r88, r89, r90, hR⟩
              have hg5 := hR.le _ _ g5
              cases R with
              | nil =>
                simp only [List.length_nil, Nat.add_zero] at hil
                have hn : ¬ i < A.length := by omega
                rw [chsA, List.append_nil] at hD
                subst hD
                obtain ⟨tt, q0, _⟩ := hR.row
                have kG3 : GlobZ K := kG.le hR.le
                simp -implicitDefEqProofs [r5, r9, r2, r89, r90, hn, q0, hg5]
                refine ACall.eq (c_zAfter kG3.tab ⟨o, chsA o 0 A⟩ tt hx (m := m) hCm hm (by omega) hC) ?_
                simp -implicitDefEqProofs [r10, r11]
                exact (kW.trans hR.le).wk
              | cons n R =>
                simp only [List.length_cons] at hil
                have hlt : i < A.length := by omega
                have hn : A[i] = n := by
                  rw [List.drop_eq_getElem_cons hlt] at hdr
                  exact (List.cons.inj hdr).1
                have hdr' : A.drop (i + 1) = R := by
                  rw [List.drop_eq_getElem_cons hlt] at hdr
                  exact (List.cons.inj hdr).2
                obtain ⟨v, hv⟩ : ∃ v, (if n < 0 then 0 else n) = v := ⟨_, rfl⟩
                have hv0 : 0 ≤ v := by rw [← hv]; split <;> omega
                obtain ⟨v, rfl⟩ := Int.eq_ofNat_of_zero_le hv0
                obtain ⟨a, ha⟩ : ∃ a, v % 1000000 = a := ⟨_, rfl⟩
                obtain ⟨b, hb⟩ : ∃ b, a * 60 = b := ⟨_, rfl⟩
                obtain ⟨c, hc⟩ : ∃ c, 172800 + b = c := ⟨_, rfl⟩
                obtain ⟨d, hd⟩ : ∃ d, s + c = d := ⟨_, rfl⟩
                have hst : stepA n = (c : Int) := by unfold stepA; rw [hv]; omega
                have hcl := stepA_le n
                have w1 : (v : Int).tmod 1000000 = (a : Int) := wmod (b := 1000000) ha
                have w2 : IntKind.i64.wrap ((a : Int) * 60) = (b : Int) := wmul (b := 60) hb (by omega)
                have w3 : IntKind.i64.wrap (172800 + (b : Int)) = (c : Int) := wadd (a := 172800) hc (by omega)
                have w4 : IntKind.i64.wrap ((s : Int) + (c : Int)) = (d : Int) := wadd hd (by omega)
                have hw3 : IntKind.i64.wrap ((i : Int) + 1) = (i : Int) + 1 := wrap_i64 (by omega) (by omega)
                rw [show chsA o s (n :: R) = ((s : Int) + stepA n, o) :: chsA o ((s : Int) + stepA n) R from rfl, hst, show (s : Int) + (c : Int) = (d : Int) by omega] at hD
                obtain ⟨tt, G0, G, q1, q2, q3, q4, q5, q6⟩ := RowZ.grows (xs := D.map chAV) (by simpa using hR)
                simp -implicitDefEqProofs [r88, r90, r89, hlt, hn, i64, hv, w1, w2, w3, w4, r14, r9, r0, q1]
                refine AApp.grows el_53 q2 q3 (by simp) (szs_ch D) (by simp [szs]) (by simp; omega) (by simp [maxLen]; omega) fun t' K' Hn hg' hl' => ?_
                have hn3 := hl' _ _ (hg'.le _ _ q5)
                simp -implicitDefEqProofs [r9, hn3, r90, hw3]
                refine AGo.again ih (m' := R.length) (by simp) (HLe.refl _) ⟨R, D ++ [((d : Int), o)], d, i + 1, rfl, by omega, hdr', by simpa using hD, by simp [hDl], by omega, by simp [r0], by simp [r2], by simp [r5], by simp [r9], by simp [r10], by simp [r11], by simp, by simp [r88], by simp [r89], by simp, ?_⟩
                have hst := RowZ.stored (T := 55) (F := fun t => [.sc (.int .i64 o), .sl (D.map chAV ++ [chAV ((d : Int), o)]) t]) q4 hR.no q5 hg' hl'
                simpa using hst
end Go.Proofs.YtmoncokklkiikaaGreatDoor
namespace Go.Proofs.YtmoncokklkiikaaGreatDoor
open Rg Go Go.RowKit
theorem eq_ctz : (Rows.laid_math_bits_deBruijn64tab : DataW Unit) = Lib.tabData .u8 (Lib.deBruijn64tab.map fun n : Nat => (n : Int)) := by kernel_rfl
def ctzUs : List Value := Lib.deBruijn64tab.map fun n : Nat => .int .u8 n
def firstUs : List Value := (List.range 256).map fun c => .int .u8 (Lib.firstT c)
def acceptUs : List Value := (List.range 16).flatMap fun i => [.int .u8 (Lib.accLo i), .int .u8 (Lib.accHi i)]
theorem ctz_reads {W : World} {l : List (String × DataW Unit)} (hL : laidMet Tryz.prog l W) (h1 : ("math/bits.deBruijn64tab", Rows.laid_math_bits_deBruijn64tab) ∈ l) (j : Nat) (u : Value) (hu : ctzUs[j]? = some u) : W.cell? ⟨0, j, none⟩ = some u := by
  obtain ⟨g, t, cs, fuel, p, hg, hty, hvar, hd⟩ := Lib.laidMet.reads hL h1
  obtain rfl : 0 = g := Option.some.inj ((show Tryz.prog.globalNamed "math/bits.deBruijn64tab" = some 0 by kernel_rfl).symm.trans hg)
  obtain rfl : 275 = t := Option.some.inj ((show (Tryz.prog.globals[0]?).map (·.type) = some 275 by kernel_rfl).symm.trans hty)
  rw [eq_ctz] at hd
  have hcs := Lib.cells_of_tab (e := 5) (n := 64) (by kernel_rfl) (by kernel_rfl) (by kernel_rfl) (by kernel_rfl) hd
  rw [World.var?_cell hg hvar j, ← Array.getElem?_toList, hcs, ← hu]
  unfold ctzUs
  simp [Function.comp_def]
def setCells (cs : Array Value) : Obj → Obj
  | .cells _ t fr => .cells cs t fr
  | o => o
noncomputable def low : Nat := (World.holding Tryz.prog default ⟨#[], #[], []⟩).heap.size
noncomputable def laidWorld (os : Os) : World :=
  let w0 := World.holding Tryz.prog os ⟨#[.cells #[.string ⟨#[105, 110, 118, 97, 108, 105, 100, 32, 115, 121, 110, 116, 97, 120]⟩] 318, .cells #[.string ⟨#[118, 97, 108, 117, 101, 32, 111, 117, 116, 32, 111, 102, 32, 114, 97, 110, 103, 101]⟩] 318], #[], []⟩
  { w0 with heap := ((((((w0.heap.modify 0 (setCells ctzUs.toArray)).modify 7 (setCells (Lib.deBruijn32tab.map fun n : Nat => Value.int .u8 n).toArray)).modify 5 (setCells firstUs.toArray)).modify 6 (setCells acceptUs.toArray)).modify 1
    (setCells ((List.range 20).map fun n => Value.int .u64 (10 ^ n)).toArray)).modify 2 (setCells #[.iface 316 (.pointer (some ⟨low, 0, none⟩))])).modify 3 (setCells #[.iface 316 (.pointer (some ⟨low + 1, 0, none⟩))]) }
theorem own : ownKnob Tryz.prog.godebug = none := by kernel_rfl
end Go.Proofs.YtmoncokklkiikaaGreatDoor
