/- The chapter's rows on jobs; the law's walk. -/
import Derived.Test.YtdpgnbinekcgdaaGreatDoorFiresR
import Derived.Test.YtdpgnbinekcgdaaGreatDoorFitsJ
namespace Go.Proofs.YtdpgnbinekcgdaaGreatDoor
open Rg Go

variable {H : Heap}

def jy : Jb := ⟨0, [97], [64, 100, 97, 105, 108, 121], 1, 0, 1, 0, 1, [], false, 0, 0⟩
def jyx : Ex := ⟨⟨1, false⟩, ⟨1, false⟩, ⟨4294967294, true⟩, ⟨8190, true⟩, ⟨127, true⟩⟩
set_option maxRecDepth 100000 in
theorem jy_cron : cronK [64, 100, 97, 105, 108, 121] = (jyx, 0) := by decide +kernel
set_option maxRecDepth 100000 in
theorem jy_x : cronK [120] = (ex0, 70) := by decide +kernel
theorem jy_ok : mayX jyx = true := by decide +kernel
theorem jy_bit : (∀ m, m < 60 → hasB jyx.a.bits ((m : Nat) : Int) = true → m = 0) ∧ ∀ h, h < 24 → hasB jyx.b.bits ((h : Nat) : Int) = true → h = 0 := by decide +kernel
theorem jy_may : mayJ jy = 0 := by
  have e : (cronK jy.ex).2 = 0 := by rw [show jy.ex = [64, 100, 97, 105, 108, 121] from rfl, jy_cron]
  unfold mayJ
  rw [e]
  decide
theorem jy_may2 : mayJ { jy with name := [] } = 140 := by unfold mayJ; decide
theorem jy_may3 : mayJ { jy with ex := [120] } = 70 := by
  have e : (cronK ({ jy with ex := [120] } : Jb).ex).2 = 70 := by rw [show ({ jy with ex := [120] } : Jb).ex = [120] from rfl, jy_x]
  unfold mayJ
  rw [e]
  decide
theorem jy_fire {k : Nat} (h : k ≤ 172800) (hf : fireB jyx k = true) : k = 0 ∨ k = 86400 ∨ k = 172800 := by
  obtain ⟨h1, _, _, h2, h3⟩ := (fire_eq jyx (by omega)).1 hf
  have e2 := jy_bit.1 _ (by omega) h2
  have e3 := jy_bit.2 _ (by omega) h3
  omega
theorem jy_f : fireB jyx 0 = true ∧ fireB jyx 86400 = true ∧ fireB jyx 172800 = true := by decide +kernel
theorem jy_rows : firesL jyx (-1) 172800 = [0, 86400, 172800] := by
  have l3 : IsLast jyx 172800 (some 172800) := ⟨by omega, jy_f.2.2, fun k h1 h2 => by omega⟩
  have no : ∀ k : Nat, k ≤ 172800 → k ≠ 0 → k ≠ 86400 → k ≠ 172800 → fireB jyx k = false := fun k h0 h1 h2 h3 => by
    cases hf : fireB jyx k with
    | false => rfl
    | true => rcases jy_fire h0 hf with h | h | h <;> omega
  have l2 : IsLast jyx 172799 (some 86400) := ⟨by omega, jy_f.2.1, fun k h1 h2 => no k (by omega) (by omega) (by omega) (by omega)⟩
  have l1 : IsLast jyx 86399 (some 0) := ⟨by omega, jy_f.1, fun k h1 h2 => no k (by omega) (by omega) (by omega) (by omega)⟩
  have e3 := fires_last (x := jyx) (a := -1) (by omega) (by omega) l3
  have e2 := fires_last (x := jyx) (a := -1) (by omega) (by omega) l2
  have e1 := fires_last (x := jyx) (a := -1) (by omega) (by omega) l1
  rw [show ((172800 : Nat) : Int) = 172800 from rfl] at e3
  rw [e3, show (172800 : Int) - 1 = ((172799 : Nat) : Int) by omega, e2, show ((86400 : Nat) : Int) - 1 = ((86399 : Nat) : Int) by omega, e1, fires_none (fun k _ h => by omega)]
  rfl
theorem jy_9 : firesB jy (-1) 172800 9 = [0, 86400, 172800] := by
  unfold firesB firesJ
  rw [if_neg (by rw [jy_may]; omega), show jy.ex = [64, 100, 97, 105, 108, 121] from rfl, jy_cron, jy_rows]
  rfl
theorem jy_2 : firesB jy (-1) 172800 2 = [86400, 172800] := by
  unfold firesB firesJ
  rw [if_neg (by rw [jy_may]; omega), show jy.ex = [64, 100, 97, 105, 108, 121] from rfl, jy_cron, jy_rows]
  rfl
theorem c_mom (L : List Int) (t u : Rg.Tok) (ys : List AV) (hy : ys = L.map i64) (hL : L.length ≤ 1000000) : AOk Tryz.prog 35 [.sl (L.map i64) t, .sl ys u] H (.sc (.bool true)) H := by
  subst hy
  exact c_moments L t u hL

abbrev jyL (nm ex : List UInt8) : List AV := [.sc (.int .u64 0), str nm, str ex, .sc (.int .i64 1), .sc (.int .i64 0), .sc (.int .i64 1), .sc (.int .i64 0), .sc (.int .i64 1), .sl [] .nil, .sc (.bool false), .sc (.int .u64 0), .sc (.int .i64 0)]
theorem jy_m1 (hG : Glob H) : AOk Tryz.prog 38 [.agg (jyL [97] [64, 100, 97, 105, 108, 121])] H (.sc (.int .i64 0)) H := by
  have := c_jobMay (H := H) hG jy .nil (by decide)
  rw [jy_may] at this
  exact this
theorem jy_m2 (hG : Glob H) : AOk Tryz.prog 38 [.agg (jyL [] [64, 100, 97, 105, 108, 121])] H (.sc (.int .i64 140)) H := by
  have := c_jobMay (H := H) hG { jy with name := [] } .nil (by decide)
  rw [jy_may2] at this
  exact this
theorem jy_m3 (hG : Glob H) : AOk Tryz.prog 38 [.agg (jyL [97] [120])] H (.sc (.int .i64 70)) H := by
  have := c_jobMay (H := H) hG { jy with ex := [120] } .nil (by decide)
  rw [jy_may3] at this
  exact this
theorem jy_f9 (hG : Glob H) : AOk Tryz.prog 36 [.agg (jyL [97] [64, 100, 97, 105, 108, 121]), .sc (.int .i64 (-1)), .sc (.int .i64 172800), .sc (.int .i64 9)] H (.sl (([0, 86400, 172800] : List Int).map i64) .no) H := by
  have := c_jobFires (H := H) hG jy .nil (by decide) (a := -1) (b := 172800) (m := 9) (by decide)
  rw [jy_9] at this
  exact this
theorem jy_f2 (hG : Glob H) : AOk Tryz.prog 36 [.agg (jyL [97] [64, 100, 97, 105, 108, 121]), .sc (.int .i64 (-1)), .sc (.int .i64 172800), .sc (.int .i64 2)] H (.sl (([86400, 172800] : List Int).map i64) .no) H := by
  have := c_jobFires (H := H) hG jy .nil (by decide) (a := -1) (b := 172800) (m := 2) (by decide)
  rw [jy_2] at this
  exact this

set_option maxHeartbeats 2000000 in
theorem c_known14 (hG : Glob H) : AOk Tryz.prog 33 [] H (.sc (.bool true)) H := by
  refine ACalls.into Tryz.func33 rfl Tryz.ntmps33 Tryz.results33 (by simp) ?_
  simp -implicitDefEqProofs
  refine AAlloc.intro fun b1 h1 => ?_
  simp -implicitDefEqProofs
  generalize hK : Heap.set _ b1 _ = K1
  have k1 : K1 b1 = some (.cells (jyL [97] [64, 100, 97, 105, 108, 121]) 53) := by rw [← hK]; simp [Heap.set]
  have kG : Glob K1 := by rw [← hK]; exact hG.new h1
  have kG0 := kG
  have kW : HWk H K1 := by rw [← hK]; exact HWk.new h1 (HWk.refl _)
  clear hK
  obtain ⟨J, hJ⟩ : ∃ J : (Nat → AV) → Heap → Prop, J = fun ρ K => ∃ b2 b3, b1 ≠ b2 ∧ b1 ≠ b3 ∧ b2 ≠ b3 ∧ K1 b2 = none ∧ K1 b3 = none ∧ ρ 1 = .sc (.pointer (some ⟨b1, 0, none⟩)) ∧ ρ 2 = .sc (.pointer (some ⟨b2, 0, none⟩)) ∧ ρ 3 = .sc (.pointer (some ⟨b3, 0, none⟩)) ∧
    K b1 = some (.cells (jyL [97] [64, 100, 97, 105, 108, 121]) 53) ∧ K b2 = some (.cells (jyL [97] [64, 100, 97, 105, 108, 121]) 53) ∧ K b3 = some (.cells (jyL [97] [64, 100, 97, 105, 108, 121]) 53) ∧
    Glob K ∧ HLe K1 K := ⟨_, rfl⟩
  refine go_draw3J J [0, 1] K1 f_mixed (by decide +kernel) (HC.refl _) ?_ ?_
  · simp -implicitDefEqProofs
    repeat (refine aq3_op ?_; simp -implicitDefEqProofs [k1])
    refine AWK.two 2 3 (by decide +kernel) ?_ ?_
    · refine AWE.op rfl ?_
      simp -implicitDefEqProofs
      refine AWS.alloc fun b2 h2 => ?_
      refine AWK.one 3 (by decide +kernel) ?_
      refine AWE.op rfl ?_
      simp -implicitDefEqProofs
      refine AWS.alloc fun b3 h3 => ?_
      have n1x : b1 ≠ b2 := by intro e; subst e; rw [k1] at h2; cases h2
      have n1y : b1 ≠ b3 := by intro e; subst e; simp [Heap.set, n1x, k1] at h3
      have nxy : b2 ≠ b3 := by intro e; subst e; simp [Heap.set] at h3
      have h3' : K1 b3 = none := (HLe.set_fresh h2).none h3
      refine AWK.one 4 (by decide +kernel) ?_
      refine AWE.op rfl ?_
      simp -implicitDefEqProofs [nxy]
      refine AWS.store (by simp [Heap.set, nxy]; exact ⟨rfl, rfl⟩) (by repeat (first | exact HC.refl _ | refine HC.setn ?_ (by assumption))) ?_
      refine AWK.one 5 (by decide +kernel) ?_
      refine AWE.op rfl ?_
      simp -implicitDefEqProofs [nxy.symm]
      refine AWS.store (by simp [Heap.set, nxy.symm]; exact ⟨rfl, rfl⟩) (by repeat (first | exact HC.refl _ | refine HC.setn ?_ (by assumption))) ?_
      refine AWK.fin (by decide +kernel) ?_
      rw [hJ]
      refine ⟨b2, b3, by assumption, by assumption, by first | exact nxy | exact nxy.symm, by assumption, by assumption, by simp, by simp, by simp, by simp [Heap.set, n1x, n1y, k1], by simp [Heap.set, nxy], by simp [Heap.set], ?_, ?_⟩
      · exact kG.le (by repeat (first | exact HLe.refl _ | refine HLe.set_new ?_ (by assumption)))
      · repeat (first | exact HLe.refl _ | refine HLe.set_new ?_ (by assumption))
    · refine AWE.op rfl ?_
      simp -implicitDefEqProofs
      refine AWS.alloc fun b3 h2 => ?_
      refine AWK.one 2 (by decide +kernel) ?_
      refine AWE.op rfl ?_
      simp -implicitDefEqProofs
      refine AWS.alloc fun b2 h3 => ?_
      have n1x : b1 ≠ b3 := by intro e; subst e; rw [k1] at h2; cases h2
      have n1y : b1 ≠ b2 := by intro e; subst e; simp [Heap.set, n1x, k1] at h3
      have nxy : b3 ≠ b2 := by intro e; subst e; simp [Heap.set] at h3
      have h3' : K1 b2 = none := (HLe.set_fresh h2).none h3
      refine AWK.one 4 (by decide +kernel) ?_
      refine AWE.op rfl ?_
      simp -implicitDefEqProofs
      refine AWS.store (by simp [Heap.set]; exact ⟨rfl, rfl⟩) (by repeat (first | exact HC.refl _ | refine HC.setn ?_ (by assumption))) ?_
      refine AWK.one 5 (by decide +kernel) ?_
      refine AWE.op rfl ?_
      simp -implicitDefEqProofs [nxy]
      refine AWS.store (by simp [Heap.set, nxy]; exact ⟨rfl, rfl⟩) (by repeat (first | exact HC.refl _ | refine HC.setn ?_ (by assumption))) ?_
      refine AWK.fin (by decide +kernel) ?_
      rw [hJ]
      refine ⟨b2, b3, by assumption, by assumption, by first | exact nxy | exact nxy.symm, by assumption, by assumption, by simp, by simp, by simp, by simp [Heap.set, n1x, n1y, k1], by simp [Heap.set, nxy.symm], by simp [Heap.set], ?_, ?_⟩
      · exact kG.le (by repeat (first | exact HLe.refl _ | refine HLe.set_new ?_ (by assumption)))
      · repeat (first | exact HLe.refl _ | refine HLe.set_new ?_ (by assumption))
  · rw [hJ]
    clear hJ
    rintro ρ K ⟨b2, b3, n12, n13, n23, hb2, hb3, r1, r2, r3, k1', k2, k3, kG, kL⟩
    simp -implicitDefEqProofs [r1, r2, r3, k1', k2, k3, n12, n13, n23.symm]
    generalize hK : Heap.set (Heap.set K b2 _) b3 _ = K4
    have g1 : K4 b1 = some (.cells (jyL [97] [64, 100, 97, 105, 108, 121]) 53) := by rw [← hK]; simp [Heap.set, n12, n13, k1']
    have g2 : K4 b2 = some (.cells (jyL [] [64, 100, 97, 105, 108, 121]) 53) := by rw [← hK]; simp [Heap.set, n23]
    have g3 : K4 b3 = some (.cells (jyL [97] [120]) 53) := by rw [← hK]; simp [Heap.set]
    have gL : HLe K1 K4 := by rw [← hK]; exact HLe.set_new (HLe.set_new kL hb2) hb3
    have gG : Glob K4 := kG0.le gL
    clear hK
    refine ACall.eq (jy_m1 gG) ?_
    simp -implicitDefEqProofs [r2, g2]
    refine ACall.eq (jy_m2 gG) ?_
    simp -implicitDefEqProofs [r3, g3]
    refine ACall.eq (jy_m3 gG) ?_
    simp -implicitDefEqProofs [r1, g1]
    refine ACall.eq (jy_f9 gG) ?_
    simp -implicitDefEqProofs
    refine ACall.eq (c_mom [0, 86400, 172800] _ _ _ rfl (by decide)) ?_
    simp -implicitDefEqProofs [r1, g1]
    refine ACall.eq (jy_f2 gG) ?_
    simp -implicitDefEqProofs
    refine ACall.eq (c_mom [86400, 172800] _ _ _ rfl (by decide)) ?_
    simp -implicitDefEqProofs
    exact kW.trans gL.wk
def greatJ (j : Jb) : Bool := decide (100 < j.name.length) || decide (600 < j.ex.length) || decide (20 < j.deps.length)
set_option maxHeartbeats 1000000 in
theorem c_great14 (j : Jb) (t : Rg.Tok) : AOk Tryz.prog 34 [jbAV j t] H (.sc (.bool (greatJ j))) H := by
  unfold greatJ
  refine ACalls.into Tryz.func34 rfl Tryz.ntmps34 Tryz.results34 (by simp) ?_
  simp -implicitDefEqProofs
  refine AAlloc.intro fun b1 h1 => ?_
  have kW : ∀ o, HWk H (H.set b1 o) := fun o => HWk.new h1 (HWk.refl _)
  by_cases c1 : 100 < j.name.length
  · have c1' : (100 : Int) < (j.name.length : Int) := by omega
    simp -implicitDefEqProofs [c1, c1']
    exact kW _
  · have c1' : ¬ (100 : Int) < (j.name.length : Int) := by omega
    by_cases c2 : 600 < j.ex.length
    · have c2' : (600 : Int) < (j.ex.length : Int) := by omega
      simp -implicitDefEqProofs [c1, c1', c2, c2']
      exact kW _
    · have c2' : ¬ (600 : Int) < (j.ex.length : Int) := by omega
      by_cases c3 : 20 < j.deps.length
      · have c3' : (20 : Int) < (j.deps.length : Int) := by omega
        simp -implicitDefEqProofs [c1, c1', c2, c2', c3, c3']
        exact kW _
      · have c3' : ¬ (20 : Int) < (j.deps.length : Int) := by omega
        simp -implicitDefEqProofs [c1, c1', c2, c2', c3, c3']
        exact kW _
set_option maxHeartbeats 2000000 in
theorem jobFires_walk (hG : Glob H) (j : Jb) (t : Rg.Tok) (a b m : Int) : AOk Tryz.prog 8 [jbAV j t, .sc (.int .i64 a), .sc (.int .i64 b), .sc (.int .i64 m)] H (.sc (.bool true)) H := by
  refine ACalls.into Tryz.func8 rfl Tryz.ntmps8 Tryz.results8 (by simp) ?_
  simp -implicitDefEqProofs
  refine AAlloc.intro fun b1 h1 => ?_
  simp -implicitDefEqProofs
  generalize hK : Heap.set _ b1 _ = K1
  have k1 : K1 b1 = some (.cells (jbC j t) 53) := by rw [← hK]; simp [Heap.set]
  have kG : Glob K1 := by rw [← hK]; exact hG.new h1
  have kW : HWk H K1 := by rw [← hK]; exact HWk.new h1 (HWk.refl _)
  clear hK
  refine ACall.eq (c_known14 kG) ?_
  simp -implicitDefEqProofs [k1]
  refine ACall.eq (c_great14 j t) ?_
  by_cases hg : greatJ j = true
  · simp -implicitDefEqProofs [hg]
    exact kW
  · have hs : j.ex.length ≤ 600 := by
      simp only [greatJ, Bool.or_eq_true, decide_eq_true_eq, not_or] at hg
      omega
    by_cases hm : 20 < m
    · simp -implicitDefEqProofs [hg, hm]
      exact kW
    · have hF := c_jobFires kG j t (by omega) (a := a) (b := b) (m := m) (by omega)
      have hR := c_refFires (H := K1) j t (by omega) (a := a) (b := b) (m := m) (by omega)
      have hl := firesB_len j a b m
      have hM := c_moments (H := K1) ((firesB j a b m).map fun n : Nat => (n : Int)) .no .no (by simp; omega)
      generalize ((firesB j a b m).map fun n : Nat => (n : Int)).map i64 = L at hF hR hM
      simp -implicitDefEqProofs [hg, hm]
      refine go_draw 12 f_mixed (by decide +kernel) ?_
      simp -implicitDefEqProofs [k1]
      refine AQS.eq hF ?_
      simp -implicitDefEqProofs [k1]
      refine AQS.eq hR ?_
      simp -implicitDefEqProofs
      refine AQS.eq hM ?_
      simp -implicitDefEqProofs
      exact kW
end Go.Proofs.YtdpgnbinekcgdaaGreatDoor
