/- Commands that are the same; the chapter's rows. Commands: whether any may be, its bytes, and which one any bytes are, is the document's. What a law's row lists of package variables, as the start heap of its run; a world that meets it. -/
import Derived.Test.YtghlkjkdejebnaaGreatDoorP22
import Derived.Test.YtghlkjkdejebnaaGreatDoorP13
import Derived.Test.YtghlkjkdejebnaaGreatDoorP08
import Derived.Lib.LaidU8
set_option linter.unusedSimpArgs false
set_option linter.unusedVariables false
set_option linter.unnecessarySimpa false
namespace Go.Proofs.YtghlkjkdejebnaaGreatDoor
open Rg Go
variable {H : Heap}
set_option maxHeartbeats 4000000 in
theorem c_cmdSame (a b : Cm) (t u : Rg.Tok) (hl : a.job.deps.length ≤ 1000000) : AOk Tryz.prog 17 [cmAV a t, cmAV b u] H (.sc (.bool (sameC a b))) H := by
  have hj := fun K => c_jobSame (H := K) a.job b.job t u hl
  have hbe := fun K => c_bears (H := K) a.kind
  obtain ⟨res, hres⟩ : ∃ res, sameC a b = res := ⟨_, rfl⟩
  rw [hres]
  unfold sameC at hres
  refine ACalls.into Tryz.func17 rfl Tryz.ntmps17 Tryz.results17 (by simp) ?_
  simp -implicitDefEqProofs
  refine AAlloc.intro fun p hp => ?_
  simp -implicitDefEqProofs
  refine AAlloc.intro fun q hq => ?_
  have npq : p ≠ q := by rintro rfl; simp [Heap.set] at hq
  simp -implicitDefEqProofs [npq]
  generalize hK : Heap.set _ q _ = K
  have kp : K p = some (.cells (cmC a t) 27) := by rw [← hK]; simp [Heap.set, npq]
  have kq : K q = some (.cells (cmC b u) 27) := by rw [← hK]; simp [Heap.set]
  have kW : HWk H K := by rw [← hK]; exact (HLe.set_new (HLe.set_fresh hp) ((HLe.set_fresh hp).none hq)).wk
  clear hK
  obtain ⟨c0, hc0⟩ : ∃ c, decide (a.kind = b.kind) = c := ⟨_, rfl⟩
  obtain ⟨c1, hc1⟩ : ∃ c, decide (a.cl = b.cl) = c := ⟨_, rfl⟩
  have hi1 : decide ((a.cl : Int) = (b.cl : Int)) = c1 := by rw [← hc1]; congr 1; exact propext ⟨fun h => by omega, fun h => by omega⟩
  obtain ⟨c2, hc2⟩ : ∃ c, decide (a.sq = b.sq) = c := ⟨_, rfl⟩
  have hi2 : decide ((a.sq : Int) = (b.sq : Int)) = c2 := by rw [← hc2]; congr 1; exact propext ⟨fun h => by omega, fun h => by omega⟩
  obtain ⟨c3, hc3⟩ : ∃ c, decide (a.id = b.id) = c := ⟨_, rfl⟩
  have hi3 : decide ((a.id : Int) = (b.id : Int)) = c3 := by rw [← hc3]; congr 1; exact propext ⟨fun h => by omega, fun h => by omega⟩
  obtain ⟨c4, hc4⟩ : ∃ c, decide (a.at_ = b.at_) = c := ⟨_, rfl⟩
  obtain ⟨c5, hc5⟩ : ∃ c, decide (a.tk = b.tk) = c := ⟨_, rfl⟩
  have hi5 : decide ((a.tk : Int) = (b.tk : Int)) = c5 := by rw [← hc5]; congr 1; exact propext ⟨fun h => by omega, fun h => by omega⟩
  obtain ⟨c6, hc6⟩ : ∃ c, decide (a.wk = b.wk) = c := ⟨_, rfl⟩
  have hi6 : decide ((a.wk : Int) = (b.wk : Int)) = c6 := by rw [← hc6]; congr 1; exact propext ⟨fun h => by omega, fun h => by omega⟩
  rw [hc0, hc1, hc2, hc3, hc4, hc5, hc6] at hres
  obtain ⟨sj, hsj⟩ : ∃ c, sameJ a.job b.job = c := ⟨_, rfl⟩
  rw [hsj] at hres hj
  obtain ⟨br, hbr⟩ : ∃ c, bearsC a.kind = c := ⟨_, rfl⟩
  rw [hbr] at hres
  simp only [hbr] at hbe
  subst hres
  simp -implicitDefEqProofs [kp, kq, hc0]
  cases c0 with
  | false =>
    simp -implicitDefEqProofs [kp, kq, kW]
  | true =>
    simp -implicitDefEqProofs [kp, kq, hc1, hi1]
    cases c1 with
    | false =>
      simp -implicitDefEqProofs [kp, kq, kW]
    | true =>
      simp -implicitDefEqProofs [kp, kq, hc2, hi2]
      cases c2 with
      | false =>
        simp -implicitDefEqProofs [kp, kq, kW]
      | true =>
        simp -implicitDefEqProofs [kp, kq, hc3, hi3]
        cases c3 with
        | false =>
          simp -implicitDefEqProofs [kp, kq, kW]
        | true =>
          simp -implicitDefEqProofs [kp, kq, hc4]
          cases c4 with
          | false =>
            simp -implicitDefEqProofs [kp, kq, kW]
          | true =>
            simp -implicitDefEqProofs [kp, kq, hc5, hi5]
            cases c5 with
            | false =>
              simp -implicitDefEqProofs [kp, kq, kW]
            | true =>
              simp -implicitDefEqProofs [kp, kq, hc6, hi6]
              cases c6 with
              | false =>
                simp -implicitDefEqProofs [kp, kq, kW]
              | true =>
                simp -implicitDefEqProofs [kp, kq]
                refine ACall.eq (hbe _) ?_
                cases br with
                | false =>
                  simp -implicitDefEqProofs [kp, kq, kW]
                | true =>
                  simp -implicitDefEqProofs [kp, kq]
                  refine ACall.eq (hj _) ?_
                  simp -implicitDefEqProofs [kp, kq, kW]
set_option maxHeartbeats 4000000 in
theorem c_ref19Same (a b : Cm) (t u : Rg.Tok) (hl : a.job.deps.length ≤ 1000000) : AOk Tryz.prog 16 [cmAV a t, cmAV b u] H (.sc (.bool (sameC a b))) H := by
  have hj := fun K => c_ref14Same (H := K) a.job b.job t u hl
  have hbe := fun K => c_bears (H := K) a.kind
  obtain ⟨res, hres⟩ : ∃ res, sameC a b = res := ⟨_, rfl⟩
  rw [hres]
  unfold sameC at hres
  refine ACalls.into Tryz.func16 rfl Tryz.ntmps16 Tryz.results16 (by simp) ?_
  simp -implicitDefEqProofs
  refine AAlloc.intro fun p hp => ?_
  simp -implicitDefEqProofs
  refine AAlloc.intro fun q hq => ?_
  have npq : p ≠ q := by rintro rfl; simp [Heap.set] at hq
  simp -implicitDefEqProofs [npq]
  generalize hK : Heap.set _ q _ = K
  have kp : K p = some (.cells (cmC a t) 27) := by rw [← hK]; simp [Heap.set, npq]
  have kq : K q = some (.cells (cmC b u) 27) := by rw [← hK]; simp [Heap.set]
  have kW : HWk H K := by rw [← hK]; exact (HLe.set_new (HLe.set_fresh hp) ((HLe.set_fresh hp).none hq)).wk
  clear hK
  obtain ⟨c0, hc0⟩ : ∃ c, decide (a.kind = b.kind) = c := ⟨_, rfl⟩
  obtain ⟨c1, hc1⟩ : ∃ c, decide (a.cl = b.cl) = c := ⟨_, rfl⟩
  have hi1 : decide ((a.cl : Int) = (b.cl : Int)) = c1 := by rw [← hc1]; congr 1; exact propext ⟨fun h => by omega, fun h => by omega⟩
  obtain ⟨c2, hc2⟩ : ∃ c, decide (a.sq = b.sq) = c := ⟨_, rfl⟩
  have hi2 : decide ((a.sq : Int) = (b.sq : Int)) = c2 := by rw [← hc2]; congr 1; exact propext ⟨fun h => by omega, fun h => by omega⟩
  obtain ⟨c3, hc3⟩ : ∃ c, decide (a.id = b.id) = c := ⟨_, rfl⟩
  have hi3 : decide ((a.id : Int) = (b.id : Int)) = c3 := by rw [← hc3]; congr 1; exact propext ⟨fun h => by omega, fun h => by omega⟩
  obtain ⟨c4, hc4⟩ : ∃ c, decide (a.at_ = b.at_) = c := ⟨_, rfl⟩
  obtain ⟨c5, hc5⟩ : ∃ c, decide (a.tk = b.tk) = c := ⟨_, rfl⟩
  have hi5 : decide ((a.tk : Int) = (b.tk : Int)) = c5 := by rw [← hc5]; congr 1; exact propext ⟨fun h => by omega, fun h => by omega⟩
  obtain ⟨c6, hc6⟩ : ∃ c, decide (a.wk = b.wk) = c := ⟨_, rfl⟩
  have hi6 : decide ((a.wk : Int) = (b.wk : Int)) = c6 := by rw [← hc6]; congr 1; exact propext ⟨fun h => by omega, fun h => by omega⟩
  rw [hc0, hc1, hc2, hc3, hc4, hc5, hc6] at hres
  obtain ⟨sj, hsj⟩ : ∃ c, sameJ a.job b.job = c := ⟨_, rfl⟩
  rw [hsj] at hres hj
  simp -implicitDefEqProofs [kp, kq, hc0]
  cases c0 with
  | false =>
    simp only [Bool.false_and, Bool.and_false, Bool.true_and] at hres
    subst hres
    simp -implicitDefEqProofs [kp, kq, kW]
  | true =>
    simp -implicitDefEqProofs [kp, kq, hc1, hi1]
    cases c1 with
    | false =>
      simp only [Bool.false_and, Bool.and_false, Bool.true_and] at hres
      subst hres
      simp -implicitDefEqProofs [kp, kq, kW]
    | true =>
      simp -implicitDefEqProofs [kp, kq, hc2, hi2]
      cases c2 with
      | false =>
        simp only [Bool.false_and, Bool.and_false, Bool.true_and] at hres
        subst hres
        simp -implicitDefEqProofs [kp, kq, kW]
      | true =>
        simp -implicitDefEqProofs [kp, kq, hc3, hi3]
        cases c3 with
        | false =>
          simp only [Bool.false_and, Bool.and_false, Bool.true_and] at hres
          subst hres
          simp -implicitDefEqProofs [kp, kq, kW]
        | true =>
          simp -implicitDefEqProofs [kp, kq, hc4]
          cases c4 with
          | false =>
            simp only [Bool.false_and, Bool.and_false, Bool.true_and] at hres
            subst hres
            simp -implicitDefEqProofs [kp, kq, kW]
          | true =>
            simp -implicitDefEqProofs [kp, kq, hc5, hi5]
            cases c5 with
            | false =>
              simp only [Bool.false_and, Bool.and_false, Bool.true_and] at hres
              subst hres
              simp -implicitDefEqProofs [kp, kq, kW]
            | true =>
              simp -implicitDefEqProofs [kp, kq, hc6, hi6]
              cases c6 with
              | false =>
                simp only [Bool.false_and, Bool.and_false, Bool.true_and] at hres
                subst hres
                simp -implicitDefEqProofs [kp, kq, kW]
              | true =>
                unfold bearsC at hres
                by_cases h2 : a.kind = 2
                · rw [decide_eq_true h2] at hres
                  simp only [Bool.true_or, Bool.not_true, Bool.false_or, Bool.true_and, Bool.and_true] at hres
                  subst hres
                  simp -implicitDefEqProofs [kp, kq, h2]
                  refine ACall.eq (hj _) ?_
                  simp -implicitDefEqProofs [kW]
                · by_cases h3 : a.kind = 3
                  · rw [decide_eq_true h3] at hres
                    simp only [Bool.or_true, Bool.not_true, Bool.false_or, Bool.true_and, Bool.and_true] at hres
                    subst hres
                    simp -implicitDefEqProofs [kp, kq, h3]
                    refine ACall.eq (hj _) ?_
                    simp -implicitDefEqProofs [kW]
                  · rw [decide_eq_false h2, decide_eq_false h3] at hres
                    simp only [Bool.or_false, Bool.not_false, Bool.true_or, Bool.true_and, Bool.and_true] at hres
                    subst hres
                    simp -implicitDefEqProofs [kp, kq, h2, h3, kW]
def cm7 : Cm := ⟨7, 0, 0, 0, 300, 0, 0, jb0⟩
theorem cm7_may : mayM cm7 = 0 := by decide
theorem cm7_len : (putC cm7).length = 8 := by decide +kernel
theorem cm11_may : mayM { cm0 with kind := 11 } = 2 := by decide
theorem cm2_may : mayM { cm0 with kind := 2 } = 140 := by decide
abbrev cmZ (k a : Int) : List AV := [.sc (.int .i64 k), .sc (.int .u64 0), .sc (.int .u64 0), .sc (.int .u64 0), .sc (.int .i64 a), .sc (.int .u64 0), .sc (.int .u64 0), .sc (.int .u64 0), str [], str [], .sc (.int .i64 0), .sc (.int .i64 0), .sc (.int .i64 0), .sc (.int .i64 0), .sc (.int .i64 0), .sl [] .nil, .sc (.bool false), .sc (.int .u64 0), .sc (.int .i64 0)]
theorem cm7_put (hG : Glob H) : AOk Tryz.prog 10 [.agg (cmZ 7 300)] H (.tup [.sl (u8s (putC cm7)) .no, .sc (.int .i64 0)]) H :=
  c_cmdPutOk hG cm7 .nil ⟨by decide, by decide, by decide, by decide, by decide, jb0_ok⟩ cm7_may (by decide)
theorem cm11_m (hG : Glob H) : AOk Tryz.prog 14 [.agg (cmZ 11 0)] H (.sc (.int .i64 2)) H := by
  have := c_cmdMay hG { cm0 with kind := 11 } .nil (by decide)
  rw [cm11_may] at this
  exact this
theorem cm2_m (hG : Glob H) : AOk Tryz.prog 14 [.agg (cmZ 2 0)] H (.sc (.int .i64 140)) H := by
  have := c_cmdMay hG { cm0 with kind := 2 } .nil (by decide)
  rw [cm2_may] at this
  exact this
theorem c_known19 (hG : Glob H) : AOk Tryz.prog 8 [] H (.sc (.bool true)) H := by
  refine ACalls.into Tryz.func8 rfl Tryz.ntmps8 Tryz.results8 (by simp) ?_
  simp -implicitDefEqProofs
  refine ACall.eq (cm7_put hG) ?_
  have hl := cm7_len
  generalize putC cm7 = q at hl
  simp -implicitDefEqProofs [hl]
  refine ACall.eq (cm11_m hG) ?_
  simp -implicitDefEqProofs
  refine ACall.eq (cm2_m hG) ?_
  simp -implicitDefEqProofs
def greatC (c : Cm) : Bool := decide (100 < c.job.name.length) || decide (600 < c.job.ex.length) || decide (20 < c.job.deps.length)
set_option maxHeartbeats 1000000 in
theorem c_great19 (c : Cm) (t : Rg.Tok) : AOk Tryz.prog 9 [cmAV c t] H (.sc (.bool (greatC c))) H := by
  unfold greatC
  refine ACalls.into Tryz.func9 rfl Tryz.ntmps9 Tryz.results9 (by simp) ?_
  simp -implicitDefEqProofs
  refine AAlloc.intro fun b1 h1 => ?_
  have kW : ∀ o, HWk H (H.set b1 o) := fun o => HWk.new h1 (HWk.refl _)
  by_cases c1 : 100 < c.job.name.length
  · have c1' : (100 : Int) < (c.job.name.length : Int) := by omega
    simp -implicitDefEqProofs [c1, c1']
    exact kW _
  · have c1' : ¬ (100 : Int) < (c.job.name.length : Int) := by omega
    by_cases c2 : 600 < c.job.ex.length
    · have c2' : (600 : Int) < (c.job.ex.length : Int) := by omega
      simp -implicitDefEqProofs [c1, c1', c2, c2']
      exact kW _
    · have c2' : ¬ (600 : Int) < (c.job.ex.length : Int) := by omega
      by_cases c3 : 20 < c.job.deps.length
      · have c3' : (20 : Int) < (c.job.deps.length : Int) := by omega
        simp -implicitDefEqProofs [c1, c1', c2, c2', c3, c3']
        exact kW _
      · have c3' : ¬ (20 : Int) < (c.job.deps.length : Int) := by omega
        simp -implicitDefEqProofs [c1, c1', c2, c2', c3, c3']
        exact kW _
end Go.Proofs.YtghlkjkdejebnaaGreatDoor
namespace Go.Proofs.YtghlkjkdejebnaaGreatDoor
open Rg Go
variable {H : Heap}
theorem AOk.wk {P : Program} {f : FuncId} {args : List AV} {v v' : AV} {K : Heap} (h : AOk P f args H v K) (hw : wk v v') : AOk P f args H v' K :=
  ACalls.weaken (h.mono fun r K' ⟨h1, h2⟩ => ⟨v', K, by rw [h1]; exact hw, by rw [h2]; exact HWk.refl _, rfl, rfl⟩)
def cmdP (o : Option Cm) : Cm := o.getD cm0
def cmdE (o : Option Cm) : Nat := match o with | some _ => 0 | none => 4
theorem cmdAV_eq (o : Option Cm) : cmdAV o = .tup [cmAV (cmdP o) .no, .sc (.int .i64 (cmdE o : Nat))] := by cases o <;> rfl
theorem parseC_deps (b : List UInt8) : (cmdP (parseC b)).job.deps.length ≤ 8 := by
  rcases h : parseC b with _ | p
  · simp [cmdP, jb0]
  · obtain ⟨-, h2, -, h4, -⟩ := parseC_inv h
    simp only [cmdP, Option.getD_some]
    by_cases hb : bearsC p.kind = true
    · exact (JbMay.of ((MM.of h2).job hb)).deps
    · unfold normC at h4
      rw [if_neg hb] at h4
      rw [← h4]
      simp [jb0]
theorem sameC_refl (c : Cm) : sameC c c = true := sameC_iff.2 rfl
theorem putC_both (c : Cm) (ho : CmOk c) (hs : c.job.ex.length ≤ 4096) : ∃ (xs : List UInt8) (e : Int), xs.length ≤ 4600 ∧ (∀ K, Glob K → AOk Tryz.prog 10 [cmAV c .no] K (.tup [.sl (u8s xs) .no, .sc (.int .i64 e)]) K) ∧
    ∀ K, AOk Tryz.prog 11 [cmAV c .no] K (.tup [.sl (u8s xs) .no, .sc (.int .i64 e)]) K := by
  by_cases hm : mayM c = 0
  · exact ⟨putC c, 0, putC_len ho hm hs, fun K hG => c_cmdPutOk hG c .no ho hm hs, fun K => c_ref19PutOk c .no ho hm hs⟩
  · exact ⟨[], mayM c, by simp, fun K hG => AOk.wk (c_cmdPutNo hG c .no hm (by omega)) (by simp), fun K => AOk.wk (c_ref19PutNo c .no hm (by omega)) (by simp)⟩
set_option maxHeartbeats 4000000 in
theorem cmdPuts_walk (hG : Glob H) (c d : Cm) (hc : CmOk c) (b : List UInt8) : AOk Tryz.prog 3 [cmAV c .no, cmAV d .no, .sl (u8s b) .no] H (.sc (.bool true)) H := by
  refine ACalls.into Tryz.func3 rfl Tryz.ntmps3 Tryz.results3 (by simp) ?_
  simp -implicitDefEqProofs
  refine AAlloc.intro fun p1 h1 => ?_
  simp -implicitDefEqProofs
  refine AAlloc.intro fun p2 h2 => ?_
  have n12 : p1 ≠ p2 := by rintro rfl; simp [Heap.set] at h2
  simp -implicitDefEqProofs
  generalize hK : Heap.set _ p2 _ = K
  have k1 : K p1 = some (.cells (cmC c .no) 27) := by rw [← hK]; simp [Heap.set, n12]
  have k2 : K p2 = some (.cells (cmC d .no) 27) := by rw [← hK]; simp [Heap.set]
  have kL : HLe H K := by rw [← hK]; exact HLe.set_new (HLe.set_fresh h1) ((HLe.set_fresh h1).none h2)
  have kG : Glob K := hG.le kL
  clear hK
  refine ACall.eq (c_known19 kG) ?_
  simp -implicitDefEqProofs [k1]
  refine ACall.eq (c_great19 c .no) ?_
  cases g1 : greatC c with
  | true =>
    simp -implicitDefEqProofs
    exact kL.wk
  | false =>
    simp -implicitDefEqProofs [k2]
    refine ACall.eq (c_great19 d .no) ?_
    cases g2 : greatC d with
    | true =>
      simp -implicitDefEqProofs
      exact kL.wk
    | false =>
      by_cases hb : 700 < b.length
      · have hb' : (700 : Int) < (b.length : Int) := by omega
        simp -implicitDefEqProofs [hb, hb']
        exact kL.wk
      · have hb' : ¬ (700 : Int) < (b.length : Int) := by omega
        simp only [greatC, Bool.or_eq_false_iff, decide_eq_false_iff_not, Nat.not_lt] at g1 g2
        obtain ⟨xs, e, hxl, hp1, hp2⟩ := putC_both c hc (by omega)
        have hq1 := fun K (hK : Glob K) => c_cmdParse hK b .no (by omega)
        have hq2 := fun K => c_ref19Parse (H := K) b (by omega)
        have hdl := parseC_deps b
        simp only [cmdAV_eq] at hq1 hq2
        obtain ⟨p, hp⟩ : ∃ p, cmdP (parseC b) = p := ⟨_, rfl⟩
        obtain ⟨pe, hpe⟩ : ∃ e, cmdE (parseC b) = e := ⟨_, rfl⟩
        rw [hp] at hdl
        simp only [hp, hpe] at hq1 hq2
        have m1 : xs.length ≤ maxLen := by simp only [maxLen]; omega
        simp -implicitDefEqProofs [hb, hb', k1]
        refine ACall.eq (hp1 _ kG) ?_
        simp -implicitDefEqProofs [k1]
        refine ACall.eq (hp2 _) ?_
        simp -implicitDefEqProofs
        refine ACall.eq (hq1 _ kG) ?_
        simp -implicitDefEqProofs
        refine AAlloc.intro fun p3 h3 => ?_
        simp -implicitDefEqProofs
        refine ACall.eq (hq2 _) ?_
        simp -implicitDefEqProofs
        refine AAlloc.intro fun p4 h4 => ?_
        have n34 : p3 ≠ p4 := by rintro rfl; simp [Heap.set] at h4
        simp -implicitDefEqProofs
        generalize hK3 : Heap.set _ p4 _ = K3
        have kL3 : HLe K K3 := by rw [← hK3]; exact HLe.set_new (HLe.set_fresh h3) ((HLe.set_fresh h3).none h4)
        have j1 : K3 p1 = some (.cells (cmC c .no) 27) := kL3 _ _ k1
        have j2 : K3 p2 = some (.cells (cmC d .no) 27) := kL3 _ _ k2
        have j3 : K3 p3 = some (.cells (cmC p .no) 27) := by rw [← hK3]; simp [Heap.set, n34]
        have j4 : K3 p4 = some (.cells (cmC p .no) 27) := by rw [← hK3]; simp [Heap.set]
        have jG : Glob K3 := kG.le kL3
        clear hK3
        have hm1 := c_cmdMay jG c .no (by omega)
        have hm2 := c_ref19May (H := K3) c .no (by omega)
        have hs1 := c_ref19Same (H := K3) p p .no .no (by omega)
        rw [sameC_refl] at hs1
        have hs2 := c_cmdSame (H := K3) c d .no .no (by omega)
        have hs3 := c_ref19Same (H := K3) c d .no .no (by omega)
        generalize mayM c = em at hm1 hm2
        generalize sameC c d = sm at hs2 hs3
        refine go_draw 37 f_mixed (by decide +kernel) ?_
        simp -implicitDefEqProofs [j1, j2, j3, j4]
        refine AQS.eq hm1 ?_
        simp -implicitDefEqProofs [j1]
        refine AQS.eq hm2 ?_
        simp -implicitDefEqProofs [aconv, abytes_u8s xs, m1, j1, j2, j3, j4]
        refine AQS.eq hs1 ?_
        simp -implicitDefEqProofs [j1, j2]
        refine AQS.eq hs2 ?_
        simp -implicitDefEqProofs [j1, j2]
        refine AQS.eq hs3 ?_
        simp -implicitDefEqProofs
        exact (kL.trans kL3).wk
end Go.Proofs.YtghlkjkdejebnaaGreatDoor
namespace Go.Proofs.YtghlkjkdejebnaaGreatDoor
open Rg Go Go.RowKit
theorem eq_ctz : (Rows.laid_math_bits_deBruijn64tab : DataW Unit) = Lib.tabData .u8 (Lib.deBruijn64tab.map fun n : Nat => (n : Int)) := by kernel_rfl
theorem eq_first : Rows.laid_unicode_utf8_first = Lib.firstData := by kernel_rfl
theorem eq_accept : (Rows.laid_unicode_utf8_acceptRanges : DataW Unit) = Lib.acceptData := by kernel_rfl
theorem u8extra : U8Extra Tryz.prog Tryz.lays260_ren := ⟨by kernel_rfl, by kernel_rfl, by kernel_rfl, by kernel_rfl, by kernel_rfl, by kernel_rfl, by kernel_rfl⟩
def ctzUs : List Value := Lib.deBruijn64tab.map fun n : Nat => .int .u8 n
def firstUs : List Value := (List.range 256).map fun c => .int .u8 (Lib.firstT c)
def acceptUs : List Value := (List.range 16).flatMap fun i => [.int .u8 (Lib.accLo i), .int .u8 (Lib.accHi i)]
def gro (m : Int) : Heap := fun b =>
  if b = 7 then some (.ro ctzUs) else if b = 0 then some (.ro [.int .i64 m]) else
  if b = 1 then some (.ro firstUs) else if b = 2 then some (.ro acceptUs) else none
theorem acceptUs_at : ∀ i, i < 16 → acceptUs[2 * i]? = some (.int .u8 (Lib.accLo i)) ∧ acceptUs[2 * i + 1]? = some (.int .u8 (Lib.accHi i)) := fun i hi => by
  have h : i = 0 ∨ i = 1 ∨ i = 2 ∨ i = 3 ∨ i = 4 ∨ i = 5 ∨ i = 6 ∨ i = 7 ∨ i = 8 ∨ i = 9 ∨ i = 10 ∨ i = 11 ∨ i = 12 ∨ i = 13 ∨ i = 14 ∨ i = 15 := by omega
  rcases h with rfl | rfl | rfl | rfl | rfl | rfl | rfl | rfl | rfl | rfl | rfl | rfl | rfl | rfl | rfl | rfl <;> exact ⟨by kernel_rfl, by kernel_rfl⟩
theorem glob_gro (m : Int) : Glob (gro m) := by
  refine ⟨⟨m, rfl⟩, ⟨ctzUs, rfl, fun j hj => ?_⟩, ⟨firstUs, rfl, fun c hc => ?_⟩, ⟨acceptUs, rfl, acceptUs_at⟩⟩
  · simp only [ctzUs, List.getElem?_map, List.getD_eq_getElem?_getD, List.getElem?_eq_getElem hj]
    rfl
  · simp only [firstUs, List.getElem?_map, List.getElem?_range hc]
    rfl
theorem ctz_reads {W : World} {l : List (String × DataW Unit)} (hL : laidMet Tryz.prog l W) (h1 : ("math/bits.deBruijn64tab", Rows.laid_math_bits_deBruijn64tab) ∈ l) (j : Nat) (u : Value) (hu : ctzUs[j]? = some u) : W.cell? ⟨7, j, none⟩ = some u := by
  obtain ⟨g, t, cs, fuel, p, hg, hty, hvar, hd⟩ := Lib.laidMet.reads hL h1
  obtain rfl : 7 = g := Option.some.inj ((show Tryz.prog.globalNamed "math/bits.deBruijn64tab" = some 7 by kernel_rfl).symm.trans hg)
  obtain rfl : 281 = t := Option.some.inj ((show (Tryz.prog.globals[7]?).map (·.type) = some 281 by kernel_rfl).symm.trans hty)
  rw [eq_ctz] at hd
  have hcs := Lib.cells_of_tab (e := 5) (n := 64) (by kernel_rfl) (by kernel_rfl) (by kernel_rfl) (by kernel_rfl) hd
  rw [World.var?_cell hg hvar j, ← Array.getElem?_toList, hcs, ← hu]
  unfold ctzUs
  simp [Function.comp_def]
theorem gro_reads {W : World} {l : List (String × DataW Unit)} (hL : laidMet Tryz.prog l W) (hsh : W.ShapedOpen Tryz.prog) (h1 : ("math/bits.deBruijn64tab", Rows.laid_math_bits_deBruijn64tab) ∈ l)
    (h3 : ("unicode/utf8.first", Rows.laid_unicode_utf8_first) ∈ l) (h4 : ("unicode/utf8.acceptRanges", Rows.laid_unicode_utf8_acceptRanges) ∈ l) : ∃ m, Reads W (gro m) := by
  obtain ⟨m, hm⟩ : ∃ m, W.cell? ⟨0, 0, none⟩ = some (.int .i64 m) := Tryz.laysM145.s1_3 W hsh
  obtain ⟨t3, t4⟩ : Lib.Utf8Tabs 1 2 W := utf8Tabs_of_reads Tryz.lays260 u8extra (eq_first ▸ Lib.laidMet.reads hL h3) (eq_accept ▸ Lib.laidMet.reads hL h4)
  refine ⟨m, fun b ob e => ?_⟩
  unfold gro at e
  split at e
  · rename_i hb
    subst hb; cases e
    exact ⟨ctzUs, rfl, by decide +kernel, by decide +kernel, ctz_reads hL h1, fun h => absurd h (by decide +kernel)⟩
  · split at e
    · rename_i hb
      subst hb; cases e
      refine ⟨_, rfl, by simp, by simp [Value.oneCell'], fun j u hu => ?_, fun h => by simp at h⟩
      cases j with
      | zero => simp at hu; subst hu; exact hm
      | succ j => simp at hu
    · split at e
      · rename_i hb
        subst hb; cases e
        refine ⟨firstUs, rfl, by decide +kernel, by decide +kernel, fun j u hu => ?_, fun h => absurd h (by decide +kernel)⟩
        have hj : j < 256 := by have := (List.getElem?_eq_some_iff.1 hu).1; simpa [firstUs] using this
        rw [t3 j hj, ← hu]
        simp only [firstUs, List.getElem?_map, List.getElem?_range hj]
        rfl
      · split at e
        · rename_i hb
          subst hb; cases e
          refine ⟨acceptUs, rfl, by decide +kernel, by decide +kernel, fun j u hu => ?_, fun h => absurd h (by decide +kernel)⟩
          have hj : j < 32 := by have := (List.getElem?_eq_some_iff.1 hu).1; rwa [show acceptUs.length = 32 by kernel_rfl] at this
          rcases Nat.mod_two_eq_zero_or_one j with h | h
          · obtain ⟨i, rfl⟩ : ∃ i, j = 2 * i := ⟨j / 2, by omega⟩
            rw [(t4 i (by omega)).1, ← hu, (acceptUs_at i (by omega)).1]
          · obtain ⟨i, rfl⟩ : ∃ i, j = 2 * i + 1 := ⟨j / 2, by omega⟩
            rw [(t4 i (by omega)).2, ← hu, (acceptUs_at i (by omega)).2]
        · cases e
def setCells (cs : Array Value) : Obj → Obj
  | .cells _ t fr => .cells cs t fr
  | o => o
noncomputable def low : Nat := (World.holding Tryz.prog default ⟨#[], #[], []⟩).heap.size
noncomputable def laidWorld (os : Os) : World :=
  let w0 := World.holding Tryz.prog os ⟨#[.cells #[.string ⟨#[105, 110, 118, 97, 108, 105, 100, 32, 115, 121, 110, 116, 97, 120]⟩] 271, .cells #[.string ⟨#[118, 97, 108, 117, 101, 32, 111, 117, 116, 32, 111, 102, 32, 114, 97, 110, 103, 101]⟩] 271], #[], []⟩
  { w0 with heap := ((((((w0.heap.modify 7 (setCells ctzUs.toArray)).modify 6 (setCells (Lib.deBruijn32tab.map fun n : Nat => Value.int .u8 n).toArray)).modify 1 (setCells firstUs.toArray)).modify 2 (setCells acceptUs.toArray)).modify 5
    (setCells ((List.range 20).map fun n => Value.int .u64 (10 ^ n)).toArray)).modify 3 (setCells #[.iface 269 (.pointer (some ⟨low, 0, none⟩))])).modify 4 (setCells #[.iface 269 (.pointer (some ⟨low + 1, 0, none⟩))]) }
theorem own : ownKnob Tryz.prog.godebug = none := by kernel_rfl
end Go.Proofs.YtghlkjkdejebnaaGreatDoor
