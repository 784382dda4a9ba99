/- Commands as bytes: the document's Put; what is parsed. Commands as bytes: what the document's Parse gives. Commands that are the same; the chapter's rows. Commands: whether any may be, its bytes, and which one any bytes are, is the document's. Commands: what was put is parsed as it was. What a law's row lists of package variables, as the start heap of its run; a world that meets it. -/
import Derived.Test.YtghlkjkdejebnaaGreatDoorP16
import Derived.Test.YtghlkjkdejebnaaGreatDoorP13
import Derived.Test.YtghlkjkdejebnaaGreatDoorP08
import Derived.Lib.LaidU8
set_option linter.unusedSimpArgs false
set_option linter.unusedVariables false
set_option linter.unnecessarySimpa false
namespace Go.Proofs.YtghlkjkdejebnaaGreatDoor
open Rg Go
variable {H : Heap}
def cmdAV : Option Cm → AV
  | some c => .tup [cmAV c .no, .sc (.int .i64 0)]
  | none => .tup [cmAV cm0 .no, .sc (.int .i64 4)]
theorem numC_le (b : List UInt8) (m : Nat) (s : Nat × Bool) (h : s.1 ≤ b.length) : (numC b m s).2.1 ≤ b.length := by
  have := takeK_le b s.1 h
  unfold numC
  simp only
  omega
theorem numC_ok {b : List UInt8} {m : Nat} {s : Nat × Bool} (h : (numC b m s).2.2 = false) : s.2 = false ∧ (numC b m s).1 ≤ m := by
  unfold numC at h ⊢
  simp only [Bool.or_eq_false_iff, decide_eq_false_iff_not] at h
  exact ⟨h.1.1, by simp only; omega⟩
set_option maxHeartbeats 1000000 in
theorem c_cmdNum {b : List UInt8} {t : Rg.Tok} {pb pa pd : Nat} {s : Nat × Bool} {K : Heap} (h : Three b t pb pa pd s K) (hs : s.1 ≤ b.length) (hb : b.length ≤ 1000000) (most : Nat) (hm : most < 18446744073709551616) :
    AOk Tryz.prog 53 [.sc (.int .u64 (most : Int)), .sc (.pointer (some ⟨pb, 0, none⟩)), .sc (.pointer (some ⟨pa, 0, none⟩)), .sc (.pointer (some ⟨pd, 0, none⟩))] K (.sc (.int .u64 ((numC b most s).1 : Int))) (upd3 pa pd (numC b most s).2 K) := by
  obtain ⟨n1, n2, n3⟩ := h.ne
  obtain ⟨a, bad⟩ := s
  have hh1 := h.b
  have hh2 := h.a
  have hh3 := h.d
  simp only at hs hh1 hh2 hh3
  obtain ⟨n, nx, e, hp⟩ : ∃ n nx e, takeK b a = (n, nx, e) := ⟨_, _, _, rfl⟩
  have hlt := takeK_lt b a
  have htk := c_packTake (H := K) b t a hs hb
  unfold numC
  simp only [hp] at hlt htk ⊢
  obtain ⟨mx, hmx2⟩ : ∃ mx, max a nx = mx := ⟨_, rfl⟩
  have hmx : (if a < nx then (nx : Int) else (a : Int)) = (mx : Int) := by split <;> omega
  rw [hmx2]
  refine ACalls.into Tryz.func53 rfl Tryz.ntmps53 Tryz.results53 (by simp) ?_
  simp -implicitDefEqProofs [hh1, hh2, hh3]
  refine ACall.eq htk ?_
  cases bad with
  | true =>
    simp -implicitDefEqProofs [hh1, hh2, hh3, hmx, n3, Ne.symm n3]
  | false =>
    by_cases he : e = 0
    · have he' : (e : Int) = 0 := by omega
      by_cases hmo : most < n
      · have hmo' : (most : Int) < (n : Int) := by omega
        simp -implicitDefEqProofs [hh1, hh2, hh3, he, he', hmo, hmo', hmx, n3, Ne.symm n3]
      · have hmo' : ¬ (most : Int) < (n : Int) := by omega
        simp -implicitDefEqProofs [hh1, hh2, hh3, he, he', hmo, hmo', hmx, n3, Ne.symm n3]
    · have he' : ¬ (e : Int) = 0 := by omega
      simp -implicitDefEqProofs [hh1, hh2, hh3, he, he', hmx, n3, Ne.symm n3]
set_option maxHeartbeats 4000000 in
theorem c_cmdParse (hG : Glob H) (b : List UInt8) (t : Rg.Tok) (hb : b.length ≤ 1000000) : AOk Tryz.prog 12 [.sl (u8s b) t] H (cmdAV (parseC b)) H := by
  obtain ⟨res, hres⟩ : ∃ res, parseC b = res := ⟨_, rfl⟩
  rw [hres]
  refine ACalls.into Tryz.func12 rfl Tryz.ntmps12 Tryz.results12 (by simp) ?_
  simp -implicitDefEqProofs
  refine AAlloc.intro fun pb hpb => ?_
  simp -implicitDefEqProofs
  refine AAlloc.intro fun pr hpr => ?_
  simp -implicitDefEqProofs
  refine AAlloc.intro fun pa hpa => ?_
  simp -implicitDefEqProofs
  refine AAlloc.intro fun pd hpd => ?_
  have e1 : pb ≠ pr := by rintro rfl; simp [Heap.set] at hpr
  have e2 : pb ≠ pa := by rintro rfl; simp [Heap.set, e1] at hpa
  have e3 : pr ≠ pa := by rintro rfl; simp [Heap.set] at hpa
  have e4 : pb ≠ pd := by rintro rfl; simp [Heap.set, e1, e2] at hpd
  have e5 : pr ≠ pd := by rintro rfl; simp [Heap.set, e3] at hpd
  have e6 : pa ≠ pd := by rintro rfl; simp [Heap.set] at hpd
  have hr0 : H pr = none := by simpa [Heap.set, Ne.symm e1] using hpr
  have ha0 : H pa = none := by simpa [Heap.set, Ne.symm e2, Ne.symm e3] using hpa
  have hd0 : H pd = none := by simpa [Heap.set, Ne.symm e4, Ne.symm e5, Ne.symm e6] using hpd
  simp -implicitDefEqProofs [e1, e2, e3, e4, e5, e6, Ne.symm e1, Ne.symm e2, Ne.symm e3, Ne.symm e4, Ne.symm e5, Ne.symm e6]
  generalize hK : Heap.set _ pd _ = K0
  have T0 : Three b t pb pa pd (0, false) K0 := by
    rw [← hK]
    exact ⟨by simp [Heap.set, e1, e2, e4], by simp [Heap.set, e3, e6], by simp [Heap.set]⟩
  have R0 : K0 pr = some (.cells (cmC cm0 .nil) 27) := by rw [← hK]; simp [Heap.set, e3, e5, Ne.symm e1]; rfl
  have L0 : HLe H K0 := by
    rw [← hK]
    refine HLe.set_new ?_ hd0
    repeat (first | exact HLe.set_fresh hpb | refine HLe.set_new ?_ (by assumption))
  have S0 : (0, false).1 ≤ b.length := Nat.zero_le _
  clear hK hpa hpd hpr
  refine ACall.eq (c_cmdNum T0 S0 hb 10 (by omega)) ?_
  obtain ⟨r1, hr1⟩ : ∃ r, numC b 10 (0, false) = r := ⟨_, rfl⟩
  have T1 := T0.upd (s' := r1.2)
  have S1 : r1.2.1 ≤ b.length := by rw [← hr1]; exact numC_le b _ _ S0
  have R1 : (upd3 pa pd r1.2 K0) pr = some (.cells (cmC cm0 .nil) 27) := by simp [Heap.set, e3, e5, R0]
  have L1 : HLe H (upd3 pa pd r1.2 K0) := HLe.set_new (HLe.set_new L0 hd0) ha0
  rw [hr1]
  generalize upd3 pa pd r1.2 K0 = K1 at *
  simp -implicitDefEqProofs
  refine ACall.eq (c_cmdNum T1 S1 hb 18446744073709551615 (by omega)) ?_
  obtain ⟨r2, hr2⟩ : ∃ r, numC b 18446744073709551615 r1.2 = r := ⟨_, rfl⟩
  have T2 := T1.upd (s' := r2.2)
  have S2 : r2.2.1 ≤ b.length := by rw [← hr2]; exact numC_le b _ _ S1
  have R2 : (upd3 pa pd r2.2 K1) pr = some (.cells (cmC cm0 .nil) 27) := by simp [Heap.set, e3, e5, R1]
  have L2 : HLe H (upd3 pa pd r2.2 K1) := HLe.set_new (HLe.set_new L1 hd0) ha0
  rw [hr2]
  generalize upd3 pa pd r2.2 K1 = K2 at *
  simp -implicitDefEqProofs
  refine ACall.eq (c_cmdNum T2 S2 hb 18446744073709551615 (by omega)) ?_
  obtain ⟨r3, hr3⟩ : ∃ r, numC b 18446744073709551615 r2.2 = r := ⟨_, rfl⟩
  have T3 := T2.upd (s' := r3.2)
  have S3 : r3.2.1 ≤ b.length := by rw [← hr3]; exact numC_le b _ _ S2
  have R3 : (upd3 pa pd r3.2 K2) pr = some (.cells (cmC cm0 .nil) 27) := by simp [Heap.set, e3, e5, R2]
  have L3 : HLe H (upd3 pa pd r3.2 K2) := HLe.set_new (HLe.set_new L2 hd0) ha0
  rw [hr3]
  generalize upd3 pa pd r3.2 K2 = K3 at *
  simp -implicitDefEqProofs
  refine ACall.eq (c_cmdNum T3 S3 hb 18446744073709551615 (by omega)) ?_
  obtain ⟨r4, hr4⟩ : ∃ r, numC b 18446744073709551615 r3.2 = r := ⟨_, rfl⟩
  have T4 := T3.upd (s' := r4.2)
  have S4 : r4.2.1 ≤ b.length := by rw [← hr4]; exact numC_le b _ _ S3
  have R4 : (upd3 pa pd r4.2 K3) pr = some (.cells (cmC cm0 .nil) 27) := by simp [Heap.set, e3, e5, R3]
  have L4 : HLe H (upd3 pa pd r4.2 K3) := HLe.set_new (HLe.set_new L3 hd0) ha0
  rw [hr4]
  generalize upd3 pa pd r4.2 K3 = K4 at *
  simp -implicitDefEqProofs
  refine ACall.eq (c_cmdNum T4 S4 hb 13569465600 (by omega)) ?_
  obtain ⟨r5, hr5⟩ : ∃ r, numC b 13569465600 r4.2 = r := ⟨_, rfl⟩
  have T5 := T4.upd (s' := r5.2)
  have S5 : r5.2.1 ≤ b.length := by rw [← hr5]; exact numC_le b _ _ S4
  have R5 : (upd3 pa pd r5.2 K4) pr = some (.cells (cmC cm0 .nil) 27) := by simp [Heap.set, e3, e5, R4]
  have L5 : HLe H (upd3 pa pd r5.2 K4) := HLe.set_new (HLe.set_new L4 hd0) ha0
  rw [hr5]
  generalize upd3 pa pd r5.2 K4 = K5 at *
  simp -implicitDefEqProofs
  refine ACall.eq (c_cmdNum T5 S5 hb 18446744073709551615 (by omega)) ?_
  obtain ⟨r6, hr6⟩ : ∃ r, numC b 18446744073709551615 r5.2 = r := ⟨_, rfl⟩
  have T6 := T5.upd (s' := r6.2)
  have S6 : r6.2.1 ≤ b.length := by rw [← hr6]; exact numC_le b _ _ S5
  have R6 : (upd3 pa pd r6.2 K5) pr = some (.cells (cmC cm0 .nil) 27) := by simp [Heap.set, e3, e5, R5]
  have L6 : HLe H (upd3 pa pd r6.2 K5) := HLe.set_new (HLe.set_new L5 hd0) ha0
  rw [hr6]
  generalize upd3 pa pd r6.2 K5 = K6 at *
  simp -implicitDefEqProofs
  refine ACall.eq (c_cmdNum T6 S6 hb 18446744073709551615 (by omega)) ?_
  obtain ⟨r7, hr7⟩ : ∃ r, numC b 18446744073709551615 r6.2 = r := ⟨_, rfl⟩
  have T7 := T6.upd (s' := r7.2)
  have S7 : r7.2.1 ≤ b.length := by rw [← hr7]; exact numC_le b _ _ S6
  have R7 : (upd3 pa pd r7.2 K6) pr = some (.cells (cmC cm0 .nil) 27) := by simp [Heap.set, e3, e5, R6]
  have L7 : HLe H (upd3 pa pd r7.2 K6) := HLe.set_new (HLe.set_new L6 hd0) ha0
  rw [hr7]
  generalize upd3 pa pd r7.2 K6 = K7 at *
  simp -implicitDefEqProofs
  refine AAlloc.intro fun pc hpc => ?_
  have f1 : pb ≠ pc := by rintro rfl; rw [T7.b] at hpc; cases hpc
  have f2 : pa ≠ pc := by rintro rfl; rw [T7.a] at hpc; cases hpc
  have f3 : pd ≠ pc := by rintro rfl; rw [T7.d] at hpc; cases hpc
  have f4 : pr ≠ pc := by rintro rfl; rw [R7] at hpc; cases hpc
  have hc0 : H pc = none := L7.none hpc
  have hparse : res = if r7.2.2 = true then none else if bearsC (r1.1 : Int) = true then
      match parseJ b r7.2.1 with
      | none => none
      | some (j, e) => let c : Cm := ⟨(r1.1 : Int), r2.1, r3.1, r4.1, (r5.1 : Int), r6.1, r7.1, j⟩; if e ≠ b.length ∨ mayM c ≠ 0 then none else some c
    else let c : Cm := ⟨(r1.1 : Int), r2.1, r3.1, r4.1, (r5.1 : Int), r6.1, r7.1, jb0⟩; if r7.2.1 ≠ b.length ∨ mayM c ≠ 0 then none else some c := by
    rw [← hres]
    simp only [parseC, headP, any64, hr1, hr2, hr3, hr4, hr5, hr6, hr7]
    rfl
  clear hres
  have d7 := T7.d
  obtain ⟨bad, hbad⟩ : ∃ z, r7.2.2 = z := ⟨_, rfl⟩
  rw [hbad] at d7 hparse
  cases bad with
  | true =>
    rw [if_pos rfl] at hparse
    subst hparse
    simp -implicitDefEqProofs [d7, f3, f4, R7, cmdAV]
    exact ⟨rfl, HWk.new hr0 (HWk.new hc0 L7.wk)⟩
  | false =>
    rw [if_neg (by simp)] at hparse
    have o7 := numC_ok (b := b) (m := 18446744073709551615) (s := r6.2) (by rw [hr7]; exact hbad)
    have o6 := numC_ok (b := b) (m := 18446744073709551615) (s := r5.2) (by rw [hr6]; exact o7.1)
    have o5 := numC_ok (b := b) (m := 13569465600) (s := r4.2) (by rw [hr5]; exact o6.1)
    have o4 := numC_ok (b := b) (m := 18446744073709551615) (s := r3.2) (by rw [hr4]; exact o5.1)
    have o3 := numC_ok (b := b) (m := 18446744073709551615) (s := r2.2) (by rw [hr3]; exact o4.1)
    have o2 := numC_ok (b := b) (m := 18446744073709551615) (s := r1.2) (by rw [hr2]; exact o3.1)
    have o1 := numC_ok (b := b) (m := 10) (s := (0, false)) (by rw [hr1]; exact o2.1)
    have v1 : r1.1 ≤ 10 := by have := o1.2; rw [hr1] at this; exact this
    have v5 : r5.1 ≤ 13569465600 := by have := o5.2; rw [hr5] at this; exact this
    have w1 : IntKind.i64.wrap (r1.1 : Int) = (r1.1 : Int) := wrap_i64 (by omega) (by omega)
    have w5 : IntKind.i64.wrap (r5.1 : Int) = (r5.1 : Int) := wrap_i64 (by omega) (by omega)
    simp -implicitDefEqProofs [d7, f3, f4, R7, w1, w5]
    refine ACall.eq (c_bears (r1.1 : Int)) ?_
    have a7 := T7.a
    have b7 := T7.b
    generalize hK8 : Heap.set K7 pc _ = K8
    have a8 : K8 pa = some (.cells [.sc (.int .i64 (r7.2.1 : Int))] 3) := by rw [← hK8]; simp [Heap.set, f2, a7]
    have b8 : K8 pb = some (.cells [.sl (u8s b) t] 28) := by rw [← hK8]; simp [Heap.set, f1, b7]
    have R8 : K8 pr = some (.cells (cmC cm0 .nil) 27) := by rw [← hK8]; simp [Heap.set, f4, R7]
    have c8 : K8 pc = some (.cells (cmC ⟨(r1.1 : Int), r2.1, r3.1, r4.1, (r5.1 : Int), r6.1, r7.1, jb0⟩ .nil) 27) := by rw [← hK8]; simp [Heap.set]; rfl
    have L8 : HLe H K8 := by rw [← hK8]; exact HLe.set_new L7 hc0
    clear hK8
    cases hbr : bearsC (r1.1 : Int) with
    | false =>
      rw [hbr, if_neg (by simp)] at hparse
      simp only at hparse
      by_cases hend : r7.2.1 = b.length
      · have hend' : (r7.2.1 : Int) = (b.length : Int) := by omega
        have hmay := c_cmdMay (hG.le L8) ⟨(r1.1 : Int), r2.1, r3.1, r4.1, (r5.1 : Int), r6.1, r7.1, jb0⟩ .nil (by simp [jb0])
        obtain ⟨em, hem⟩ : ∃ em, mayM ⟨(r1.1 : Int), r2.1, r3.1, r4.1, (r5.1 : Int), r6.1, r7.1, jb0⟩ = em := ⟨_, rfl⟩
        rw [hem] at hmay hparse
        simp -implicitDefEqProofs [a8, b8, c8, R8, f4, hend, hend']
        refine ACall.eq hmay ?_
        by_cases hm0 : em = 0
        · rw [if_neg (by rintro (h | h); exact h hend; exact h hm0)] at hparse
          subst hparse
          simp -implicitDefEqProofs [hm0, c8, R8, cmdAV]
          exact (HLe.set_new L8 hr0).wk
        · rw [if_pos (.inr hm0)] at hparse
          subst hparse
          simp -implicitDefEqProofs [hm0, R8, cmdAV]
          exact ⟨rfl, (HLe.set_new L8 hr0).wk⟩
      · have hend' : ¬ (r7.2.1 : Int) = (b.length : Int) := by omega
        rw [if_pos (.inl hend)] at hparse
        subst hparse
        simp -implicitDefEqProofs [a8, b8, c8, R8, f4, hend, hend', cmdAV]
        exact ⟨rfl, (HLe.set_new L8 hr0).wk⟩
    | true =>
      rw [hbr, if_pos rfl] at hparse
      have hcall := c_jobParse (hG.le L8) b t r7.2.1 S7 hb
      rcases hj : parseJ b r7.2.1 with _ | ⟨j, e⟩
      · rw [hj] at hcall hparse
        simp only at hparse
        subst hparse
        simp -implicitDefEqProofs [a8, b8]
        refine ACall.eq hcall ?_
        simp -implicitDefEqProofs [parseAV]
        refine AAlloc.intro fun p8 hp8 => ?_
        have g4 : pr ≠ p8 := by rintro rfl; rw [R8] at hp8; cases hp8
        simp -implicitDefEqProofs [g4, R8, cmdAV]
        exact ⟨rfl, (HLe.set_new (HLe.set_new L8 (L8.none hp8)) hr0).wk⟩
      · rw [hj] at hcall hparse
        simp only at hparse
        have hjl := (parse_inv hj).2.2.2
        simp -implicitDefEqProofs [a8, b8]
        refine ACall.eq hcall ?_
        simp -implicitDefEqProofs [parseAV]
        refine AAlloc.intro fun p8 hp8 => ?_
        have g4 : pr ≠ p8 := by rintro rfl; rw [R8] at hp8; cases hp8
        have g3 : pc ≠ p8 := by rintro rfl; rw [c8] at hp8; cases hp8
        have g2 : pa ≠ p8 := by rintro rfl; rw [a8] at hp8; cases hp8
        have g1 : pb ≠ p8 := by rintro rfl; rw [b8] at hp8; cases hp8
        have L9 : ∀ o1 o2 o3, HLe H (((K8.set p8 o1).set pc o2).set pa o3) := fun _ _ _ => HLe.set_new (HLe.set_new (HLe.set_new L8 (L8.none hp8)) hc0) ha0
        by_cases hend : e = b.length
        · have hend' : (e : Int) = (b.length : Int) := by omega
          simp -implicitDefEqProofs [g1, g2, g3, g4, c8, a8, b8, R8, f1, f2, f4, Ne.symm f2, e2, e3, hend]
          generalize hK9 : Heap.set (Heap.set _ pc _) pa _ = K9
          have R9 : K9 pr = some (.cells (cmC cm0 .nil) 27) := by rw [← hK9]; simp [Heap.set, e3, f4, g4, R8]
          have c9 : K9 pc = some (.cells (cmC ⟨(r1.1 : Int), r2.1, r3.1, r4.1, (r5.1 : Int), r6.1, r7.1, j⟩ .no) 27) := by rw [← hK9]; simp [Heap.set, Ne.symm f2]
          have L9' : HLe H K9 := by rw [← hK9]; exact L9 _ _ _
          clear hK9
          have hmay := c_cmdMay (hG.le L9') ⟨(r1.1 : Int), r2.1, r3.1, r4.1, (r5.1 : Int), r6.1, r7.1, j⟩ .no (by simp only; omega)
          obtain ⟨em, hem⟩ : ∃ em, mayM ⟨(r1.1 : Int), r2.1, r3.1, r4.1, (r5.1 : Int), r6.1, r7.1, j⟩ = em := ⟨_, rfl⟩
          rw [hem] at hmay hparse
          refine ACall.eq hmay ?_
          by_cases hm0 : em = 0
          · rw [if_neg (by rintro (h | h); exact h hend; exact h hm0)] at hparse
            subst hparse
            simp -implicitDefEqProofs [hm0, c9, R9, cmdAV]
            exact (HLe.set_new L9' hr0).wk
          · rw [if_pos (.inr hm0)] at hparse
            subst hparse
            simp -implicitDefEqProofs [hm0, R9, cmdAV]
            exact ⟨rfl, (HLe.set_new L9' hr0).wk⟩
        · have hend' : ¬ (e : Int) = (b.length : Int) := by omega
          rw [if_pos (.inl hend)] at hparse
          subst hparse
          simp -implicitDefEqProofs [g1, g2, g3, g4, c8, a8, b8, R8, f1, f2, f4, Ne.symm f2, e2, e3, hend, hend', cmdAV]
          exact ⟨rfl, (HLe.set_new (L9 _ _ _) hr0).wk⟩
end Go.Proofs.YtghlkjkdejebnaaGreatDoor
namespace Go.Proofs.YtghlkjkdejebnaaGreatDoor
open Rg Go
variable {H : Heap}
structure QInv (H : Heap) (b : List UInt8) (t : Rg.Tok) (p pc pr : Nat) (s : Nat × Bool) (c : Cm) (K : Heap) : Prop where
  tk : K p = some (tkO b t s)
  cc : K pc = some (.cells (cmC c .nil) 27)
  rr : K pr = some (.cells (cmC cm0 .nil) 27)
  L : HLe H K
  p0 : H p = none
  c0 : H pc = none
  r0 : H pr = none
  n1 : p ≠ pc
  n2 : p ≠ pr
  n3 : pc ≠ pr
  le : s.1 ≤ b.length
section
variable {b : List UInt8} {t : Rg.Tok} {p pc pr : Nat} {s : Nat × Bool} {c : Cm} {K : Heap}
theorem QInv.upd (h : QInv H b t p pc pr s c K) {s' : Nat × Bool} (hs : s'.1 ≤ b.length) : QInv H b t p pc pr s' c (K.set p (tkO b t s')) :=
  ⟨by simp [Heap.set], by simp [Heap.set, Ne.symm h.n1, h.cc], by simp [Heap.set, Ne.symm h.n2, h.rr], HLe.set_new h.L h.p0, h.p0, h.c0, h.r0, h.n1, h.n2, h.n3, hs⟩
theorem QInv.put (h : QInv H b t p pc pr s c K) {c' : Cm} : QInv H b t p pc pr s c' (K.set pc (.cells (cmC c' .nil) 27)) :=
  ⟨by simp [Heap.set, h.n1, h.tk], by simp [Heap.set], by simp [Heap.set, Ne.symm h.n3, h.rr], HLe.set_new h.L h.c0, h.p0, h.c0, h.r0, h.n1, h.n2, h.n3, h.le⟩
end
theorem putC_len {c : Cm} (ho : CmOk c) (hm : mayM c = 0) (hs : c.job.ex.length ≤ 4096) : (putC c).length ≤ 4600 := by
  have nL := numsB_len (headC c)
  have : (headC c).length = 7 := rfl
  unfold putC
  rw [List.length_append]
  split
  · rename_i hb
    have := putJ_len ho.job ((MM.of hm).job hb) hs
    omega
  · simp only [List.length_nil]; omega
end Go.Proofs.YtghlkjkdejebnaaGreatDoor
namespace Go.Proofs.YtghlkjkdejebnaaGreatDoor
open Rg Go
variable {H : Heap}
set_option maxHeartbeats 4000000 in
theorem c_cmdSame (a b : Cm) (t u : Rg.Tok) (hl : a.job.deps.length ≤ 1000000) : AOk Tryz.prog 17 [cmAV a t, cmAV b u] H (.sc (.bool (sameC a b))) H := by
  have hj := fun K => c_jobSame (H := K) a.job b.job t u hl
  have hbe := fun K => c_bears (H := K) a.kind
  obtain ⟨res, hres⟩ : ∃ res, sameC a b = res := ⟨_, rfl⟩
  rw [hres]
  unfold sameC at hres
  refine ACalls.into Tryz.func17 rfl Tryz.ntmps17 Tryz.results17 (by simp) ?_
  simp -implicitDefEqProofs
  refine AAlloc.intro fun p hp => ?_
  simp -implicitDefEqProofs
  refine AAlloc.intro fun q hq => ?_
  have npq : p ≠ q := by rintro rfl; simp [Heap.set] at hq
  simp -implicitDefEqProofs [npq]
  generalize hK : Heap.set _ q _ = K
  have kp : K p = some (.cells (cmC a t) 27) := by rw [← hK]; simp [Heap.set, npq]
  have kq : K q = some (.cells (cmC b u) 27) := by rw [← hK]; simp [Heap.set]
  have kW : HWk H K := by rw [← hK]; exact (HLe.set_new (HLe.set_fresh hp) ((HLe.set_fresh hp).none hq)).wk
  clear hK
  obtain ⟨c0, hc0⟩ : ∃ c, decide (a.kind = b.kind) = c := ⟨_, rfl⟩
  obtain ⟨c1, hc1⟩ : ∃ c, decide (a.cl = b.cl) = c := ⟨_, rfl⟩
  have hi1 : decide ((a.cl : Int) = (b.cl : Int)) = c1 := by rw [← hc1]; congr 1; exact propext ⟨fun h => by omega, fun h => by omega⟩
  obtain ⟨c2, hc2⟩ : ∃ c, decide (a.sq = b.sq) = c := ⟨_, rfl⟩
  have hi2 : decide ((a.sq : Int) = (b.sq : Int)) = c2 := by rw [← hc2]; congr 1; exact propext ⟨fun h => by omega, fun h => by omega⟩
  obtain ⟨c3, hc3⟩ : ∃ c, decide (a.id = b.id) = c := ⟨_, rfl⟩
  have hi3 : decide ((a.id : Int) = (b.id : Int)) = c3 := by rw [← hc3]; congr 1; exact propext ⟨fun h => by omega, fun h => by omega⟩
  obtain ⟨c4, hc4⟩ : ∃ c, decide (a.at_ = b.at_) = c := ⟨_, rfl⟩
  obtain ⟨c5, hc5⟩ : ∃ c, decide (a.tk = b.tk) = c := ⟨_, rfl⟩
  have hi5 : decide ((a.tk : Int) = (b.tk : Int)) = c5 := by rw [← hc5]; congr 1; exact propext ⟨fun h => by omega, fun h => by omega⟩
  obtain ⟨c6, hc6⟩ : ∃ c, decide (a.wk = b.wk) = c := ⟨_, rfl⟩
  have hi6 : decide ((a.wk : Int) = (b.wk : Int)) = c6 := by rw [← hc6]; congr 1; exact propext ⟨fun h => by omega, fun h => by omega⟩
  rw [hc0, hc1, hc2, hc3, hc4, hc5, hc6] at hres
  obtain ⟨sj, hsj⟩ : ∃ c, sameJ a.job b.job = c := ⟨_, rfl⟩
  rw [hsj] at hres hj
  obtain ⟨br, hbr⟩ : ∃ c, bearsC a.kind = c := ⟨_, rfl⟩
  rw [hbr] at hres
  simp only [hbr] at hbe
  subst hres
  simp -implicitDefEqProofs [kp, kq, hc0]
  cases c0 with
  | false =>
    simp -implicitDefEqProofs [kp, kq, kW]
  | true =>
    simp -implicitDefEqProofs [kp, kq, hc1, hi1]
    cases c1 with
    | false =>
      simp -implicitDefEqProofs [kp, kq, kW]
    | true =>
      simp -implicitDefEqProofs [kp, kq, hc2, hi2]
      cases c2 with
      | false =>
        simp -implicitDefEqProofs [kp, kq, kW]
      | true =>
        simp -implicitDefEqProofs [kp, kq, hc3, hi3]
        cases c3 with
        | false =>
          simp -implicitDefEqProofs [kp, kq, kW]
        | true =>
          simp -implicitDefEqProofs [kp, kq, hc4]
          cases c4 with
          | false =>
            simp -implicitDefEqProofs [kp, kq, kW]
          | true =>
            simp -implicitDefEqProofs [kp, kq, hc5, hi5]
            cases c5 with
            | false =>
              simp -implicitDefEqProofs [kp, kq, kW]
            | true =>
              simp -implicitDefEqProofs [kp, kq, hc6, hi6]
              cases c6 with
              | false =>
                simp -implicitDefEqProofs [kp, kq, kW]
              | true =>
                simp -implicitDefEqProofs [kp, kq]
                refine ACall.eq (hbe _) ?_
                cases br with
                | false =>
                  simp -implicitDefEqProofs [kp, kq, kW]
                | true =>
                  simp -implicitDefEqProofs [kp, kq]
                  refine ACall.eq (hj _) ?_
                  simp -implicitDefEqProofs [kp, kq, kW]
def cm7 : Cm := ⟨7, 0, 0, 0, 300, 0, 0, jb0⟩
theorem cm7_may : mayM cm7 = 0 := by decide
theorem cm7_len : (putC cm7).length = 8 := by decide +kernel
theorem cm11_may : mayM { cm0 with kind := 11 } = 2 := by decide
theorem cm2_may : mayM { cm0 with kind := 2 } = 140 := by decide
abbrev cmZ (k a : Int) : List AV := [.sc (.int .i64 k), .sc (.int .u64 0), .sc (.int .u64 0), .sc (.int .u64 0), .sc (.int .i64 a), .sc (.int .u64 0), .sc (.int .u64 0), .sc (.int .u64 0), str [], str [], .sc (.int .i64 0), .sc (.int .i64 0), .sc (.int .i64 0), .sc (.int .i64 0), .sc (.int .i64 0), .sl [] .nil, .sc (.bool false), .sc (.int .u64 0), .sc (.int .i64 0)]
theorem cm7_put (hG : Glob H) : AOk Tryz.prog 10 [.agg (cmZ 7 300)] H (.tup [.sl (u8s (putC cm7)) .no, .sc (.int .i64 0)]) H :=
  c_cmdPutOk hG cm7 .nil ⟨by decide, by decide, by decide, by decide, by decide, jb0_ok⟩ cm7_may (by decide)
theorem cm11_m (hG : Glob H) : AOk Tryz.prog 14 [.agg (cmZ 11 0)] H (.sc (.int .i64 2)) H := by
  have := c_cmdMay hG { cm0 with kind := 11 } .nil (by decide)
  rw [cm11_may] at this
  exact this
theorem cm2_m (hG : Glob H) : AOk Tryz.prog 14 [.agg (cmZ 2 0)] H (.sc (.int .i64 140)) H := by
  have := c_cmdMay hG { cm0 with kind := 2 } .nil (by decide)
  rw [cm2_may] at this
  exact this
theorem c_known19 (hG : Glob H) : AOk Tryz.prog 8 [] H (.sc (.bool true)) H := by
  refine ACalls.into Tryz.func8 rfl Tryz.ntmps8 Tryz.results8 (by simp) ?_
  simp -implicitDefEqProofs
  refine ACall.eq (cm7_put hG) ?_
  have hl := cm7_len
  generalize putC cm7 = q at hl
  simp -implicitDefEqProofs [hl]
  refine ACall.eq (cm11_m hG) ?_
  simp -implicitDefEqProofs
  refine ACall.eq (cm2_m hG) ?_
  simp -implicitDefEqProofs
def greatC (c : Cm) : Bool := decide (100 < c.job.name.length) || decide (600 < c.job.ex.length) || decide (20 < c.job.deps.length)
set_option maxHeartbeats 1000000 in
theorem c_great19 (c : Cm) (t : Rg.Tok) : AOk Tryz.prog 9 [cmAV c t] H (.sc (.bool (greatC c))) H := by
  unfold greatC
  refine ACalls.into Tryz.func9 rfl Tryz.ntmps9 Tryz.results9 (by simp) ?_
  simp -implicitDefEqProofs
  refine AAlloc.intro fun b1 h1 => ?_
  have kW : ∀ o, HWk H (H.set b1 o) := fun o => HWk.new h1 (HWk.refl _)
  by_cases c1 : 100 < c.job.name.length
  · have c1' : (100 : Int) < (c.job.name.length : Int) := by omega
    simp -implicitDefEqProofs [c1, c1']
    exact kW _
  · have c1' : ¬ (100 : Int) < (c.job.name.length : Int) := by omega
    by_cases c2 : 600 < c.job.ex.length
    · have c2' : (600 : Int) < (c.job.ex.length : Int) := by omega
      simp -implicitDefEqProofs [c1, c1', c2, c2']
      exact kW _
    · have c2' : ¬ (600 : Int) < (c.job.ex.length : Int) := by omega
      by_cases c3 : 20 < c.job.deps.length
      · have c3' : (20 : Int) < (c.job.deps.length : Int) := by omega
        simp -implicitDefEqProofs [c1, c1', c2, c2', c3, c3']
        exact kW _
      · have c3' : ¬ (20 : Int) < (c.job.deps.length : Int) := by omega
        simp -implicitDefEqProofs [c1, c1', c2, c2', c3, c3']
        exact kW _
end Go.Proofs.YtghlkjkdejebnaaGreatDoor
namespace Go.Proofs.YtghlkjkdejebnaaGreatDoor
open Rg Go
variable {H : Heap}
theorem AOk.wk {P : Program} {f : FuncId} {args : List AV} {v v' : AV} {K : Heap} (h : AOk P f args H v K) (hw : wk v v') : AOk P f args H v' K :=
  ACalls.weaken (h.mono fun r K' ⟨h1, h2⟩ => ⟨v', K, by rw [h1]; exact hw, by rw [h2]; exact HWk.refl _, rfl, rfl⟩)
def cmdP (o : Option Cm) : Cm := o.getD cm0
def cmdE (o : Option Cm) : Nat := match o with | some _ => 0 | none => 4
theorem cmdAV_eq (o : Option Cm) : cmdAV o = .tup [cmAV (cmdP o) .no, .sc (.int .i64 (cmdE o : Nat))] := by cases o <;> rfl
end Go.Proofs.YtghlkjkdejebnaaGreatDoor
namespace Go.Proofs.YtghlkjkdejebnaaGreatDoor
open Rg Go
variable {H : Heap}
theorem normC_idem (c : Cm) : normC (normC c) = normC c := by
  by_cases h : bearsC c.kind = true
  · have e : normC c = c := if_pos h
    rw [e, e]
  · have e : normC c = { c with job := jb0 } := if_neg h
    rw [e]
    exact if_neg h
theorem parseC_back {c : Cm} (Q : List UInt8) (hm : mayM c = 0) (ho : CmOk c) (hs : c.job.ex.length ≤ 4096) : cmdE (parseC (putC c ++ Q)) = (if Q = [] then 0 else 4) ∧ (Q = [] → cmdP (parseC (putC c ++ Q)) = normC c) := by
  rw [parse_putC Q hm ho hs]
  split
  · exact ⟨rfl, fun _ => rfl⟩
  · rename_i h; exact ⟨rfl, fun h' => absurd h' h⟩
set_option maxHeartbeats 4000000 in
theorem cmdBack_walk (hG : Glob H) (c d : Cm) (hc : CmOk c) (hd : CmOk d) (cut : Int) (Q : List UInt8) : AOk Tryz.prog 4 [cmAV c .no, cmAV d .no, .sc (.int .i64 cut), .sl (u8s Q) .no] H (.sc (.bool true)) H := by
  refine ACalls.into Tryz.func4 rfl Tryz.ntmps4 Tryz.results4 (by simp) ?_
  simp -implicitDefEqProofs
  refine AAlloc.intro fun p1 h1 => ?_
  simp -implicitDefEqProofs
  refine AAlloc.intro fun p2 h2 => ?_
  have n12 : p1 ≠ p2 := by rintro rfl; simp [Heap.set] at h2
  simp -implicitDefEqProofs
  generalize hK : Heap.set _ p2 _ = K
  have k1 : K p1 = some (.cells (cmC c .no) 27) := by rw [← hK]; simp [Heap.set, n12]
  have k2 : K p2 = some (.cells (cmC d .no) 27) := by rw [← hK]; simp [Heap.set]
  have kL : HLe H K := by rw [← hK]; exact HLe.set_new (HLe.set_fresh h1) ((HLe.set_fresh h1).none h2)
  have kG : Glob K := hG.le kL
  clear hK
  refine ACall.eq (c_known19 kG) ?_
  simp -implicitDefEqProofs [k1]
  refine ACall.eq (c_great19 c .no) ?_
  cases g1 : greatC c with
  | true =>
    simp -implicitDefEqProofs
    exact kL.wk
  | false =>
    simp -implicitDefEqProofs [k2]
    refine ACall.eq (c_great19 d .no) ?_
    cases g2 : greatC d with
    | true =>
      simp -implicitDefEqProofs
      exact kL.wk
    | false =>
      by_cases hb : 50 < Q.length
      · have hb' : (50 : Int) < (Q.length : Int) := by omega
        simp -implicitDefEqProofs [hb, hb']
        exact kL.wk
      · have hb' : ¬ (50 : Int) < (Q.length : Int) := by omega
        simp only [greatC, Bool.or_eq_false_iff, decide_eq_false_iff_not, Nat.not_lt] at g1 g2
        have hm1 := c_cmdMay kG c .no (by omega)
        have hm2 := c_cmdMay kG d .no (by omega)
        simp -implicitDefEqProofs [hb, hb', k1]
        refine ACall.eq hm1 ?_
        by_cases hmc : mayM c = 0
        · simp -implicitDefEqProofs [hmc, k2]
          refine ACall.eq hm2 ?_
          by_cases hmd : mayM d = 0
          · have hpc := fun K (hK : Glob K) => c_cmdPutOk hK c .no hc hmc (by omega)
            have hpd := fun K (hK : Glob K) => c_cmdPutOk hK d .no hd hmd (by omega)
            have hlc := putC_len hc hmc (by omega)
            have hld := putC_len hd hmd (by omega)
            have hps := put_sameC hmc hmd hc hd (by omega) (by omega)
            have hpq := fun (Q : List UInt8) => parseC_back Q hmc hc (by omega)
            have hcut := fun k => parse_cutC (k := k) hmc hc (by omega)
            have hs1 := fun K => c_cmdSame (H := K) (normC c) c .no .no (by
              unfold normC
              split
              · omega
              · simp [jb0])
            rw [sameC_iff.2 (normC_idem c)] at hs1
            have hs2 := fun K => c_cmdSame (H := K) c d .no .no (by omega)
            have hbq : ∀ B : List UInt8, B.length ≤ 5000 → ∀ t K, Glob K → AOk Tryz.prog 12 [.sl (u8s B) t] K (.tup [cmAV (cmdP (parseC B)) .no, .sc (.int .i64 (cmdE (parseC B) : Nat))]) K := fun B hB t K hK => by
              rw [← cmdAV_eq]; exact c_cmdParse hK B t (by omega)
            obtain ⟨A, hA⟩ : ∃ A, putC c = A := ⟨_, rfl⟩
            obtain ⟨D, hD⟩ : ∃ D, putC d = D := ⟨_, rfl⟩
            simp only [hA] at hpc hlc hpq hcut
            simp only [hD] at hpd hld
            rw [hA, hD] at hps
            obtain ⟨sm, hsm⟩ : ∃ s, sameC c d = s := ⟨_, rfl⟩
            simp only [hsm] at hs2
            rw [hsm] at hps
            have hAD : (A == D) = sm := by
              cases sm
              · simpa using hps
              · simpa using hps
            have m1 : A.length ≤ maxLen := by simp only [maxLen]; omega
            have m2 : D.length ≤ maxLen := by simp only [maxLen]; omega
            have hA1 := hbq A (by omega)
            obtain ⟨a1, a2⟩ := hpq []
            simp only [List.append_nil, if_true] at a1 a2
            simp only [a1, a2 trivial] at hA1
            simp -implicitDefEqProofs [hmd, k1]
            refine ACall.eq (hpc _ kG) ?_
            simp -implicitDefEqProofs [k2]
            refine ACall.eq (hpd _ kG) ?_
            simp -implicitDefEqProofs
            refine ACall.eq (hA1 _ _ kG) ?_
            simp -implicitDefEqProofs
            refine AAlloc.intro fun p3 h3 => ?_
            simp -implicitDefEqProofs
            generalize hK3 : Heap.set _ p3 _ = K3
            have kL3 : HLe K K3 := by rw [← hK3]; exact HLe.set_fresh h3
            have j1 : K3 p1 = some (.cells (cmC c .no) 27) := kL3 _ _ k1
            have j2 : K3 p2 = some (.cells (cmC d .no) 27) := kL3 _ _ k2
            have j3 : K3 p3 = some (.cells (cmC (normC c) .no) 27) := by rw [← hK3]; simp [Heap.set]
            have jG : Glob K3 := kG.le kL3
            have jL : HLe H K3 := kL.trans kL3
            clear hK3
            refine go_draw 27 f_mixed (by decide +kernel) ?_
            simp -implicitDefEqProofs [j1, j2, j3]
            refine AQS.eq (hs1 _) ?_
            simp -implicitDefEqProofs [aconv, abytes_u8s A, abytes_u8s D, m1, m2, j1, j2, j3]
            refine AQS.eq (hs2 _) ?_
            have hx : (sm != sm) = false := by cases sm <;> rfl
            simp -implicitDefEqProofs [hAD, hx]
            refine AApp.grE el_28 (xs := u8s []) (H0 := K3) .full (by simp [szs]) (szs_u8s _) (by simp only [List.length_map, List.length_nil]; omega) (by simp only [List.length_map, List.length_nil, maxLen]; omega) fun t4 K4 hg4 => ?_
            rw [← u8s_app, List.nil_append] at hg4 ⊢
            simp -implicitDefEqProofs
            refine AApp.grE el_28 hg4 (szs_u8s _) (szs_u8s _) (by simp only [List.length_map]; omega) (by simp only [List.length_map, maxLen]; omega) fun t5 K5 hg5 => ?_
            rw [← u8s_app] at hg5 ⊢
            have g5 : Glob K5 := jG.le hg5.le
            have L5 : HLe H K5 := jL.trans hg5.le
            have hA5 := hbq (A ++ Q) (by rw [List.length_append]; omega) t5 K5 g5
            rw [(hpq Q).1] at hA5
            generalize cmdP (parseC (A ++ Q)) = pz at hA5
            have hQ : (if Q = [] then (0 : Nat) else 4) = 0 ↔ Q.length = 0 := by
              rw [List.length_eq_zero_iff]
              split <;> simp_all
            obtain ⟨ez, hez⟩ : ∃ e, (if Q = [] then (0 : Nat) else 4) = e := ⟨_, rfl⟩
            rw [hez] at hA5 hQ
            obtain ⟨zz, hzz⟩ : ∃ z, decide (Q = []) = z := ⟨_, rfl⟩
            have hdz : decide (ez = 0) = zz := by rw [← hzz]; exact decide_eq_decide.2 (by rw [hQ, List.length_eq_zero_iff])
            generalize A ++ Q = AQ at hA5 hg5 ⊢
            simp -implicitDefEqProofs
            refine ACall.eq hA5 ?_
            have hz2 : (zz != zz) = false := by cases zz <;> rfl
            simp -implicitDefEqProofs [hdz, hzz, hz2]
            by_cases hc0 : cut < 0
            · simp -implicitDefEqProofs [hc0]
              exact L5.wk
            · by_cases hc1 : (A.length : Int) ≤ cut
              · simp -implicitDefEqProofs [hc0, hc1]
                exact L5.wk
              · obtain ⟨k, rfl⟩ := Int.eq_ofNat_of_zero_le (a := cut) (by omega)
                have hk : k < A.length := by omega
                have hcc := hcut k hk
                have hA6 := hbq (A.take k) (by rw [List.length_take]; omega) .no K5 g5
                rw [hcc] at hA6
                have e6 : List.map (fun c : UInt8 => (.sc (.int .u8 (c.toNat : Int)) : AV)) (A.take k) = (u8s A).take k := List.map_take
                simp only [u8s] at hA6
                rw [e6] at hA6
                have hk1 : (k : Int) ≤ (A.length : Int) := by omega
                have hk2 : k ≤ A.length := by omega
                simp -implicitDefEqProofs [hc0, hc1, hk1, hk2, szs_u8s A]
                refine ACall.eq hA6 ?_
                simp -implicitDefEqProofs [cmdE]
                exact L5.wk
          · simp -implicitDefEqProofs [hmd]
            exact kL.wk
        · simp -implicitDefEqProofs [hmc]
          exact kL.wk
end Go.Proofs.YtghlkjkdejebnaaGreatDoor
namespace Go.Proofs.YtghlkjkdejebnaaGreatDoor
open Rg Go Go.RowKit
theorem eq_ctz : (Rows.laid_math_bits_deBruijn64tab : DataW Unit) = Lib.tabData .u8 (Lib.deBruijn64tab.map fun n : Nat => (n : Int)) := by kernel_rfl
theorem eq_first : Rows.laid_unicode_utf8_first = Lib.firstData := by kernel_rfl
theorem eq_accept : (Rows.laid_unicode_utf8_acceptRanges : DataW Unit) = Lib.acceptData := by kernel_rfl
theorem u8extra : U8Extra Tryz.prog Tryz.lays260_ren := ⟨by kernel_rfl, by kernel_rfl, by kernel_rfl, by kernel_rfl, by kernel_rfl, by kernel_rfl, by kernel_rfl⟩
def ctzUs : List Value := Lib.deBruijn64tab.map fun n : Nat => .int .u8 n
def firstUs : List Value := (List.range 256).map fun c => .int .u8 (Lib.firstT c)
def acceptUs : List Value := (List.range 16).flatMap fun i => [.int .u8 (Lib.accLo i), .int .u8 (Lib.accHi i)]
def gro (m : Int) : Heap := fun b =>
  if b = 7 then some (.ro ctzUs) else if b = 0 then some (.ro [.int .i64 m]) else
  if b = 1 then some (.ro firstUs) else if b = 2 then some (.ro acceptUs) else none
theorem acceptUs_at : ∀ i, i < 16 → acceptUs[2 * i]? = some (.int .u8 (Lib.accLo i)) ∧ acceptUs[2 * i + 1]? = some (.int .u8 (Lib.accHi i)) := fun i hi => by
  have h : i = 0 ∨ i = 1 ∨ i = 2 ∨ i = 3 ∨ i = 4 ∨ i = 5 ∨ i = 6 ∨ i = 7 ∨ i = 8 ∨ i = 9 ∨ i = 10 ∨ i = 11 ∨ i = 12 ∨ i = 13 ∨ i = 14 ∨ i = 15 := by omega
  rcases h with rfl | rfl | rfl | rfl | rfl | rfl | rfl | rfl | rfl | rfl | rfl | rfl | rfl | rfl | rfl | rfl <;> exact ⟨by kernel_rfl, by kernel_rfl⟩
theorem glob_gro (m : Int) : Glob (gro m) := by
  refine ⟨⟨m, rfl⟩, ⟨ctzUs, rfl, fun j hj => ?_⟩, ⟨firstUs, rfl, fun c hc => ?_⟩, ⟨acceptUs, rfl, acceptUs_at⟩⟩
  · simp only [ctzUs, List.getElem?_map, List.getD_eq_getElem?_getD, List.getElem?_eq_getElem hj]
    rfl
  · simp only [firstUs, List.getElem?_map, List.getElem?_range hc]
    rfl
theorem ctz_reads {W : World} {l : List (String × DataW Unit)} (hL : laidMet Tryz.prog l W) (h1 : ("math/bits.deBruijn64tab", Rows.laid_math_bits_deBruijn64tab) ∈ l) (j : Nat) (u : Value) (hu : ctzUs[j]? = some u) : W.cell? ⟨7, j, none⟩ = some u := by
  obtain ⟨g, t, cs, fuel, p, hg, hty, hvar, hd⟩ := Lib.laidMet.reads hL h1
  obtain rfl : 7 = g := Option.some.inj ((show Tryz.prog.globalNamed "math/bits.deBruijn64tab" = some 7 by kernel_rfl).symm.trans hg)
  obtain rfl : 281 = t := Option.some.inj ((show (Tryz.prog.globals[7]?).map (·.type) = some 281 by kernel_rfl).symm.trans hty)
  rw [eq_ctz] at hd
  have hcs := Lib.cells_of_tab (e := 5) (n := 64) (by kernel_rfl) (by kernel_rfl) (by kernel_rfl) (by kernel_rfl) hd
  rw [World.var?_cell hg hvar j, ← Array.getElem?_toList, hcs, ← hu]
  unfold ctzUs
  simp [Function.comp_def]
theorem gro_reads {W : World} {l : List (String × DataW Unit)} (hL : laidMet Tryz.prog l W) (hsh : W.ShapedOpen Tryz.prog) (h1 : ("math/bits.deBruijn64tab", Rows.laid_math_bits_deBruijn64tab) ∈ l)
    (h3 : ("unicode/utf8.first", Rows.laid_unicode_utf8_first) ∈ l) (h4 : ("unicode/utf8.acceptRanges", Rows.laid_unicode_utf8_acceptRanges) ∈ l) : ∃ m, Reads W (gro m) := by
  obtain ⟨m, hm⟩ : ∃ m, W.cell? ⟨0, 0, none⟩ = some (.int .i64 m) := Tryz.laysM145.s1_3 W hsh
  obtain ⟨t3, t4⟩ : Lib.Utf8Tabs 1 2 W := utf8Tabs_of_reads Tryz.lays260 u8extra (eq_first ▸ Lib.laidMet.reads hL h3) (eq_accept ▸ Lib.laidMet.reads hL h4)
  refine ⟨m, fun b ob e => ?_⟩
  unfold gro at e
  split at e
  · rename_i hb
    subst hb; cases e
    exact ⟨ctzUs, rfl, by decide +kernel, by decide +kernel, ctz_reads hL h1, fun h => absurd h (by decide +kernel)⟩
  · split at e
    · rename_i hb
      subst hb; cases e
      refine ⟨_, rfl, by simp, by simp [Value.oneCell'], fun j u hu => ?_, fun h => by simp at h⟩
      cases j with
      | zero => simp at hu; subst hu; exact hm
      | succ j => simp at hu
    · split at e
      · rename_i hb
        subst hb; cases e
        refine ⟨firstUs, rfl, by decide +kernel, by decide +kernel, fun j u hu => ?_, fun h => absurd h (by decide +kernel)⟩
        have hj : j < 256 := by have := (List.getElem?_eq_some_iff.1 hu).1; simpa [firstUs] using this
        rw [t3 j hj, ← hu]
        simp only [firstUs, List.getElem?_map, List.getElem?_range hj]
        rfl
      · split at e
        · rename_i hb
          subst hb; cases e
          refine ⟨acceptUs, rfl, by decide +kernel, by decide +kernel, fun j u hu => ?_, fun h => absurd h (by decide +kernel)⟩
          have hj : j < 32 := by have := (List.getElem?_eq_some_iff.1 hu).1; rwa [show acceptUs.length = 32 by kernel_rfl] at this
          rcases Nat.mod_two_eq_zero_or_one j with h | h
          · obtain ⟨i, rfl⟩ : ∃ i, j = 2 * i := ⟨j / 2, by omega⟩
            rw [(t4 i (by omega)).1, ← hu, (acceptUs_at i (by omega)).1]
          · obtain ⟨i, rfl⟩ : ∃ i, j = 2 * i + 1 := ⟨j / 2, by omega⟩
            rw [(t4 i (by omega)).2, ← hu, (acceptUs_at i (by omega)).2]
        · cases e
def setCells (cs : Array Value) : Obj → Obj
  | .cells _ t fr => .cells cs t fr
  | o => o
noncomputable def low : Nat := (World.holding Tryz.prog default ⟨#[], #[], []⟩).heap.size
noncomputable def laidWorld (os : Os) : World :=
  let w0 := World.holding Tryz.prog os ⟨#[.cells #[.string ⟨#[105, 110, 118, 97, 108, 105, 100, 32, 115, 121, 110, 116, 97, 120]⟩] 271, .cells #[.string ⟨#[118, 97, 108, 117, 101, 32, 111, 117, 116, 32, 111, 102, 32, 114, 97, 110, 103, 101]⟩] 271], #[], []⟩
  { w0 with heap := ((((((w0.heap.modify 7 (setCells ctzUs.toArray)).modify 6 (setCells (Lib.deBruijn32tab.map fun n : Nat => Value.int .u8 n).toArray)).modify 1 (setCells firstUs.toArray)).modify 2 (setCells acceptUs.toArray)).modify 5
    (setCells ((List.range 20).map fun n => Value.int .u64 (10 ^ n)).toArray)).modify 3 (setCells #[.iface 269 (.pointer (some ⟨low, 0, none⟩))])).modify 4 (setCells #[.iface 269 (.pointer (some ⟨low + 1, 0, none⟩))]) }
theorem own : ownKnob Tryz.prog.godebug = none := by kernel_rfl
end Go.Proofs.YtghlkjkdejebnaaGreatDoor
