/- A job that is taken, by definition: the document's Take. Jobs as bytes, by definition: the document's package 14, Parse, Put, Same. Jobs as bytes, by definition: the document's package 14, Put. Commands, by definition and by the program: whether one may be; the document's bytes. Commands as bytes: what cmd.Put and the document's Put give. Commands as bytes: the document's Put; what is parsed. Commands as bytes: what the document's Parse gives. Commands that are the same; the chapter's rows. Commands: whether any may be, its bytes, and which one any bytes are, is the document's. A state's parts as bytes: what is written. -/
import Derived.Test.YtghlkjkdejebnaaGreatDoorP20
set_option linter.unusedSimpArgs false
set_option linter.unusedVariables false
set_option linter.unnecessarySimpa false
namespace Go.Proofs.YtghlkjkdejebnaaGreatDoor
open Rg Go
variable {H : Heap}
theorem capS_le (b : List UInt8) (s : Nat × Bool) (h : s.1 ≤ b.length) : (capS b s).2.1 ≤ b.length := (numS_le b _ s h).1
theorem HLe.del_le {H : Heap} (p : Nat) : HLe (H.del p) H := fun q o h => by
  by_cases hq : q = p
  · simp [Heap.del, hq] at h
  · simpa [Heap.del, hq] using h
theorem depsT_step (b : List UInt8) (k : Nat) (s : Nat × Bool) (h : s.2 = false) : depsT b (k + 1) s = ((numS b 18446744073709551615 s).1 :: (depsT b k (numS b 18446744073709551615 s).2).1, (depsT b k (numS b 18446744073709551615 s).2).2) := by
  conv => lhs; unfold depsT
  rw [if_neg (by simp [h])]
theorem depsT_halt (b : List UInt8) (k : Nat) (s : Nat × Bool) (h : s.2 = true) : depsT b k s = ([], s) := by
  cases k with
  | zero => rfl
  | succ k => unfold depsT; rw [if_pos h]
theorem tkAt_neg (s : Nat × Bool) : (tkAt s < 0) = (s.2 = true) := by
  unfold tkAt
  split
  · rename_i h; simp [h]
  · rename_i h; simp [h]
set_option maxHeartbeats 4000000 in
theorem c_tTake {b : List UInt8} {t : Rg.Tok} {p : Nat} {s : Nat × Bool} (h : H p = some (tkO b t s)) (hs : s.1 ≤ b.length) (hb : b.length ≤ 1000000) :
    AOk Tryz.prog 72 [.sc (.pointer (some ⟨p, 0, none⟩))] H (jbAV (takeJ b s).j .no) (H.set p (tkO b t (takeJ b s).s)) := by
  obtain ⟨res, hres⟩ : ∃ res, takeJ b s = res := ⟨_, rfl⟩
  rw [hres]
  refine ACalls.into Tryz.func72 rfl Tryz.ntmps72 Tryz.results72 (by simp) ?_
  simp -implicitDefEqProofs
  refine AAlloc.intro fun pr hpr => ?_
  simp -implicitDefEqProofs
  refine AAlloc.intro fun pj hpj => ?_
  have n1 : p ≠ pr := by rintro rfl; rw [h] at hpr; cases hpr
  have n2 : p ≠ pj := by rintro rfl; simp [Heap.set, n1, h] at hpj
  have n3 : pr ≠ pj := by rintro rfl; simp [Heap.set] at hpj
  simp -implicitDefEqProofs
  generalize hZ : Heap.set H pr _ = HZ at *
  have zp : HZ p = some (tkO b t s) := by rw [← hZ]; simp [Heap.set, n1, h]
  have zr : HZ pr = some (.cells (jbC jb0 .nil) 25) := by rw [← hZ]; simp [Heap.set]; rfl
  have zl : HLe H HZ := by rw [← hZ]; exact HLe.set_fresh hpr
  obtain ⟨B, hB⟩ : ∃ B, HZ.del p = B := ⟨_, rfl⟩
  have bp : B p = none := by rw [← hB]; simp [Heap.del]
  have bj : B pj = none := by rw [← hB]; simp [Heap.del, Ne.symm n2, hpj]
  have br : B pr = some (.cells (jbC jb0 .nil) 25) := by rw [← hB]; simp [Heap.del, Ne.symm n1, zr]
  have bH : ∀ q o, H q = some o → q ≠ p → B q = some o := fun q o hq hqp => by rw [← hB]; simp [Heap.del, hqp, zl q o hq]
  generalize hK : Heap.set HZ pj _ = K0
  have P0 : TInv B b t p pj s jb0 .nil K0 := by
    rw [← hK]
    refine ⟨by simp [Heap.set, n2, zp], ⟨HLe.set_new (by rw [← hB]; exact HLe.del_le p) bj, bj, .nil, by simp [Heap.set]; rfl, .inl ⟨rfl, rfl⟩⟩, by simp [Heap.set]; rfl, bp, n2, hs⟩
  clear hK zp zr zl hZ hB hpj
  refine ACall.eq (c_tNum P0.tk P0.le hb) ?_
  obtain ⟨r1, hr1⟩ : ∃ r, numS b 18446744073709551615 s = r := ⟨_, rfl⟩
  have P1 := P0.upd (s' := r1.2) (by rw [← hr1]; exact (numS_le b _ _ P0.le).1)
  rw [hr1]
  generalize Heap.set _ p _ = K1 at *
  simp -implicitDefEqProofs [P1.cell]
  generalize hU : K1.set pj _ = K2
  have P2 : TInv B b t p pj r1.2 ⟨r1.1, [], [], 0, 0, 0, 0, 0, [], false, 0, 0⟩ .nil K2 := by rw [← hU]; exact P1.put rfl
  clear hU
  refine ACall.eq (c_tText P2.tk P2.le hb) ?_
  obtain ⟨r2, hr2⟩ : ∃ r, txtS b r1.2 = r := ⟨_, rfl⟩
  have P3 := P2.upd (s' := r2.2) (by rw [← hr2]; exact txtS_le b _ P2.le)
  rw [hr2]
  generalize Heap.set _ p _ = K3 at *
  simp -implicitDefEqProofs [P3.cell]
  generalize hU : K3.set pj _ = K4
  have P4 : TInv B b t p pj r2.2 ⟨r1.1, r2.1, [], 0, 0, 0, 0, 0, [], false, 0, 0⟩ .nil K4 := by rw [← hU]; exact P3.put rfl
  clear hU
  refine ACall.eq (c_tText P4.tk P4.le hb) ?_
  obtain ⟨r3, hr3⟩ : ∃ r, txtS b r2.2 = r := ⟨_, rfl⟩
  have P5 := P4.upd (s' := r3.2) (by rw [← hr3]; exact txtS_le b _ P4.le)
  rw [hr3]
  generalize Heap.set _ p _ = K5 at *
  simp -implicitDefEqProofs [P5.cell]
  generalize hU : K5.set pj _ = K6
  have P6 : TInv B b t p pj r3.2 ⟨r1.1, r2.1, r3.1, 0, 0, 0, 0, 0, [], false, 0, 0⟩ .nil K6 := by rw [← hU]; exact P5.put rfl
  clear hU
  refine ACall.eq (c_tSmall P6.tk P6.le hb) ?_
  obtain ⟨r4, hr4⟩ : ∃ r, capS b r3.2 = r := ⟨_, rfl⟩
  have P7 := P6.upd (s' := r4.2) (by rw [← hr4]; exact capS_le b _ P6.le)
  rw [hr4]
  generalize Heap.set _ p _ = K7 at *
  simp -implicitDefEqProofs [P7.cell]
  generalize hU : K7.set pj _ = K8
  have P8 : TInv B b t p pj r4.2 ⟨r1.1, r2.1, r3.1, (r4.1 : Int), 0, 0, 0, 0, [], false, 0, 0⟩ .nil K8 := by rw [← hU]; exact P7.put rfl
  clear hU
  refine ACall.eq (c_tSmall P8.tk P8.le hb) ?_
  obtain ⟨r5, hr5⟩ : ∃ r, capS b r4.2 = r := ⟨_, rfl⟩
  have P9 := P8.upd (s' := r5.2) (by rw [← hr5]; exact capS_le b _ P8.le)
  rw [hr5]
  generalize Heap.set _ p _ = K9 at *
  simp -implicitDefEqProofs [P9.cell]
  generalize hU : K9.set pj _ = K10
  have P10 : TInv B b t p pj r5.2 ⟨r1.1, r2.1, r3.1, (r4.1 : Int), (r5.1 : Int), 0, 0, 0, [], false, 0, 0⟩ .nil K10 := by rw [← hU]; exact P9.put rfl
  clear hU
  refine ACall.eq (c_tSmall P10.tk P10.le hb) ?_
  obtain ⟨r6, hr6⟩ : ∃ r, capS b r5.2 = r := ⟨_, rfl⟩
  have P11 := P10.upd (s' := r6.2) (by rw [← hr6]; exact capS_le b _ P10.le)
  rw [hr6]
  generalize Heap.set _ p _ = K11 at *
  simp -implicitDefEqProofs [P11.cell]
  generalize hU : K11.set pj _ = K12
  have P12 : TInv B b t p pj r6.2 ⟨r1.1, r2.1, r3.1, (r4.1 : Int), (r5.1 : Int), (r6.1 : Int), 0, 0, [], false, 0, 0⟩ .nil K12 := by rw [← hU]; exact P11.put rfl
  clear hU
  refine ACall.eq (c_tSmall P12.tk P12.le hb) ?_
  obtain ⟨r7, hr7⟩ : ∃ r, capS b r6.2 = r := ⟨_, rfl⟩
  have P13 := P12.upd (s' := r7.2) (by rw [← hr7]; exact capS_le b _ P12.le)
  rw [hr7]
  generalize Heap.set _ p _ = K13 at *
  simp -implicitDefEqProofs [P13.cell]
  generalize hU : K13.set pj _ = K14
  have P14 : TInv B b t p pj r7.2 ⟨r1.1, r2.1, r3.1, (r4.1 : Int), (r5.1 : Int), (r6.1 : Int), (r7.1 : Int), 0, [], false, 0, 0⟩ .nil K14 := by rw [← hU]; exact P13.put rfl
  clear hU
  refine ACall.eq (c_tSmall P14.tk P14.le hb) ?_
  obtain ⟨r8, hr8⟩ : ∃ r, capS b r7.2 = r := ⟨_, rfl⟩
  have P15 := P14.upd (s' := r8.2) (by rw [← hr8]; exact capS_le b _ P14.le)
  rw [hr8]
  generalize Heap.set _ p _ = K15 at *
  simp -implicitDefEqProofs [P15.cell]
  generalize hU : K15.set pj _ = K16
  have P16 : TInv B b t p pj r8.2 ⟨r1.1, r2.1, r3.1, (r4.1 : Int), (r5.1 : Int), (r6.1 : Int), (r7.1 : Int), (r8.1 : Int), [], false, 0, 0⟩ .nil K16 := by rw [← hU]; exact P15.put rfl
  clear hU
  refine ACall.eq (c_tSmall P16.tk P16.le hb) ?_
  obtain ⟨r9, hr9⟩ : ∃ r, capS b r8.2 = r := ⟨_, rfl⟩
  have P17 := P16.upd (s' := r9.2) (by rw [← hr9]; exact capS_le b _ P16.le)
  rw [hr9]
  generalize Heap.set _ p _ = K17 at *
  simp -implicitDefEqProofs
  obtain ⟨s0, hs0⟩ : ∃ s0, (r9.2.1, r9.2.2 || decide (8 < r9.1)) = s0 := ⟨_, rfl⟩
  have l0 : s0.1 ≤ b.length := by rw [← hs0]; exact P17.le
  have c9 : r9.1 ≤ 1099511627776 := by rw [← hr9]; unfold capS; simp only; omega
  refine ABr.join (fun ρ K => ρ 0 = .sc (.pointer (some ⟨p, 0, none⟩)) ∧ ρ 2 = .sc (.pointer (some ⟨pr, 0, none⟩)) ∧ ρ 3 = .sc (.pointer (some ⟨pj, 0, none⟩)) ∧ ρ 4 = .sc (.int .i64 (r9.1 : Int)) ∧ TInv B b t p pj s0 ⟨r1.1, r2.1, r3.1, (r4.1 : Int), (r5.1 : Int), (r6.1 : Int), (r7.1 : Int), (r8.1 : Int), [], false, 0, 0⟩ .nil K) (fun k' hk' => ?_) ?_
  · by_cases h8 : 8 < r9.1
    · have h8' : (8 : Int) < (r9.1 : Int) := by omega
      have e0 : s0 = (r9.2.1, true) := by rw [← hs0]; simp [h8]
      simp -implicitDefEqProofs [h8, h8', P17.tk]
      exact hk' _ _ ⟨by simp, by simp, by simp, by simp, by rw [e0]; exact P17.upd (s' := (r9.2.1, true)) P17.le⟩
    · have h8' : ¬ (8 : Int) < (r9.1 : Int) := by omega
      have e0 : s0 = r9.2 := by rw [← hs0]; simp [h8]
      simp -implicitDefEqProofs [h8, h8']
      exact hk' _ _ ⟨by simp, by simp, by simp, by simp, by rw [e0]; exact P17⟩
  clear P17
  rintro ρ K0 ⟨q0, q2, q3, q4, P0⟩
  simp -implicitDefEqProofs [q0, q2, q3, q4]
  obtain ⟨rd, hrd⟩ : ∃ r, depsT b r9.1 s0 = r := ⟨_, rfl⟩
  have hlong : s0.2 = false → r9.1 ≤ 8 := fun hh => by
    rw [← hs0] at hh
    simp only [Bool.or_eq_false_iff, decide_eq_false_iff_not] at hh
    omega
  refine AGo.joinLoop (fun ρ K => ∃ t0, ρ 0 = .sc (.pointer (some ⟨p, 0, none⟩)) ∧ ρ 2 = .sc (.pointer (some ⟨pr, 0, none⟩)) ∧ ρ 3 = .sc (.pointer (some ⟨pj, 0, none⟩)) ∧ TInv B b t p pj rd.2 ⟨r1.1, r2.1, r3.1, (r4.1 : Int), (r5.1 : Int), (r6.1 : Int), (r7.1 : Int), (r8.1 : Int), rd.1, false, 0, 0⟩ t0 K) (fun k' hk => ?_) ?_
  · refine AGo.rounds (fun m ρ K => ∃ i s' ds t0, m = r9.1 - i ∧ i ≤ r9.1 ∧ rd = (ds ++ (depsT b (r9.1 - i) s').1, (depsT b (r9.1 - i) s').2) ∧ (i = 0 ∧ ds = [] ∧ s' = s0 ∨ r9.1 ≤ 8 ∧ ds.length = i) ∧ ρ 5 = .sc (.int .i64 (i : Int)) ∧ ρ 4 = .sc (.int .i64 (r9.1 : Int)) ∧ ρ 0 = .sc (.pointer (some ⟨p, 0, none⟩)) ∧ ρ 2 = .sc (.pointer (some ⟨pr, 0, none⟩)) ∧ ρ 3 = .sc (.pointer (some ⟨pj, 0, none⟩)) ∧
      TInv B b t p pj s' ⟨r1.1, r2.1, r3.1, (r4.1 : Int), (r5.1 : Int), (r6.1 : Int), (r7.1 : Int), (r8.1 : Int), ds, false, 0, 0⟩ t0 K) ?_ (m := r9.1) (HLe.refl _)
      ⟨0, s0, [], .nil, rfl, by omega, by simp [hrd], .inl ⟨rfl, rfl, rfl⟩, by simp, by simp [q4], by simp [q0], by simp [q2], by simp [q3], P0⟩
    rintro m ρ K ih ⟨i, s', ds, t0, rfl, hi, hd, hcase, q5, q4, q0, q2, q3, P⟩
    by_cases hlt : i < r9.1
    · have hlt' : (i : Int) < (r9.1 : Int) := by omega
      by_cases hbad : s'.2 = true
      · have hneg : tkAt s' < 0 := by rw [tkAt_neg]; exact hbad
        have hneg' : ¬ 0 ≤ tkAt s' := by omega
        rw [depsT_halt b _ s' hbad, List.append_nil] at hd
        simp -implicitDefEqProofs [q5, q4, q0, q2, q3, hlt, hlt', P.tk, hneg, hneg']
        subst hd
        exact hk _ _ ⟨t0, by simp [q0], by simp [q2], by simp [q3], P⟩
      · have hbad' : s'.2 = false := by simpa using hbad
        have hneg : ¬ tkAt s' < 0 := by rw [tkAt_neg]; exact hbad
        have hneg' : 0 ≤ tkAt s' := by omega
        have h8 : r9.1 ≤ 8 ∧ ds.length = i := by
          rcases hcase with ⟨h1, h2, h3⟩ | h1
          · exact ⟨hlong (by rw [← h3]; exact hbad'), by rw [h1, h2]; rfl⟩
          · exact h1
        have hdl := h8.2
        have hw1 : IntKind.i64.wrap ((i : Int) + 1) = (i : Int) + 1 := wrap_i64 (by omega) (by omega)
        obtain ⟨r, hr⟩ : ∃ r, numS b 18446744073709551615 s' = r := ⟨_, rfl⟩
        have hnext : rd = (ds ++ [r.1] ++ (depsT b (r9.1 - (i + 1)) r.2).1, (depsT b (r9.1 - (i + 1)) r.2).2) := by
          rw [hd, show r9.1 - i = (r9.1 - (i + 1)) + 1 by omega, depsT_step b _ s' hbad', hr]
          simp
        have Pu := P.upd (s' := r.2) (by rw [← hr]; exact (numS_le b _ _ P.le).1)
        have hcall := c_tNum P.tk P.le hb
        rw [hr] at hcall
        obtain ⟨G0, G, hg, hl, hst⟩ := Pu.app r.1
        generalize hKu : Heap.set K p _ = Ku at hcall Pu hl hst
        simp -implicitDefEqProofs [q5, q4, q0, q2, q3, hlt, hlt', P.tk, hneg, hneg']
        refine go_draw3 [0, 2] (fun _ => none) f_mixed (by decide +kernel) HC.nothing ?_
        simp -implicitDefEqProofs
        refine aq3_op ?_
        simp -implicitDefEqProofs [q3]
        refine aq3_op ?_
        simp -implicitDefEqProofs [q0]
        refine AWK.two 1 3 (by decide +kernel) ?_ ?_
        · refine AWE.op rfl ?_
          simp -implicitDefEqProofs [P.cell]
          refine AWK.one 3 (by decide +kernel) ?_
          refine AWE.op rfl ?_
          simp -implicitDefEqProofs [q0]
          refine ⟨_, hcall, ?_⟩
          rintro v Kx ⟨rfl, rfl⟩
          refine ⟨fun _ _ h => (by cases h), ?_⟩
          refine AWK.one 4 (by decide +kernel) ?_
          refine AWE.op rfl ?_
          simp -implicitDefEqProofs
          refine AWK.one 5 (by decide +kernel) ?_
          refine AWE.op rfl ?_
          simp -implicitDefEqProofs
          refine AWS.grows0 el_23 hg hl (by simp [szs, AV.cells]) (by simp [szs, AV.cells]) (by simp; omega) (by simp [maxLen]; omega) fun t' K' Hn hg' hl' _ => ?_
          have e1 : u64s ds ++ [(.sc (.int .u64 (r.1 : Int)) : AV)] = u64s (ds ++ [r.1]) := by simp
          rw [e1] at hg' ⊢
          obtain ⟨hpj2, Pn⟩ := hst t' K' Hn hg' hl'
          simp only [jbC, List.map_append, List.map_cons, List.map_nil] at Pn
          refine AWK.one 6 (by decide +kernel) ?_
          refine AWE.op rfl ?_
          simp -implicitDefEqProofs [q3]
          refine AWK.one 7 (by decide +kernel) ?_
          refine AWE.op rfl ?_
          simp -implicitDefEqProofs [hpj2]
          refine AWS.store hpj2 (fun _ _ h => by cases h) ?_
          refine AWK.fin (by decide +kernel) ?_
          simp -implicitDefEqProofs [q5, hw1]
          exact AGo.again ih (m' := r9.1 - (i + 1)) (by omega) (HLe.refl _) ⟨i + 1, r.2, ds ++ [r.1], t', rfl, by omega, hnext, by simp; omega, by simp, by simp [q4], by simp [q0], by simp [q2], by simp [q3], Pn⟩
        · refine AWE.op rfl ?_
          simp -implicitDefEqProofs [q0]
          refine ⟨_, hcall, ?_⟩
          rintro v Kx ⟨rfl, rfl⟩
          refine ⟨fun _ _ h => (by cases h), ?_⟩
          refine AWK.two 1 4 (by decide +kernel) ?_ ?_
          · refine AWE.op rfl ?_
            simp -implicitDefEqProofs [Pu.cell]
            refine AWK.one 4 (by decide +kernel) ?_
            refine AWE.op rfl ?_
            simp -implicitDefEqProofs
            refine AWK.one 5 (by decide +kernel) ?_
            refine AWE.op rfl ?_
            simp -implicitDefEqProofs
            refine AWS.grows0 el_23 hg hl (by simp [szs, AV.cells]) (by simp [szs, AV.cells]) (by simp; omega) (by simp [maxLen]; omega) fun t' K' Hn hg' hl' _ => ?_
            have e1 : u64s ds ++ [(.sc (.int .u64 (r.1 : Int)) : AV)] = u64s (ds ++ [r.1]) := by simp
            rw [e1] at hg' ⊢
            obtain ⟨hpj2, Pn⟩ := hst t' K' Hn hg' hl'
            simp only [jbC, List.map_append, List.map_cons, List.map_nil] at Pn
            refine AWK.one 6 (by decide +kernel) ?_
            refine AWE.op rfl ?_
            simp -implicitDefEqProofs [q3]
            refine AWK.one 7 (by decide +kernel) ?_
            refine AWE.op rfl ?_
            simp -implicitDefEqProofs [hpj2]
            refine AWS.store hpj2 (fun _ _ h => by cases h) ?_
            refine AWK.fin (by decide +kernel) ?_
            simp -implicitDefEqProofs [q5, hw1]
            exact AGo.again ih (m' := r9.1 - (i + 1)) (by omega) (HLe.refl _) ⟨i + 1, r.2, ds ++ [r.1], t', rfl, by omega, hnext, by simp; omega, by simp, by simp [q4], by simp [q0], by simp [q2], by simp [q3], Pn⟩
          · refine AWE.op rfl ?_
            simp -implicitDefEqProofs
            refine AWK.one 1 (by decide +kernel) ?_
            refine AWE.op rfl ?_
            simp -implicitDefEqProofs [Pu.cell]
            refine AWK.one 5 (by decide +kernel) ?_
            refine AWE.op rfl ?_
            simp -implicitDefEqProofs
            refine AWS.grows0 el_23 hg hl (by simp [szs, AV.cells]) (by simp [szs, AV.cells]) (by simp; omega) (by simp [maxLen]; omega) fun t' K' Hn hg' hl' _ => ?_
            have e1 : u64s ds ++ [(.sc (.int .u64 (r.1 : Int)) : AV)] = u64s (ds ++ [r.1]) := by simp
            rw [e1] at hg' ⊢
            obtain ⟨hpj2, Pn⟩ := hst t' K' Hn hg' hl'
            simp only [jbC, List.map_append, List.map_cons, List.map_nil] at Pn
            refine AWK.one 6 (by decide +kernel) ?_
            refine AWE.op rfl ?_
            simp -implicitDefEqProofs [q3]
            refine AWK.one 7 (by decide +kernel) ?_
            refine AWE.op rfl ?_
            simp -implicitDefEqProofs [hpj2]
            refine AWS.store hpj2 (fun _ _ h => by cases h) ?_
            refine AWK.fin (by decide +kernel) ?_
            simp -implicitDefEqProofs [q5, hw1]
            exact AGo.again ih (m' := r9.1 - (i + 1)) (by omega) (HLe.refl _) ⟨i + 1, r.2, ds ++ [r.1], t', rfl, by omega, hnext, by simp; omega, by simp, by simp [q4], by simp [q0], by simp [q2], by simp [q3], Pn⟩
    · have hn : ¬ (i : Int) < (r9.1 : Int) := by omega
      obtain rfl : i = r9.1 := by omega
      rw [Nat.sub_self] at hd
      simp only [depsT, List.append_nil] at hd
      simp -implicitDefEqProofs [q5, q4, q0, q2, q3, hn]
      subst hd
      exact hk _ _ ⟨t0, by simp [q0], by simp [q2], by simp [q3], P⟩
  clear P0 q0 q2 q3 q4
  rintro ρ K0 ⟨t0, q0, q2, q3, P0⟩
  have lrd : rd.2.1 ≤ b.length := P0.le
  simp -implicitDefEqProofs [q0, q2, q3]
  refine ACall.eq (c_tNum P0.tk P0.le hb) ?_
  obtain ⟨ra, hra⟩ : ∃ r, numS b 18446744073709551615 rd.2 = r := ⟨_, rfl⟩
  have P1 := P0.upd (s' := ra.2) (by rw [← hra]; exact (numS_le b _ _ P0.le).1)
  rw [hra]
  generalize Heap.set _ p _ = K1 at *
  simp -implicitDefEqProofs
  obtain ⟨s1, hs1⟩ : ∃ s1, (ra.2.1, ra.2.2 || decide (1 < ra.1)) = s1 := ⟨_, rfl⟩
  obtain ⟨pz, hpz⟩ : ∃ z, decide (ra.1 = 1) = z := ⟨_, rfl⟩
  have hpz' : decide ((ra.1 : Int) = 1) = pz := by rw [← hpz]; congr 1; exact propext ⟨fun h => by omega, fun h => by omega⟩
  refine ABr.join (fun ρ K => ρ 0 = .sc (.pointer (some ⟨p, 0, none⟩)) ∧ ρ 2 = .sc (.pointer (some ⟨pr, 0, none⟩)) ∧ ρ 3 = .sc (.pointer (some ⟨pj, 0, none⟩)) ∧ ρ 6 = .sc (.int .u64 (ra.1 : Int)) ∧ TInv B b t p pj s1 ⟨r1.1, r2.1, r3.1, (r4.1 : Int), (r5.1 : Int), (r6.1 : Int), (r7.1 : Int), (r8.1 : Int), rd.1, false, 0, 0⟩ t0 K) (fun k' hk' => ?_) ?_
  · by_cases h8 : 1 < ra.1
    · have h8' : (1 : Int) < (ra.1 : Int) := by omega
      have e0 : s1 = (ra.2.1, true) := by rw [← hs1]; simp [h8]
      simp -implicitDefEqProofs [h8, h8', P1.tk, q0]
      exact hk' _ _ ⟨by simp [q0], by simp [q2], by simp [q3], by simp, by rw [e0]; exact P1.upd (s' := (ra.2.1, true)) P1.le⟩
    · have h8' : ¬ (1 : Int) < (ra.1 : Int) := by omega
      have e0 : s1 = ra.2 := by rw [← hs1]; simp [h8]
      simp -implicitDefEqProofs [h8, h8']
      exact hk' _ _ ⟨by simp [q0], by simp [q2], by simp [q3], by simp, by rw [e0]; exact P1⟩
  clear P0 P1 q0 q2 q3
  rintro ρ K0 ⟨q0, q2, q3, q6, P0⟩
  simp -implicitDefEqProofs [q0, q2, q3, q6, P0.cell, hpz, hpz']
  generalize hU : K0.set pj _ = K1
  have P1 : TInv B b t p pj s1 ⟨r1.1, r2.1, r3.1, (r4.1 : Int), (r5.1 : Int), (r6.1 : Int), (r7.1 : Int), (r8.1 : Int), rd.1, pz, 0, 0⟩ t0 K1 := by rw [← hU]; exact P0.put rfl
  clear hU
  refine ACall.eq (c_tNum P1.tk P1.le hb) ?_
  obtain ⟨rv, hrv⟩ : ∃ r, numS b 18446744073709551615 s1 = r := ⟨_, rfl⟩
  have P2 := P1.upd (s' := rv.2) (by rw [← hrv]; exact (numS_le b _ _ P1.le).1)
  rw [hrv]
  generalize Heap.set _ p _ = K2 at *
  simp -implicitDefEqProofs [q0, q2, q3, P2.cell]
  generalize hU : K2.set pj _ = K3
  have P3 : TInv B b t p pj rv.2 ⟨r1.1, r2.1, r3.1, (r4.1 : Int), (r5.1 : Int), (r6.1 : Int), (r7.1 : Int), (r8.1 : Int), rd.1, pz, rv.1, 0⟩ t0 K3 := by rw [← hU]; exact P2.put rfl
  clear hU
  refine ACall.eq (c_tInt P3.tk P3.le hb) ?_
  obtain ⟨ri, hri⟩ : ∃ r, intS b rv.2 = r := ⟨_, rfl⟩
  have P4 := P3.upd (s' := ri.2) (by rw [← hri]; exact intS_le b _ P3.le)
  rw [hri]
  generalize Heap.set _ p _ = K4 at *
  have rb : K4 pr = some (.cells (jbC jb0 .nil) 25) := P4.row.le pr _ br
  have hj : takeJ b s = ⟨⟨r1.1, r2.1, r3.1, (r4.1 : Int), (r5.1 : Int), (r6.1 : Int), (r7.1 : Int), (r8.1 : Int), rd.1, pz, rv.1, ri.1⟩, ri.2⟩ := by
    simp only [takeJ, rtB, rtC, rtD, rtE, hr1, hr2, hr3, hr4, hr5, hr6, hr7, hr8, hr9, hs0, hrd, hra, hs1, hpz, hrv, hri]
  rw [hres] at hj
  subst hj
  simp -implicitDefEqProofs [q0, q2, q3, P4.cell, rb, n3]
  refine HLe.wk fun q o hq => ?_
  by_cases hqp : q = p
  · subst hqp
    simp only [Heap.set, if_true] at hq
    simp [Heap.set, n1, n2, P4.tk, ← hq]
  · have h1 : H q = some o := by simpa [Heap.set, hqp] using hq
    have h2 := bH q o h1 hqp
    have h3 : q ≠ pj := by rintro rfl; rw [bj] at h2; cases h2
    have h4 : q ≠ pr := by rintro rfl; rw [hpr] at h1; cases h1
    simp [Heap.set, h3, h4, P4.row.le q o h2]
end Go.Proofs.YtghlkjkdejebnaaGreatDoor
namespace Go.Proofs.YtghlkjkdejebnaaGreatDoor
open Rg Go
variable {H : Heap}
set_option maxHeartbeats 4000000 in
theorem c_ref14Same (a b : Jb) (t u : Rg.Tok) (hl : a.deps.length ≤ 1000000) : AOk Tryz.prog 60 [jbAV a t, jbAV b u] H (.sc (.bool (sameJ a b))) H := by
  refine ACalls.into Tryz.func60 rfl Tryz.ntmps60 Tryz.results60 (by simp) ?_
  simp -implicitDefEqProofs
  refine AAlloc.intro fun p hp => ?_
  simp -implicitDefEqProofs
  refine AAlloc.intro fun q hq => ?_
  have npq : p ≠ q := by rintro rfl; simp [Heap.set] at hq
  simp -implicitDefEqProofs [npq]
  generalize hK : Heap.set _ q _ = K
  have kp : K p = some (.cells (jbC a t) 25) := by rw [← hK]; simp [Heap.set, npq]
  have kq : K q = some (.cells (jbC b u) 25) := by rw [← hK]; simp [Heap.set]
  have kW : HWk H K := by rw [← hK]; exact (HLe.set_new (HLe.set_fresh hp) ((HLe.set_fresh hp).none hq)).wk
  clear hK
  have hno : a.deps ≠ b.deps → sameJ a b = false := fun h => by
    rcases hs : sameJ a b with _ | _
    · rfl
    · exact absurd (congrArg Jb.deps (sameJ_iff.1 hs)) h
  obtain ⟨res, hres⟩ : ∃ res, sameJ a b = res := ⟨_, rfl⟩
  rw [hres] at hno ⊢
  by_cases hlen : a.deps.length = b.deps.length
  · have hlen' : (a.deps.length : Int) = (b.deps.length : Int) := by omega
    simp -implicitDefEqProofs [kp, kq, hlen, hlen']
    refine AGo.joinLoop (fun ρ K2 => a.deps = b.deps ∧ ρ 2 = .sc (.pointer (some ⟨p, 0, none⟩)) ∧ ρ 3 = .sc (.pointer (some ⟨q, 0, none⟩)) ∧ K2 = K) (fun k' hk => ?_) ?_
    · refine AGo.rounds (fun m ρ K2 => ∃ i, m = a.deps.length - i ∧ i ≤ a.deps.length ∧ a.deps.take i = b.deps.take i ∧ ρ 5 = .sc (.int .i64 (i : Int)) ∧ ρ 2 = .sc (.pointer (some ⟨p, 0, none⟩)) ∧ ρ 3 = .sc (.pointer (some ⟨q, 0, none⟩)) ∧ K2 = K) ?_ (m := a.deps.length) (HLe.refl _)
        ⟨0, rfl, by omega, by simp, by simp, by simp, by simp, rfl⟩
      rintro m ρ K2 ih ⟨i, rfl, hi, htk, r5, r2, r3, rfl⟩
      by_cases hlt : i < a.deps.length
      · have hlt' : (i : Int) < (a.deps.length : Int) := by omega
        have hltb : i < b.deps.length := by omega
        have hltb' : (i : Int) < (b.deps.length : Int) := by omega
        obtain ⟨x, hxj, hx⟩ := getAt hlt
        obtain ⟨y, hyj, hy⟩ := getAt hltb
        have hw1 : IntKind.i64.wrap ((i : Int) + 1) = (i : Int) + 1 := wrap_i64 (by omega) (by omega)
        simp -implicitDefEqProofs [r5, r2, r3, kp, kq, hlt, hlt', hltb, hltb']
        refine go_draw 11 f_mixed (by decide +kernel) ?_
        simp -implicitDefEqProofs [r5, r2, r3, kp, kq, hlt, hlt', hltb, hltb', hxj, hyj]
        by_cases hxy : x = y
        · subst hxy
          simp -implicitDefEqProofs [r5, hw1]
          refine AGo.again ih (m' := a.deps.length - (i + 1)) (by omega) (HLe.refl _) ⟨i + 1, rfl, by omega, ?_, by simp, by simp [r2], by simp [r3], rfl⟩
          rw [List.take_add_one, List.take_add_one, htk, hx, hy]
        · have hxy' : ¬ (x : Int) = (y : Int) := by omega
          have hne : a.deps ≠ b.deps := fun e => by rw [e, hy] at hx; cases hx; exact hxy rfl
          have := hno hne
          subst this
          simp -implicitDefEqProofs [hxy, hxy']
          exact kW
      · have hn' : ¬ (i : Int) < (a.deps.length : Int) := by omega
        have hn2 : ¬ (i : Int) < (b.deps.length : Int) := by omega
        simp -implicitDefEqProofs [r5, r2, r3, kp, kq, hlt, hn', hn2]
        rw [List.take_of_length_le (by omega), List.take_of_length_le (by omega)] at htk
        exact hk _ _ ⟨htk, by simp [r2], by simp [r3], rfl⟩
    · rintro ρ K2 ⟨hd, r2, r3, rfl⟩
      have hd8 : decide (a.deps = b.deps) = true := decide_eq_true hd
      unfold sameJ at hres
      rw [hd8] at hres
      obtain ⟨c0, hc0⟩ : ∃ c, decide (a.id = b.id) = c := ⟨_, rfl⟩
      have hi0 : decide ((a.id : Int) = (b.id : Int)) = c0 := by rw [← hc0]; congr 1; exact propext ⟨fun h => by omega, fun h => by omega⟩
      obtain ⟨c1, hc1⟩ : ∃ c, (a.name == b.name) = c := ⟨_, rfl⟩
      obtain ⟨c2, hc2⟩ : ∃ c, (a.ex == b.ex) = c := ⟨_, rfl⟩
      obtain ⟨c3, hc3⟩ : ∃ c, decide (a.pol = b.pol) = c := ⟨_, rfl⟩
      obtain ⟨c4, hc4⟩ : ∃ c, decide (a.gr = b.gr) = c := ⟨_, rfl⟩
      obtain ⟨c5, hc5⟩ : ∃ c, decide (a.lim = b.lim) = c := ⟨_, rfl⟩
      obtain ⟨c6, hc6⟩ : ∃ c, decide (a.ret = b.ret) = c := ⟨_, rfl⟩
      obtain ⟨c7, hc7⟩ : ∃ c, decide (a.tim = b.tim) = c := ⟨_, rfl⟩
      obtain ⟨c9, hc9⟩ : ∃ c, (a.pau == b.pau) = c := ⟨_, rfl⟩
      obtain ⟨c10, hc10⟩ : ∃ c, decide (a.ver = b.ver) = c := ⟨_, rfl⟩
      have hi10 : decide ((a.ver : Int) = (b.ver : Int)) = c10 := by rw [← hc10]; congr 1; exact propext ⟨fun h => by omega, fun h => by omega⟩
      obtain ⟨c11, hc11⟩ : ∃ c, decide (a.seen = b.seen) = c := ⟨_, rfl⟩
      rw [hc0, hc1, hc2, hc3, hc4, hc5, hc6, hc7, hc9, hc10, hc11] at hres
      subst hres
      simp -implicitDefEqProofs [r2, r3, kp, kq, hc0, hi0]
      cases c0 with
      | false =>
        simp -implicitDefEqProofs [kW]
      | true =>
        simp -implicitDefEqProofs [r2, r3, kp, kq, hc1]
        cases c1 with
        | false =>
          simp -implicitDefEqProofs [kW]
        | true =>
          simp -implicitDefEqProofs [r2, r3, kp, kq, hc2]
          cases c2 with
          | false =>
            simp -implicitDefEqProofs [kW]
          | true =>
            simp -implicitDefEqProofs [r2, r3, kp, kq, hc3]
            cases c3 with
            | false =>
              simp -implicitDefEqProofs [kW]
            | true =>
              simp -implicitDefEqProofs [r2, r3, kp, kq, hc4]
              cases c4 with
              | false =>
                simp -implicitDefEqProofs [kW]
              | true =>
                simp -implicitDefEqProofs [r2, r3, kp, kq, hc5]
                cases c5 with
                | false =>
                  simp -implicitDefEqProofs [kW]
                | true =>
                  simp -implicitDefEqProofs [r2, r3, kp, kq, hc6]
                  cases c6 with
                  | false =>
                    simp -implicitDefEqProofs [kW]
                  | true =>
                    simp -implicitDefEqProofs [r2, r3, kp, kq, hc7]
                    cases c7 with
                    | false =>
                      simp -implicitDefEqProofs [kW]
                    | true =>
                      simp -implicitDefEqProofs [r2, r3, kp, kq, hc9, ← ne_beq]
                      cases c9 with
                      | false =>
                        simp -implicitDefEqProofs [kW]
                      | true =>
                        simp -implicitDefEqProofs [r2, r3, kp, kq, hc10, hi10]
                        cases c10 with
                        | false =>
                          simp -implicitDefEqProofs [kW]
                        | true =>
                          simp -implicitDefEqProofs [r2, r3, kp, kq, hc11]
                          cases c11 with
                          | false =>
                            simp -implicitDefEqProofs [kW]
                          | true =>
                            simp -implicitDefEqProofs [kW]
  · have hlen' : ¬ (a.deps.length : Int) = (b.deps.length : Int) := by omega
    have := hno fun e => hlen (by rw [e])
    subst this
    simp -implicitDefEqProofs [kp, kq, hlen, hlen', kW]
end Go.Proofs.YtghlkjkdejebnaaGreatDoor
namespace Go.Proofs.YtghlkjkdejebnaaGreatDoor
open Rg Go
variable {H : Heap}
theorem HLe.hc {A B : Heap} (h : HLe A B) : HC A B := fun b cs e => by
  cases hb : A b with
  | none => rw [hb] at e; cases e
  | some o => rw [h b o hb]; rw [hb] at e; exact e
theorem c_ref14num {H0 K : Heap} {bs : List UInt8} {t : Rg.Tok} (hg : Gr 5 1 H0 (u8s bs) t K) (hl : bs.length ≤ 1000000) (n : Nat) (hn : n < 18446744073709551616) :
    ACalls Tryz.prog 101 [.sl (u8s bs) t, .sc (.int .u64 (n : Int))] K (fun v K' => ∃ t', v = .sl (u8s (bs ++ putB n)) t' ∧ Gr 5 1 H0 (u8s (bs ++ putB n)) t' K') := by
  generalize hR : (fun (v : AV) (K' : Heap) => ∃ t', v = .sl (u8s (bs ++ putB n)) t' ∧ Gr 5 1 H0 (u8s (bs ++ putB n)) t' K') = R
  refine ACalls.into Tryz.func101 rfl Tryz.ntmps101 Tryz.results101 (by simp) ?_
  simp -implicitDefEqProofs
  refine ACall.intro (c_ref1PutG n hn) ?_
  rintro v K1 ⟨t1, rfl, hg1⟩
  have hpl := putB_len n
  simp -implicitDefEqProofs
  refine AApp.gr el_28 hg hg1.le (szs_u8s _) (szs_u8s _) (by simp only [List.length_map]; omega) (by simp only [List.length_map, maxLen]; omega) fun t' K' Hn hg' hl' => ?_
  rw [← u8s_app] at hg' ⊢
  simp -implicitDefEqProofs
  subst hR
  exact AFin.intro _ _ (wk_refl _) hl'.wk ⟨t', by simp, hg'⟩
theorem c_ref14text {H0 K : Heap} {bs : List UInt8} {t : Rg.Tok} (hg : Gr 5 1 H0 (u8s bs) t K) (hl : bs.length ≤ 1000000) (s : List UInt8) (hs : s.length ≤ 4096) :
    ACalls Tryz.prog 100 [.sl (u8s bs) t, str s] K (fun v K' => ∃ t', v = .sl (u8s (bs ++ putTextB s)) t' ∧ Gr 5 1 H0 (u8s (bs ++ putTextB s)) t' K') := by
  generalize hR : (fun (v : AV) (K' : Heap) => ∃ t', v = .sl (u8s (bs ++ putTextB s)) t' ∧ Gr 5 1 H0 (u8s (bs ++ putTextB s)) t' K') = R
  refine ACalls.into Tryz.func100 rfl Tryz.ntmps100 Tryz.results100 (by simp) ?_
  simp -implicitDefEqProofs
  refine ACall.intro (c_ref1PutText s hs) ?_
  rintro v K1 ⟨t1, rfl, hg1⟩
  have hpl := putB_len s.length
  have hpt : (putTextB s).length = (putB s.length).length + s.length := by unfold putTextB; rw [List.length_append]
  simp -implicitDefEqProofs
  refine AApp.gr el_28 hg hg1.le (szs_u8s _) (szs_u8s _) (by simp only [List.length_map]; omega) (by simp only [List.length_map, maxLen]; omega) fun t' K' Hn hg' hl' => ?_
  rw [← u8s_app] at hg' ⊢
  simp -implicitDefEqProofs
  subst hR
  exact AFin.intro _ _ (wk_refl _) hl'.wk ⟨t', by simp, hg'⟩
set_option maxHeartbeats 4000000 in
theorem c_ref14PutOk (j : Jb) (t : Rg.Tok) (ho : JbOk j) (hm : mayJ j = 0) (hs : j.ex.length ≤ 4096) : AOk Tryz.prog 52 [jbAV j t] H (.tup [.sl (u8s (putJ j)) .no, .sc (.int .i64 0)]) H := by
  have M := JbMay.of hm
  refine ACalls.into Tryz.func52 rfl Tryz.ntmps52 Tryz.results52 (by simp) ?_
  simp -implicitDefEqProofs
  refine AAlloc.intro fun b1 h1 => ?_
  simp -implicitDefEqProofs
  generalize hK : Heap.set _ b1 _ = K0
  have k1 : K0 b1 = some (.cells (jbC j t) 25) := by rw [← hK]; simp [Heap.set]
  have kW : HLe H K0 := by rw [← hK]; exact HLe.set_fresh h1
  clear hK
  have hmay := c_ref14May (H := K0) j t (by omega)
  rw [hm] at hmay
  refine ACall.eq hmay ?_
  simp -implicitDefEqProofs [k1]
  have a1 := putB_len j.id
  have a2 : (putTextB j.name).length ≤ 10 + 32 := by
    have := putB_len j.name.length
    have := M.name
    unfold putTextB; rw [List.length_append]; omega
  have a3 : (putTextB j.ex).length ≤ 10 + 4096 := by
    have := putB_len j.ex.length
    unfold putTextB; rw [List.length_append]; omega
  refine go_draw3 [0, 1, 3, 4, 6, 7] K0 f_mixed (by decide +kernel) (HC.refl _) ?_
  simp -implicitDefEqProofs
  refine aq3_op ?_
  simp -implicitDefEqProofs [k1]
  refine aq3_op ?_
  simp -implicitDefEqProofs [k1]
  refine aq3_op ?_
  simp -implicitDefEqProofs [k1]
  refine aq3_op ?_
  simp -implicitDefEqProofs [k1]
  refine aq3_op ?_
  simp -implicitDefEqProofs [k1]
  refine aq3_op ?_
  simp -implicitDefEqProofs [k1]
  refine AWK.one 2 (by decide +kernel) ?_
  refine AWE.op rfl ?_
  simp -implicitDefEqProofs
  refine ⟨_, c_ref14num (bs := []) .nil (by simp) j.id ho.id, ?_⟩
  rintro v K1 ⟨t1, rfl, g1⟩
  refine ⟨HLe.hc g1.le, ?_⟩
  obtain ⟨q1, hq1⟩ : ∃ q, ([] : List UInt8) ++ putB j.id = q := ⟨_, rfl⟩
  have l1 : q1.length ≤ 10 := by rw [← hq1, List.length_append]; simp only [List.length_nil]; omega
  rw [hq1] at g1 ⊢
  refine AWK.one 5 (by decide +kernel) ?_
  refine AWE.op rfl ?_
  simp -implicitDefEqProofs
  refine ⟨_, c_ref14text g1 (by omega) j.name (by have := M.name; omega), ?_⟩
  rintro v K2 ⟨t2, rfl, g2⟩
  refine ⟨HLe.hc g2.le, ?_⟩
  obtain ⟨q2, hq2⟩ : ∃ q, q1 ++ putTextB j.name = q := ⟨_, rfl⟩
  have l2 : q2.length ≤ 52 := by rw [← hq2, List.length_append]; omega
  rw [hq2] at g2 ⊢
  refine AWK.one 8 (by decide +kernel) ?_
  refine AWE.op rfl ?_
  simp -implicitDefEqProofs
  refine ⟨_, c_ref14text g2 (by omega) j.ex hs, ?_⟩
  rintro v K3 ⟨t3, rfl, g3⟩
  refine ⟨HLe.hc g3.le, ?_⟩
  obtain ⟨q3, hq3⟩ : ∃ q, q2 ++ putTextB j.ex = q := ⟨_, rfl⟩
  have l3 : q3.length ≤ 4158 := by rw [← hq3, List.length_append]; omega
  rw [hq3] at g3 ⊢
  refine AWK.one 9 (by decide +kernel) ?_
  refine AWE.op rfl ?_
  simp -implicitDefEqProofs
  refine AWK.fin (by decide +kernel) ?_
  have k3 : K3 b1 = some (.cells (jbC j t) 25) := g3.le b1 _ k1
  have kW3 : HLe H K3 := kW.trans g3.le
  obtain ⟨x1, hx1⟩ : ∃ x, j.pol.toNat = x := ⟨_, rfl⟩
  have wx1 : IntKind.u64.wrap j.pol = (x1 : Int) := by have := M.pol; rw [wrap_u64 (by omega) (by omega)]; omega
  have ux1 : x1 < 18446744073709551616 := by have := M.pol; omega
  have px1 := putB_len x1
  obtain ⟨x2, hx2⟩ : ∃ x, j.gr.toNat = x := ⟨_, rfl⟩
  have wx2 : IntKind.u64.wrap j.gr = (x2 : Int) := by have := M.gr; rw [wrap_u64 (by omega) (by omega)]; omega
  have ux2 : x2 < 18446744073709551616 := by have := M.gr; omega
  have px2 := putB_len x2
  obtain ⟨x3, hx3⟩ : ∃ x, j.lim.toNat = x := ⟨_, rfl⟩
  have wx3 : IntKind.u64.wrap j.lim = (x3 : Int) := by have := M.lim; rw [wrap_u64 (by omega) (by omega)]; omega
  have ux3 : x3 < 18446744073709551616 := by have := M.lim; omega
  have px3 := putB_len x3
  obtain ⟨x4, hx4⟩ : ∃ x, j.ret.toNat = x := ⟨_, rfl⟩
  have wx4 : IntKind.u64.wrap j.ret = (x4 : Int) := by have := M.ret; rw [wrap_u64 (by omega) (by omega)]; omega
  have ux4 : x4 < 18446744073709551616 := by have := M.ret; omega
  have px4 := putB_len x4
  obtain ⟨x5, hx5⟩ : ∃ x, j.tim.toNat = x := ⟨_, rfl⟩
  have wx5 : IntKind.u64.wrap j.tim = (x5 : Int) := by have := M.tim; rw [wrap_u64 (by omega) (by omega)]; omega
  have ux5 : x5 < 18446744073709551616 := by have := M.tim; omega
  have px5 := putB_len x5
  simp -implicitDefEqProofs
  refine go_draw3 [0, 1, 2, 3, 5, 6, 7, 9, 10, 11, 13, 14, 15, 17, 18, 19] K0 f_mixed (by decide +kernel) (HLe.hc g3.le) ?_
  simp -implicitDefEqProofs
  refine aq3_op ?_
  simp -implicitDefEqProofs [k1, wx1, wx2, wx3, wx4, wx5]
  refine aq3_op ?_
  simp -implicitDefEqProofs [k1, wx1, wx2, wx3, wx4, wx5]
  refine aq3_op ?_
  simp -implicitDefEqProofs [k1, wx1, wx2, wx3, wx4, wx5]
  refine aq3_op ?_
  simp -implicitDefEqProofs [k1, wx1, wx2, wx3, wx4, wx5]
  refine aq3_op ?_
  simp -implicitDefEqProofs [k1, wx1, wx2, wx3, wx4, wx5]
  refine aq3_op ?_
  simp -implicitDefEqProofs [k1, wx1, wx2, wx3, wx4, wx5]
  refine aq3_op ?_
  simp -implicitDefEqProofs [k1, wx1, wx2, wx3, wx4, wx5]
  refine aq3_op ?_
  simp -implicitDefEqProofs [k1, wx1, wx2, wx3, wx4, wx5]
  refine aq3_op ?_
  simp -implicitDefEqProofs [k1, wx1, wx2, wx3, wx4, wx5]
  refine aq3_op ?_
  simp -implicitDefEqProofs [k1, wx1, wx2, wx3, wx4, wx5]
  refine aq3_op ?_
  simp -implicitDefEqProofs [k1, wx1, wx2, wx3, wx4, wx5]
  refine aq3_op ?_
  simp -implicitDefEqProofs [k1, wx1, wx2, wx3, wx4, wx5]
  refine aq3_op ?_
  simp -implicitDefEqProofs [k1, wx1, wx2, wx3, wx4, wx5]
  refine aq3_op ?_
  simp -implicitDefEqProofs [k1, wx1, wx2, wx3, wx4, wx5]
  refine aq3_op ?_
  simp -implicitDefEqProofs [k1, wx1, wx2, wx3, wx4, wx5]
  refine aq3_op ?_
  simp -implicitDefEqProofs [k1, wx1, wx2, wx3, wx4, wx5]
  refine AWK.one 4 (by decide +kernel) ?_
  refine AWE.op rfl ?_
  simp -implicitDefEqProofs
  refine ⟨_, c_ref14num g3 (by omega) x1 ux1, ?_⟩
  rintro v K4 ⟨t4, rfl, g4⟩
  refine ⟨HLe.hc g4.le, ?_⟩
  obtain ⟨q4, hq4⟩ : ∃ q, q3 ++ putB x1 = q := ⟨_, rfl⟩
  have l4 : q4.length ≤ 4168 := by rw [← hq4, List.length_append]; omega
  rw [hq4] at g4 ⊢
  refine AWK.one 8 (by decide +kernel) ?_
  refine AWE.op rfl ?_
  simp -implicitDefEqProofs
  refine ⟨_, c_ref14num g4 (by omega) x2 ux2, ?_⟩
  rintro v K5 ⟨t5, rfl, g5⟩
  refine ⟨HLe.hc g5.le, ?_⟩
  obtain ⟨q5, hq5⟩ : ∃ q, q4 ++ putB x2 = q := ⟨_, rfl⟩
  have l5 : q5.length ≤ 4178 := by rw [← hq5, List.length_append]; omega
  rw [hq5] at g5 ⊢
  refine AWK.one 12 (by decide +kernel) ?_
  refine AWE.op rfl ?_
  simp -implicitDefEqProofs
  refine ⟨_, c_ref14num g5 (by omega) x3 ux3, ?_⟩
  rintro v K6 ⟨t6, rfl, g6⟩
  refine ⟨HLe.hc g6.le, ?_⟩
  obtain ⟨q6, hq6⟩ : ∃ q, q5 ++ putB x3 = q := ⟨_, rfl⟩
  have l6 : q6.length ≤ 4188 := by rw [← hq6, List.length_append]; omega
  rw [hq6] at g6 ⊢
  refine AWK.one 16 (by decide +kernel) ?_
  refine AWE.op rfl ?_
  simp -implicitDefEqProofs
  refine ⟨_, c_ref14num g6 (by omega) x4 ux4, ?_⟩
  rintro v K7 ⟨t7, rfl, g7⟩
  refine ⟨HLe.hc g7.le, ?_⟩
  obtain ⟨q7, hq7⟩ : ∃ q, q6 ++ putB x4 = q := ⟨_, rfl⟩
  have l7 : q7.length ≤ 4198 := by rw [← hq7, List.length_append]; omega
  rw [hq7] at g7 ⊢
  refine AWK.one 20 (by decide +kernel) ?_
  refine AWE.op rfl ?_
  simp -implicitDefEqProofs
  refine ⟨_, c_ref14num g7 (by omega) x5 ux5, ?_⟩
  rintro v K8 ⟨t8, rfl, g8⟩
  refine ⟨HLe.hc g8.le, ?_⟩
  obtain ⟨q8, hq8⟩ : ∃ q, q7 ++ putB x5 = q := ⟨_, rfl⟩
  have l8 : q8.length ≤ 4208 := by rw [← hq8, List.length_append]; omega
  rw [hq8] at g8 ⊢
  refine AWK.one 21 (by decide +kernel) ?_
  refine AWE.op rfl ?_
  simp -implicitDefEqProofs
  refine AWK.fin (by decide +kernel) ?_
  have k8 : K8 b1 = some (.cells (jbC j t) 25) := g8.le b1 _ k1
  have hdl : IntKind.u64.wrap (j.deps.length : Int) = (j.deps.length : Int) := by have := M.deps; exact wrap_u64 (by omega) (by omega)
  simp -implicitDefEqProofs [k8, hdl]
  refine ACall.intro (c_ref14num g8 (by omega) j.deps.length (by have := M.deps; omega)) ?_
  rintro v K9 ⟨t9, rfl, g9⟩
  have p9 := putB_len j.deps.length
  obtain ⟨q9, hq9⟩ : ∃ q, q8 ++ putB j.deps.length = q := ⟨_, rfl⟩
  have l9 : q9.length ≤ 4300 := by rw [← hq9, List.length_append]; omega
  rw [hq9] at g9 ⊢
  simp -implicitDefEqProofs
  have hcap := M.deps
  refine AGo.joinLoop (fun ρ K => ∃ t', ρ 1 = .sc (.pointer (some ⟨b1, 0, none⟩)) ∧ ρ 5 = .sl (u8s (q9 ++ numsB j.deps)) t' ∧ Gr 5 1 K0 (u8s (q9 ++ numsB j.deps)) t' K) (fun k' hk => ?_) ?_
  · refine AGo.rounds (fun m ρ K => ∃ i q' t', m = j.deps.length - i ∧ i ≤ j.deps.length ∧ q9 ++ numsB (j.deps.take i) = q' ∧ ρ 6 = .sc (.int .i64 (i : Int)) ∧ ρ 1 = .sc (.pointer (some ⟨b1, 0, none⟩)) ∧ ρ 5 = .sl (u8s q') t' ∧ Gr 5 1 K0 (u8s q') t' K) ?_ (m := j.deps.length) (HLe.refl _)
      ⟨0, q9, t9, rfl, by omega, by simp [numsB], by simp, by simp, by simp, g9⟩
    rintro m ρ K ih ⟨i, q', t', rfl, hi, hq', r6, r1, r5, g⟩
    have kk : K b1 = some (.cells (jbC j t) 25) := g.le b1 _ k1
    by_cases hlt : i < j.deps.length
    · have hlt' : (i : Int) < (j.deps.length : Int) := by omega
      obtain ⟨n, hnj, hn⟩ := getAt hlt
      have hw1 : IntKind.i64.wrap ((i : Int) + 1) = (i : Int) + 1 := wrap_i64 (by omega) (by omega)
      have hn64 := ho.deps n (List.mem_of_getElem? hn)
      have hnl := numsB_len (j.deps.take i)
      rw [List.length_take] at hnl
      have hql : q'.length ≤ 5000 := by rw [← hq', List.length_append]; omega
      simp -implicitDefEqProofs [r6, r1, r5, kk, hlt, hlt', hnj]
      refine ACall.intro (c_ref14num g (by omega) n hn64) ?_
      rintro v K' ⟨t2, rfl, g2⟩
      obtain ⟨q2, hq2⟩ : ∃ q, q' ++ putB n = q := ⟨_, rfl⟩
      rw [hq2] at g2 ⊢
      simp -implicitDefEqProofs [r6, r1, r5, hw1]
      exact AGo.again ih (m' := j.deps.length - (i + 1)) (by omega) (HLe.refl _) ⟨i + 1, q2, t2, rfl, by omega, by rw [numsB_take hn, ← List.append_assoc, hq', hq2], by simp, by simp [r1], by simp, g2⟩
    · have hn' : ¬ (i : Int) < (j.deps.length : Int) := by omega
      simp -implicitDefEqProofs [r6, r1, r5, kk, hlt, hn']
      rw [List.take_of_length_le (by omega)] at hq'
      exact hk _ _ ⟨t', by simp [r1], by simp [r5, hq'], by rw [hq']; exact g⟩
  · rintro ρ K ⟨t', r1, r5, g⟩
    have hnl := numsB_len j.deps
    obtain ⟨qd, hqd⟩ : ∃ q, q9 ++ numsB j.deps = q := ⟨_, rfl⟩
    have ld : qd.length ≤ 4400 := by rw [← hqd, List.length_append]; omega
    rw [hqd] at g r5
    have kd : K b1 = some (.cells (jbC j t) 25) := g.le b1 _ k1
    obtain ⟨pn, hpn⟩ : ∃ pn : UInt8, (if j.pau then 1 else 0) = pn := ⟨_, rfl⟩
    simp -implicitDefEqProofs [r1, r5, kd]
    refine ABr.join (fun ρ K => ∃ t', ρ 1 = .sc (.pointer (some ⟨b1, 0, none⟩)) ∧ ρ 5 = .sl (u8s (qd ++ [pn])) t' ∧ Gr 5 1 K0 (u8s (qd ++ [pn])) t' K) (fun k' hk => ?_) ?_
    · cases hpau : j.pau with
      | true =>
        rw [hpau] at hpn
        simp only [if_true, if_false, Bool.false_eq_true] at hpn
        subst hpn
        simp -implicitDefEqProofs [r1, r5]
        refine AApp.grE el_28 (ys := [.sc (.int .u8 1)]) g (szs_u8s _) (by simp [szs, AV.cells]) (by simp only [List.length_map, List.length_cons, List.length_nil]; omega) (by simp only [List.length_map, List.length_cons, List.length_nil, maxLen]; omega) fun t2 Hn g2 => ?_
        have e : u8s qd ++ [.sc (.int .u8 1)] = u8s (qd ++ [1]) := by simp
        rw [e] at g2 ⊢
        simp -implicitDefEqProofs [r1]
        exact hk _ _ ⟨t2, by simp [r1], by simp, g2⟩
      | false =>
        rw [hpau] at hpn
        simp only [if_true, if_false, Bool.false_eq_true] at hpn
        subst hpn
        simp -implicitDefEqProofs [r1, r5]
        refine AApp.grE el_28 (ys := [.sc (.int .u8 0)]) g (szs_u8s _) (by simp [szs, AV.cells]) (by simp only [List.length_map, List.length_cons, List.length_nil]; omega) (by simp only [List.length_map, List.length_cons, List.length_nil, maxLen]; omega) fun t2 Hn g2 => ?_
        have e : u8s qd ++ [.sc (.int .u8 0)] = u8s (qd ++ [0]) := by simp
        rw [e] at g2 ⊢
        simp -implicitDefEqProofs [r1]
        exact hk _ _ ⟨t2, by simp [r1], by simp, g2⟩
    · rintro ρ K ⟨te, r1, r5, g⟩
      have ve : j.ver < 18446744073709551616 := ho.ver
      have le1 : (qd ++ [pn]).length ≤ 4401 := by rw [List.length_append]; simp only [List.length_cons, List.length_nil]; omega
      obtain ⟨qe, hqe⟩ : ∃ q, qd ++ [pn] = q := ⟨_, rfl⟩
      rw [hqe] at g r5 le1
      have pv := putB_len j.ver
      have pz := putB_len (zig j.seen)
      simp -implicitDefEqProofs [r1, r5]
      refine go_draw3 [0, 1, 2, 4, 5] K0 f_mixed (by decide +kernel) (HLe.hc g.le) ?_
      simp -implicitDefEqProofs
      refine aq3_op ?_
      simp -implicitDefEqProofs [r1, r5, k1]
      refine aq3_op ?_
      simp -implicitDefEqProofs [r1, r5, k1]
      refine aq3_op ?_
      simp -implicitDefEqProofs [r1, r5, k1]
      refine aq3_op ?_
      simp -implicitDefEqProofs [r1, r5, k1]
      refine aq3_op ?_
      simp -implicitDefEqProofs [r1, r5, k1]
      refine AWK.one 3 (by decide +kernel) ?_
      refine AWE.op rfl ?_
      simp -implicitDefEqProofs
      refine ⟨_, c_ref14num g (by omega) j.ver ve, ?_⟩
      rintro v Kv ⟨tv, rfl, gv⟩
      refine ⟨HLe.hc gv.le, ?_⟩
      obtain ⟨qv, hqv⟩ : ∃ q, qe ++ putB j.ver = q := ⟨_, rfl⟩
      have lv : qv.length ≤ 4411 := by rw [← hqv, List.length_append]; omega
      rw [hqv] at gv ⊢
      refine AWK.one 6 (by decide +kernel) ?_
      refine AWE.op rfl ?_
      simp -implicitDefEqProofs
      refine ⟨_, c_ref1PutInt j.seen (by have := M.seen; omega) (by have := M.seen; omega), ?_⟩
      rintro v Ki ⟨ti, rfl, gi⟩
      refine ⟨HLe.hc (gv.le.trans gi.le), ?_⟩
      refine AWK.one 7 (by decide +kernel) ?_
      refine AWE.op rfl ?_
      simp -implicitDefEqProofs
      refine AWS.gr el_28 gv gi.le (szs_u8s _) (szs_u8s _) (by simp only [List.length_map]; omega) (by simp only [List.length_map, maxLen]; omega) fun t2 K2 Hn g2 hl2 => ?_
      have hfin : qv ++ putB (zig j.seen) = putJ j := by
        rw [← hqv, ← hqe, ← hqd, ← hq9, ← hq8, ← hq7, ← hq6, ← hq5, ← hq4, ← hq3, ← hq2, ← hq1, ← hx1, ← hx2, ← hx3, ← hx4, ← hx5, ← hpn]
        have e1 : putB 1 = [1] := by decide
        have e0 : putB 0 = [0] := by decide
        unfold putJ
        cases j.pau
        · simp [numsB, e0]
        · simp [numsB, e1]
      rw [← u8s_app, hfin] at g2 ⊢
      refine AWK.one 8 (by decide +kernel) ?_
      refine AWE.op rfl ?_
      simp -implicitDefEqProofs
      refine AWK.one 9 (by decide +kernel) ?_
      refine AWE.op rfl ?_
      simp -implicitDefEqProofs
      refine AWK.fin (by decide +kernel) ?_
      simp -implicitDefEqProofs
      exact (kW.trans (g2.le.trans hl2)).wk
theorem c_ref14PutNo (j : Jb) (t : Rg.Tok) (hm : mayJ j ≠ 0) (hs : j.ex.length ≤ 9223372036854775807) : AOk Tryz.prog 52 [jbAV j t] H (.tup [.sl [] .nil, .sc (.int .i64 (mayJ j))]) H := by
  refine ACalls.into Tryz.func52 rfl Tryz.ntmps52 Tryz.results52 (by simp) ?_
  simp -implicitDefEqProofs
  refine AAlloc.intro fun b1 h1 => ?_
  simp -implicitDefEqProofs
  generalize hK : Heap.set _ b1 _ = K0
  have kW : HLe H K0 := by rw [← hK]; exact HLe.set_fresh h1
  have hmay := c_ref14May (H := K0) j t hs
  refine ACall.eq hmay ?_
  simp -implicitDefEqProofs [hm]
  exact kW.wk
end Go.Proofs.YtghlkjkdejebnaaGreatDoor
namespace Go.Proofs.YtghlkjkdejebnaaGreatDoor
open Rg Go
variable {H : Heap}
abbrev cmC (c : Cm) (t : Rg.Tok) : List AV := .sc (.int .i64 c.kind) :: .sc (.int .u64 (c.cl : Nat)) :: .sc (.int .u64 (c.sq : Nat)) :: .sc (.int .u64 (c.id : Nat)) :: .sc (.int .i64 c.at_) :: .sc (.int .u64 (c.tk : Nat)) :: .sc (.int .u64 (c.wk : Nat)) :: jbC c.job t
abbrev cmAV (c : Cm) (t : Rg.Tok) : AV := .agg (cmC c t)
end Go.Proofs.YtghlkjkdejebnaaGreatDoor
namespace Go.Proofs.YtghlkjkdejebnaaGreatDoor
open Rg Go
variable {H : Heap}
theorem putJ_len {j : Jb} (ho : JbOk j) (hm : mayJ j = 0) (hs : j.ex.length ≤ 4096) : (putJ j).length ≤ 4500 := by
  have M := JbMay.of hm
  have := M.name
  have := M.deps
  have a1 := numsB_len [j.id]
  have a2 := putB_len j.name.length
  have a3 := putB_len j.ex.length
  have a4 := numsB_len [j.pol.toNat, j.gr.toNat, j.lim.toNat, j.ret.toNat, j.tim.toNat, j.deps.length]
  have a5 := numsB_len j.deps
  have a6 := numsB_len [if j.pau then 1 else 0, j.ver]
  have a7 := putB_len (zig j.seen)
  simp only [putJ, putTextB, List.length_append, List.length_cons, List.length_nil] at *
  omega
end Go.Proofs.YtghlkjkdejebnaaGreatDoor
namespace Go.Proofs.YtghlkjkdejebnaaGreatDoor
open Rg Go
variable {H : Heap}
theorem numC_le (b : List UInt8) (m : Nat) (s : Nat × Bool) (h : s.1 ≤ b.length) : (numC b m s).2.1 ≤ b.length := by
  have := takeK_le b s.1 h
  unfold numC
  simp only
  omega
end Go.Proofs.YtghlkjkdejebnaaGreatDoor
namespace Go.Proofs.YtghlkjkdejebnaaGreatDoor
open Rg Go
variable {H : Heap}
structure QInv (H : Heap) (b : List UInt8) (t : Rg.Tok) (p pc pr : Nat) (s : Nat × Bool) (c : Cm) (K : Heap) : Prop where
  tk : K p = some (tkO b t s)
  cc : K pc = some (.cells (cmC c .nil) 27)
  rr : K pr = some (.cells (cmC cm0 .nil) 27)
  L : HLe H K
  p0 : H p = none
  c0 : H pc = none
  r0 : H pr = none
  n1 : p ≠ pc
  n2 : p ≠ pr
  n3 : pc ≠ pr
  le : s.1 ≤ b.length
section
variable {b : List UInt8} {t : Rg.Tok} {p pc pr : Nat} {s : Nat × Bool} {c : Cm} {K : Heap}
theorem QInv.upd (h : QInv H b t p pc pr s c K) {s' : Nat × Bool} (hs : s'.1 ≤ b.length) : QInv H b t p pc pr s' c (K.set p (tkO b t s')) :=
  ⟨by simp [Heap.set], by simp [Heap.set, Ne.symm h.n1, h.cc], by simp [Heap.set, Ne.symm h.n2, h.rr], HLe.set_new h.L h.p0, h.p0, h.c0, h.r0, h.n1, h.n2, h.n3, hs⟩
theorem QInv.put (h : QInv H b t p pc pr s c K) {c' : Cm} : QInv H b t p pc pr s c' (K.set pc (.cells (cmC c' .nil) 27)) :=
  ⟨by simp [Heap.set, h.n1, h.tk], by simp [Heap.set], by simp [Heap.set, Ne.symm h.n3, h.rr], HLe.set_new h.L h.c0, h.p0, h.c0, h.r0, h.n1, h.n2, h.n3, h.le⟩
end
end Go.Proofs.YtghlkjkdejebnaaGreatDoor
namespace Go.Proofs.YtghlkjkdejebnaaGreatDoor
open Rg Go
variable {H : Heap}
end Go.Proofs.YtghlkjkdejebnaaGreatDoor
namespace Go.Proofs.YtghlkjkdejebnaaGreatDoor
open Rg Go
variable {H : Heap}
theorem AOk.wk {P : Program} {f : FuncId} {args : List AV} {v v' : AV} {K : Heap} (h : AOk P f args H v K) (hw : wk v v') : AOk P f args H v' K :=
  ACalls.weaken (h.mono fun r K' ⟨h1, h2⟩ => ⟨v', K, by rw [h1]; exact hw, by rw [h2]; exact HWk.refl _, rfl, rfl⟩)
end Go.Proofs.YtghlkjkdejebnaaGreatDoor
namespace Go.Proofs.YtghlkjkdejebnaaGreatDoor
open Rg Go
variable {H : Heap}
theorem numsB_mapTake {L : List Int} {i : Nat} {n : Int} (h : L[i]? = some n) : numsB ((L.take (i + 1)).map zig) = numsB ((L.take i).map zig) ++ putB (zig n) := by
  rw [List.map_take, List.map_take]
  exact numsB_take (by rw [List.getElem?_map, h]; rfl)
set_option maxHeartbeats 1000000 in
theorem c_wNum {H0 K : Heap} {c : Nat} {bs : List UInt8} (hB : BufAt 5 96 H0 c (u8s bs) K) (L : List Nat) (t : Rg.Tok) (hL : L.length ≤ 1000) (hbs : bs.length ≤ 900000) (h64 : ∀ n ∈ L, n < 18446744073709551616) :
    ACalls Tryz.prog 64 [.sc (.pointer (some ⟨c, 0, none⟩)), .sl (L.map (fun n : Nat => (.sc (.int .u64 (n : Int)) : AV))) t] K (fun v K' => v = .tup [] ∧ BufAt 5 96 H0 c (u8s (bs ++ numsB L)) K') := by
  generalize hR : (fun (v : AV) (K' : Heap) => v = .tup [] ∧ BufAt 5 96 H0 c (u8s (bs ++ numsB L)) K') = R
  refine ACalls.into Tryz.func64 rfl Tryz.ntmps64 Tryz.results64 (by simp) ?_
  simp -implicitDefEqProofs
  refine AGo.rounds (fun m ρ K2 => ∃ i q, m = L.length - i ∧ i ≤ L.length ∧ bs ++ numsB (L.take i) = q ∧ ρ 8 = .sc (.int .i64 (i : Int)) ∧ ρ 0 = .sc (.pointer (some ⟨c, 0, none⟩)) ∧ ρ 6 = .sl (L.map (fun n : Nat => (.sc (.int .u64 (n : Int)) : AV))) t ∧ ρ 7 = .sc (.int .i64 (L.length : Int)) ∧ BufAt 5 96 H0 c (u8s q) K2) ?_ (m := L.length) (HLe.refl _)
    ⟨0, bs, rfl, by omega, by simp [numsB], by simp, by simp, by simp, by simp, hB⟩
  rintro m ρ K2 ih ⟨i, q, rfl, hi, hq, r8, r0, r6, r7, hb⟩
  rcases Nat.lt_or_ge i L.length with hlt | hge
  · obtain ⟨n, hej, hn⟩ := getAt hlt
    have hlt' : (i : Int) < (L.length : Int) := by omega
    have hw1 : IntKind.i64.wrap ((i : Int) + 1) = (i : Int) + 1 := wrap_i64 (by omega) (by omega)
    have hn64 := h64 n (List.mem_of_getElem? hn)
    have hpl := putB_len n
    have hnl := numsB_len (L.take i)
    rw [List.length_take] at hnl
    have hql : q.length ≤ 910000 := by rw [← hq, List.length_append]; omega
    have hq' : bs ++ numsB (L.take (i + 1)) = q ++ putB n := by
      rw [← hq, List.append_assoc]
      congr 1
      exact numsB_take hn
    obtain ⟨t1, G0, G, hc, hg, hl, hl0, hc0⟩ := hb.grows
    simp -implicitDefEqProofs [r8, r0, r6, r7, hlt, hlt', hej]
    refine go_draw3 [0, 1, 2, 3, 5, 6] (fun _ => none) f_mixed (by decide +kernel) HC.nothing ?_
    simp -implicitDefEqProofs
    refine aq3_op ?_
    simp -implicitDefEqProofs [r0]
    refine aq3_op ?_
    simp -implicitDefEqProofs [r0]
    refine aq3_op ?_
    simp -implicitDefEqProofs [r0]
    refine aq3_op ?_
    simp -implicitDefEqProofs [r0]
    refine aq3_op ?_
    simp -implicitDefEqProofs
    refine aq3_op ?_
    simp -implicitDefEqProofs
    refine ⟨_, fun H' _ => c_packPut n hn64, ?_⟩
    simp -implicitDefEqProofs
    refine AWK.one 4 (by decide +kernel) ?_
    refine AWE.op rfl ?_
    simp -implicitDefEqProofs [r0, hc]
    refine AWK.one 7 (by decide +kernel) ?_
    refine AWE.op rfl ?_
    simp -implicitDefEqProofs
    refine AWS.grows0 el_28 hg hl (szs_u8s _) (szs_u8s _) (by simp; omega) (by simp [maxLen]; omega) fun t' K' Hn hg' hl' _ => ?_
    have hcn : Hn c = some (.cells [.sl (u8s q) t1] 96) := hl' c _ (hg'.le c _ hc0)
    rw [← u8s_app] at hg' ⊢
    obtain ⟨q2, hq2⟩ : ∃ q2, q ++ putB n = q2 := ⟨_, rfl⟩
    rw [hq2] at hg' hq' ⊢
    refine AWK.one 8 (by decide +kernel) ?_
    refine AWE.op rfl ?_
    simp -implicitDefEqProofs
    refine AWK.one 9 (by decide +kernel) ?_
    refine AWE.op rfl ?_
    simp -implicitDefEqProofs
    refine AWK.one 10 (by decide +kernel) ?_
    refine AWE.op rfl ?_
    simp -implicitDefEqProofs [r0, hcn]
    refine AWS.store hcn (fun _ _ h => by cases h) ?_
    refine AWK.fin (by decide +kernel) ?_
    simp -implicitDefEqProofs [r8, hw1]
    exact AGo.again ih (m' := L.length - (i + 1)) (by omega) (HLe.refl _) ⟨i + 1, q2, rfl, by omega, hq', by simp, by simp [r0], by simp [r6], by simp [r7], BufAt.stored hl0 hb.no hc0 hg' hl'⟩
  · have hn : ¬ (i : Int) < (L.length : Int) := by omega
    have hn' : ¬ i < L.length := by omega
    simp -implicitDefEqProofs [r8, r0, r6, r7, hn, hn']
    rw [List.take_of_length_le hge] at hq
    subst hR
    exact AFin.intro _ _ (wk_refl _) (HWk.refl _) ⟨rfl, by rw [hq]; exact hb⟩
set_option maxHeartbeats 1000000 in
theorem c_wWhole {H0 K : Heap} {c : Nat} {bs : List UInt8} (hB : BufAt 5 96 H0 c (u8s bs) K) (L : List Int) (t : Rg.Tok) (hL : L.length ≤ 1000) (hbs : bs.length ≤ 900000) (h64 : ∀ n ∈ L, -9223372036854775808 ≤ n ∧ n ≤ 9223372036854775807) :
    ACalls Tryz.prog 63 [.sc (.pointer (some ⟨c, 0, none⟩)), .sl (L.map (fun n : Int => (.sc (.int .i64 n) : AV))) t] K (fun v K' => v = .tup [] ∧ BufAt 5 96 H0 c (u8s (bs ++ numsB (L.map zig))) K') := by
  generalize hR : (fun (v : AV) (K' : Heap) => v = .tup [] ∧ BufAt 5 96 H0 c (u8s (bs ++ numsB (L.map zig))) K') = R
  refine ACalls.into Tryz.func63 rfl Tryz.ntmps63 Tryz.results63 (by simp) ?_
  simp -implicitDefEqProofs
  refine AGo.rounds (fun m ρ K2 => ∃ i q, m = L.length - i ∧ i ≤ L.length ∧ bs ++ numsB ((L.take i).map zig) = q ∧ ρ 8 = .sc (.int .i64 (i : Int)) ∧ ρ 0 = .sc (.pointer (some ⟨c, 0, none⟩)) ∧ ρ 6 = .sl (L.map (fun n : Int => (.sc (.int .i64 n) : AV))) t ∧ ρ 7 = .sc (.int .i64 (L.length : Int)) ∧ BufAt 5 96 H0 c (u8s q) K2) ?_ (m := L.length) (HLe.refl _)
    ⟨0, bs, rfl, by omega, by simp [numsB], by simp, by simp, by simp, by simp, hB⟩
  rintro m ρ K2 ih ⟨i, q, rfl, hi, hq, r8, r0, r6, r7, hb⟩
  rcases Nat.lt_or_ge i L.length with hlt | hge
  · obtain ⟨n, hej, hn⟩ := getAt hlt
    have hlt' : (i : Int) < (L.length : Int) := by omega
    have hw1 : IntKind.i64.wrap ((i : Int) + 1) = (i : Int) + 1 := wrap_i64 (by omega) (by omega)
    have hn64 := h64 n (List.mem_of_getElem? hn)
    have hpl := putB_len (zig n)
    have hnl := numsB_len ((L.take i).map zig)
    rw [List.length_map, List.length_take] at hnl
    have hql : q.length ≤ 910000 := by rw [← hq, List.length_append]; omega
    have hq' : bs ++ numsB ((L.take (i + 1)).map zig) = q ++ putB (zig n) := by
      rw [← hq, List.append_assoc]
      congr 1
      exact numsB_mapTake hn
    obtain ⟨t1, G0, G, hc, hg, hl, hl0, hc0⟩ := hb.grows
    simp -implicitDefEqProofs [r8, r0, r6, r7, hlt, hlt', hej]
    refine go_draw3 [0, 1, 2, 3, 5, 6] (fun _ => none) f_mixed (by decide +kernel) HC.nothing ?_
    simp -implicitDefEqProofs
    refine aq3_op ?_
    simp -implicitDefEqProofs [r0]
    refine aq3_op ?_
    simp -implicitDefEqProofs [r0]
    refine aq3_op ?_
    simp -implicitDefEqProofs [r0]
    refine aq3_op ?_
    simp -implicitDefEqProofs [r0]
    refine aq3_op ?_
    simp -implicitDefEqProofs
    refine aq3_op ?_
    simp -implicitDefEqProofs
    refine ⟨_, fun H' _ => c_putInt n hn64.1 hn64.2, ?_⟩
    simp -implicitDefEqProofs
    refine AWK.one 4 (by decide +kernel) ?_
    refine AWE.op rfl ?_
    simp -implicitDefEqProofs [r0, hc]
    refine AWK.one 7 (by decide +kernel) ?_
    refine AWE.op rfl ?_
    simp -implicitDefEqProofs
    refine AWS.grows0 el_28 hg hl (szs_u8s _) (szs_u8s _) (by simp; omega) (by simp [maxLen]; omega) fun t' K' Hn hg' hl' _ => ?_
    have hcn : Hn c = some (.cells [.sl (u8s q) t1] 96) := hl' c _ (hg'.le c _ hc0)
    rw [← u8s_app] at hg' ⊢
    obtain ⟨q2, hq2⟩ : ∃ q2, q ++ putB (zig n) = q2 := ⟨_, rfl⟩
    rw [hq2] at hg' hq' ⊢
    refine AWK.one 8 (by decide +kernel) ?_
    refine AWE.op rfl ?_
    simp -implicitDefEqProofs
    refine AWK.one 9 (by decide +kernel) ?_
    refine AWE.op rfl ?_
    simp -implicitDefEqProofs
    refine AWK.one 10 (by decide +kernel) ?_
    refine AWE.op rfl ?_
    simp -implicitDefEqProofs [r0, hcn]
    refine AWS.store hcn (fun _ _ h => by cases h) ?_
    refine AWK.fin (by decide +kernel) ?_
    simp -implicitDefEqProofs [r8, hw1]
    exact AGo.again ih (m' := L.length - (i + 1)) (by omega) (HLe.refl _) ⟨i + 1, q2, rfl, by omega, hq', by simp, by simp [r0], by simp [r6], by simp [r7], BufAt.stored hl0 hb.no hc0 hg' hl'⟩
  · have hn : ¬ (i : Int) < (L.length : Int) := by omega
    have hn' : ¬ i < L.length := by omega
    simp -implicitDefEqProofs [r8, r0, r6, r7, hn, hn']
    rw [List.take_of_length_le hge] at hq
    subst hR
    exact AFin.intro _ _ (wk_refl _) (HWk.refl _) ⟨rfl, by rw [hq]; exact hb⟩
theorem BufAt.box {e T : TypeId} {H0 K : Heap} {c b : Nat} {xs : List AV} {o : AObj} (h : BufAt e T H0 c xs K) (hb : K b = none) : BufAt e T (H0.set b o) c xs (K.set b o) := by
  obtain ⟨t, h1, h2⟩ := h.row
  have hcb : c ≠ b := by rintro rfl; rw [hb] at h1; cases h1
  refine ⟨HLe.set_mono h.le, by simp [Heap.set, hcb, h.no], t, by simp [Heap.set, hcb, h1], h2.imp id ?_⟩
  rintro ⟨g, cap, g1, g2, g3, g4⟩
  have hgb : g ≠ b := by rintro rfl; rw [hb] at g4; cases g4
  exact ⟨g, cap, g1, by simp [Heap.set, hgb, g2], g3, by simp [Heap.set, hgb, g4]⟩
theorem BufAt.unbox {e T : TypeId} {H0 K : Heap} {c b : Nat} {xs : List AV} {o : AObj} (h : BufAt e T (H0.set b o) c xs K) (hb : H0 b = none) : BufAt e T H0 c xs K := by
  obtain ⟨t, h1, h2⟩ := h.row
  have low : ∀ q, (H0.set b o) q = none → H0 q = none := fun q hq => by
    by_cases hqb : q = b
    · subst hqb; exact hb
    · simpa [Heap.set, hqb] using hq
  refine ⟨(HLe.set_fresh hb).trans h.le, low _ h.no, t, h1, h2.imp id ?_⟩
  rintro ⟨g, cap, g1, g2, g3, g4⟩
  exact ⟨g, cap, g1, low _ g2, g3, g4⟩
theorem BufAt.new {e T : TypeId} {H0 K : Heap} {c b : Nat} {xs : List AV} {o : AObj} (h : BufAt e T H0 c xs K) (hb : K b = none) : BufAt e T H0 c xs (K.set b o) := (h.box hb).unbox (h.le.none hb)
end Go.Proofs.YtghlkjkdejebnaaGreatDoor
