/- Commands as bytes: what cmd.Put and the document's Put give. Commands as bytes: the document's Put; what is parsed. Commands as bytes: what the document's Parse gives. -/
import Derived.Test.YtghlkjkdejebnaaGreatDoorP21
set_option linter.unusedSimpArgs false
set_option linter.unusedVariables false
set_option linter.unnecessarySimpa false
namespace Go.Proofs.YtghlkjkdejebnaaGreatDoor
open Rg Go
variable {H : Heap}
theorem head_lt {c : Cm} (ho : CmOk c) (M : MM c) : ∀ n ∈ headC c, n < 18446744073709551616 := by
  intro n hn
  have := M.kind
  have := M.at_
  simp only [headC, List.mem_cons, List.not_mem_nil, or_false] at hn
  rcases hn with rfl | rfl | rfl | rfl | rfl | rfl | rfl
  · omega
  · exact ho.cl
  · exact ho.sq
  · exact ho.id
  · omega
  · exact ho.tk
  · exact ho.wk
theorem putJ_len {j : Jb} (ho : JbOk j) (hm : mayJ j = 0) (hs : j.ex.length ≤ 4096) : (putJ j).length ≤ 4500 := by
  have M := JbMay.of hm
  have := M.name
  have := M.deps
  have a1 := numsB_len [j.id]
  have a2 := putB_len j.name.length
  have a3 := putB_len j.ex.length
  have a4 := numsB_len [j.pol.toNat, j.gr.toNat, j.lim.toNat, j.ret.toNat, j.tim.toNat, j.deps.length]
  have a5 := numsB_len j.deps
  have a6 := numsB_len [if j.pau then 1 else 0, j.ver]
  have a7 := putB_len (zig j.seen)
  simp only [putJ, putTextB, List.length_append, List.length_cons, List.length_nil] at *
  omega
set_option maxHeartbeats 2000000 in
theorem c_cmdPutOk (hG : Glob H) (c : Cm) (t : Rg.Tok) (ho : CmOk c) (hm : mayM c = 0) (hs : c.job.ex.length ≤ 4096) : AOk Tryz.prog 10 [cmAV c t] H (.tup [.sl (u8s (putC c)) .no, .sc (.int .i64 0)]) H := by
  have M := MM.of hm
  refine ACalls.into Tryz.func10 rfl Tryz.ntmps10 Tryz.results10 (by simp) ?_
  simp -implicitDefEqProofs
  refine AAlloc.intro fun b1 h1 => ?_
  simp -implicitDefEqProofs
  generalize hK : Heap.set _ b1 _ = K0
  have k1 : K0 b1 = some (.cells (cmC c t) 27) := by rw [← hK]; simp [Heap.set]
  have kG : Glob K0 := by rw [← hK]; exact hG.new h1
  have kW : HLe H K0 := by rw [← hK]; exact HLe.set_fresh h1
  clear hK
  have hmay := c_cmdMay kG c t (by omega)
  rw [hm] at hmay
  refine ACall.eq hmay ?_
  have hlt := head_lt ho M
  have wk1 : IntKind.u64.wrap c.kind = ((c.kind.toNat : Nat) : Int) := by have := M.kind; rw [wrap_u64 (by omega) (by omega)]; omega
  have wk5 : IntKind.u64.wrap c.at_ = ((c.at_.toNat : Nat) : Int) := by have := M.at_; rw [wrap_u64 (by omega) (by omega)]; omega
  obtain ⟨L, hL⟩ : ∃ L, headC c = L := ⟨_, rfl⟩
  have hLl : L.length = 7 := by rw [← hL]; rfl
  have hput : putC c = numsB L ++ if bearsC c.kind = true then putJ c.job else [] := by rw [← hL]; rfl
  rw [hL] at hlt
  have nL := numsB_len L
  simp -implicitDefEqProofs [k1, wk1, wk5]
  refine AGo.joinLoop (fun ρ K => ∃ t', ρ 1 = .sc (.pointer (some ⟨b1, 0, none⟩)) ∧ ρ 5 = .sl (u8s (numsB L)) t' ∧ Gr 5 1 K0 (u8s (numsB L)) t' K) (fun k' hk => ?_) ?_
  · refine AGo.rounds (fun m ρ K => ∃ i q t', m = L.length - i ∧ i ≤ L.length ∧ numsB (L.take i) = q ∧ ρ 33 = .sc (.int .i64 (i : Int)) ∧ ρ 1 = .sc (.pointer (some ⟨b1, 0, none⟩)) ∧ ρ 31 = .sl (u64s L) .full ∧ ρ 32 = .sc (.int .i64 (L.length : Int)) ∧ ρ 5 = .sl (u8s q) t' ∧ Gr 5 1 K0 (u8s q) t' K) ?_ (m := L.length) (HLe.refl _)
      ⟨0, [], .nil, rfl, by omega, by simp [numsB], by simp, by simp, by rw [← hL]; simp [headC], by rw [hLl]; simp, by simp, .nil⟩
    rintro m ρ K ih ⟨i, q, t', rfl, hi, hq, r33, r1, r31, r32, r5, g⟩
    by_cases hlt2 : i < L.length
    · have hlt' : (i : Int) < (L.length : Int) := by omega
      obtain ⟨n, hnj, hn⟩ := getAt hlt2
      have hw1 : IntKind.i64.wrap ((i : Int) + 1) = (i : Int) + 1 := wrap_i64 (by omega) (by omega)
      have hn64 := hlt n (List.mem_of_getElem? hn)
      have hpl := putB_len n
      have hnl := numsB_len (L.take i)
      rw [List.length_take] at hnl
      have hql : q.length ≤ 100 := by rw [← hq]; omega
      simp -implicitDefEqProofs [r33, r1, r31, r32, r5, hlt2, hlt', hnj]
      refine ACall.eq (c_packPut n hn64) ?_
      simp -implicitDefEqProofs [r5]
      refine AApp.grE el_28 g (szs_u8s _) (szs_u8s _) (by simp only [List.length_map]; omega) (by simp only [List.length_map, maxLen]; omega) fun t2 Hn g2 => ?_
      rw [← u8s_app] at g2 ⊢
      obtain ⟨q2, hq2⟩ : ∃ q2, q ++ putB n = q2 := ⟨_, rfl⟩
      rw [hq2] at g2 ⊢
      simp -implicitDefEqProofs [r33, r1, r31, r32, hw1]
      exact AGo.again ih (m' := L.length - (i + 1)) (by omega) (HLe.refl _) ⟨i + 1, q2, t2, rfl, by omega, by rw [numsB_take hn, hq, hq2], by simp, by simp [r1], by simp [r31], by simp [r32], by simp, g2⟩
    · have hn' : ¬ (i : Int) < (L.length : Int) := by omega
      simp -implicitDefEqProofs [r33, r1, r31, r32, r5, hlt2, hn']
      rw [List.take_of_length_le (by omega)] at hq
      exact hk _ _ ⟨t', by simp [r1], by simp [r5, hq], by rw [hq]; exact g⟩
  · rintro ρ K ⟨t', r1, r5, g⟩
    have kk : K b1 = some (.cells (cmC c t) 27) := g.le b1 _ k1
    have kG2 : Glob K := kG.le g.le
    obtain ⟨q, hq⟩ : ∃ q, numsB L = q := ⟨_, rfl⟩
    rw [hq] at g r5 hput nL
    simp -implicitDefEqProofs [r1, r5, kk]
    refine ACall.eq (c_bears c.kind) ?_
    by_cases hb : bearsC c.kind = true
    · rw [if_pos hb] at hput
      have hpj := putJ_len (ho.job) (M.job hb) hs
      simp -implicitDefEqProofs [hb, r1, r5, kk]
      refine ACall.eq (c_jobPut kG2 c.job t ho.job (M.job hb) hs) ?_
      have hj : joinB [(q, t'), (putJ c.job, Rg.Tok.no)] = putC c := by rw [hput]; simp [joinB]
      have hlen : (putC c).length ≤ 1000000 := by rw [hput, List.length_append]; omega
      have hc := c_packJoin (H := K) [(q, t'), (putJ c.job, Rg.Tok.no)] .full (by simp only [List.length_cons, List.length_nil]; omega) (by rw [hj]; exact hlen)
      rw [hj] at hc
      simp only [rowsAV, List.map_cons, List.map_nil] at hc
      simp -implicitDefEqProofs [r5]
      refine ACall.intro hc ?_
      rintro v K2 ⟨t2, rfl, hg⟩
      simp -implicitDefEqProofs
      exact (kW.trans (g.le.trans hg.le)).wk
    · rw [if_neg hb, List.append_nil] at hput
      have hb' : bearsC c.kind = false := by simpa using hb
      rw [hput]
      simp -implicitDefEqProofs [hb', r1, r5]
      exact (kW.trans g.le).wk
theorem c_cmdPutNo (hG : Glob H) (c : Cm) (t : Rg.Tok) (hm : mayM c ≠ 0) (hs : c.job.ex.length ≤ 9223372036854775807) : AOk Tryz.prog 10 [cmAV c t] H (.tup [.sl [] .nil, .sc (.int .i64 (mayM c))]) H := by
  refine ACalls.into Tryz.func10 rfl Tryz.ntmps10 Tryz.results10 (by simp) ?_
  simp -implicitDefEqProofs
  refine AAlloc.intro fun b1 h1 => ?_
  simp -implicitDefEqProofs
  generalize hK : Heap.set _ b1 _ = K0
  have kG : Glob K0 := by rw [← hK]; exact hG.new h1
  have kW : HLe H K0 := by rw [← hK]; exact HLe.set_fresh h1
  refine ACall.eq (c_cmdMay kG c t hs) ?_
  simp -implicitDefEqProofs [hm]
  exact kW.wk
theorem c_ref19PutNo (c : Cm) (t : Rg.Tok) (hm : mayM c ≠ 0) (hs : c.job.ex.length ≤ 9223372036854775807) : AOk Tryz.prog 11 [cmAV c t] H (.tup [.sl [] .nil, .sc (.int .i64 (mayM c))]) H := by
  refine ACalls.into Tryz.func11 rfl Tryz.ntmps11 Tryz.results11 (by simp) ?_
  simp -implicitDefEqProofs
  refine AAlloc.intro fun b1 h1 => ?_
  simp -implicitDefEqProofs
  generalize hK : Heap.set _ b1 _ = K0
  have kW : HLe H K0 := by rw [← hK]; exact HLe.set_fresh h1
  refine ACall.eq (c_ref19May c t hs) ?_
  simp -implicitDefEqProofs [hm]
  exact kW.wk
end Go.Proofs.YtghlkjkdejebnaaGreatDoor
namespace Go.Proofs.YtghlkjkdejebnaaGreatDoor
open Rg Go
variable {H : Heap}
set_option maxHeartbeats 2000000 in
theorem c_ref19PutOk (c : Cm) (t : Rg.Tok) (ho : CmOk c) (hm : mayM c = 0) (hs : c.job.ex.length ≤ 4096) : AOk Tryz.prog 11 [cmAV c t] H (.tup [.sl (u8s (putC c)) .no, .sc (.int .i64 0)]) H := by
  have M := MM.of hm
  refine ACalls.into Tryz.func11 rfl Tryz.ntmps11 Tryz.results11 (by simp) ?_
  simp -implicitDefEqProofs
  refine AAlloc.intro fun b1 h1 => ?_
  simp -implicitDefEqProofs
  generalize hK : Heap.set _ b1 _ = K0
  have k1 : K0 b1 = some (.cells (cmC c t) 27) := by rw [← hK]; simp [Heap.set]
  have kW : HLe H K0 := by rw [← hK]; exact HLe.set_fresh h1
  clear hK
  have hmay := c_ref19May (H := K0) c t (by omega)
  rw [hm] at hmay
  refine ACall.eq hmay ?_
  have wx1 : IntKind.u64.wrap c.kind = ((c.kind.toNat : Nat) : Int) := by have := M.kind; rw [wrap_u64 (by omega) (by omega)]; omega
  have wx5 : IntKind.u64.wrap c.at_ = ((c.at_.toNat : Nat) : Int) := by have := M.at_; rw [wrap_u64 (by omega) (by omega)]; omega
  have u1 : c.kind.toNat < 18446744073709551616 := by have := M.kind; omega
  have u5 : c.at_.toNat < 18446744073709551616 := by have := M.at_; omega
  have hput : putC c = (((((((([] : List UInt8) ++ putB c.kind.toNat) ++ putB c.cl) ++ putB c.sq) ++ putB c.id) ++ putB c.at_.toNat) ++ putB c.tk) ++ putB c.wk) ++ if bearsC c.kind = true then putJ c.job else [] := by
    simp [putC, headC, numsB]
  generalize c.kind.toNat = x1 at *
  generalize c.at_.toNat = x5 at *
  simp -implicitDefEqProofs [k1]
  have px1 := putB_len x1
  have pc_cl := putB_len c.cl
  have pc_sq := putB_len c.sq
  have pc_id := putB_len c.id
  have px5 := putB_len x5
  have pc_tk := putB_len c.tk
  have pc_wk := putB_len c.wk
  refine go_draw3 [0, 1, 2, 4, 5, 7, 8, 10, 11] K0 f_mixed (by decide +kernel) (HC.refl _) ?_
  simp -implicitDefEqProofs
  refine aq3_op ?_
  simp -implicitDefEqProofs [k1, wx1, wx5]
  refine aq3_op ?_
  simp -implicitDefEqProofs [k1, wx1, wx5]
  refine aq3_op ?_
  simp -implicitDefEqProofs [k1, wx1, wx5]
  refine aq3_op ?_
  simp -implicitDefEqProofs [k1, wx1, wx5]
  refine aq3_op ?_
  simp -implicitDefEqProofs [k1, wx1, wx5]
  refine aq3_op ?_
  simp -implicitDefEqProofs [k1, wx1, wx5]
  refine aq3_op ?_
  simp -implicitDefEqProofs [k1, wx1, wx5]
  refine aq3_op ?_
  simp -implicitDefEqProofs [k1, wx1, wx5]
  refine aq3_op ?_
  simp -implicitDefEqProofs [k1, wx1, wx5]
  refine AWK.one 3 (by decide +kernel) ?_
  refine AWE.op rfl ?_
  simp -implicitDefEqProofs
  refine ⟨_, c_ref19num (bs := []) .nil (by simp) x1 u1, ?_⟩
  rintro v K1 ⟨t1, rfl, g1⟩
  refine ⟨HLe.hc g1.le, ?_⟩
  obtain ⟨q1, hq1⟩ : ∃ q, ([] : List UInt8) ++ putB x1 = q := ⟨_, rfl⟩
  have l1 : q1.length ≤ 10 := by rw [← hq1, List.length_append]; simp only [List.length_nil]; omega
  rw [hq1] at g1 hput ⊢
  refine AWK.one 6 (by decide +kernel) ?_
  refine AWE.op rfl ?_
  simp -implicitDefEqProofs
  refine ⟨_, c_ref19num g1 (by omega) c.cl ho.cl, ?_⟩
  rintro v K2 ⟨t2, rfl, g2⟩
  refine ⟨HLe.hc g2.le, ?_⟩
  obtain ⟨q2, hq2⟩ : ∃ q, q1 ++ putB c.cl = q := ⟨_, rfl⟩
  have l2 : q2.length ≤ 20 := by rw [← hq2, List.length_append]; omega
  rw [hq2] at g2 hput ⊢
  refine AWK.one 9 (by decide +kernel) ?_
  refine AWE.op rfl ?_
  simp -implicitDefEqProofs
  refine ⟨_, c_ref19num g2 (by omega) c.sq ho.sq, ?_⟩
  rintro v K3 ⟨t3, rfl, g3⟩
  refine ⟨HLe.hc g3.le, ?_⟩
  obtain ⟨q3, hq3⟩ : ∃ q, q2 ++ putB c.sq = q := ⟨_, rfl⟩
  have l3 : q3.length ≤ 30 := by rw [← hq3, List.length_append]; omega
  rw [hq3] at g3 hput ⊢
  refine AWK.one 12 (by decide +kernel) ?_
  refine AWE.op rfl ?_
  simp -implicitDefEqProofs
  refine ⟨_, c_ref19num g3 (by omega) c.id ho.id, ?_⟩
  rintro v K4 ⟨t4, rfl, g4⟩
  refine ⟨HLe.hc g4.le, ?_⟩
  obtain ⟨q4, hq4⟩ : ∃ q, q3 ++ putB c.id = q := ⟨_, rfl⟩
  have l4 : q4.length ≤ 40 := by rw [← hq4, List.length_append]; omega
  rw [hq4] at g4 hput ⊢
  refine AWK.one 13 (by decide +kernel) ?_
  refine AWE.op rfl ?_
  simp -implicitDefEqProofs
  refine AWK.fin (by decide +kernel) ?_
  simp -implicitDefEqProofs
  refine go_draw3 [0, 1, 2, 3, 5, 6, 8, 9] K0 f_mixed (by decide +kernel) (HLe.hc g4.le) ?_
  simp -implicitDefEqProofs
  refine aq3_op ?_
  simp -implicitDefEqProofs [k1, wx1, wx5]
  refine aq3_op ?_
  simp -implicitDefEqProofs [k1, wx1, wx5]
  refine aq3_op ?_
  simp -implicitDefEqProofs [k1, wx1, wx5]
  refine aq3_op ?_
  simp -implicitDefEqProofs [k1, wx1, wx5]
  refine aq3_op ?_
  simp -implicitDefEqProofs [k1, wx1, wx5]
  refine aq3_op ?_
  simp -implicitDefEqProofs [k1, wx1, wx5]
  refine aq3_op ?_
  simp -implicitDefEqProofs [k1, wx1, wx5]
  refine aq3_op ?_
  simp -implicitDefEqProofs [k1, wx1, wx5]
  refine AWK.one 4 (by decide +kernel) ?_
  refine AWE.op rfl ?_
  simp -implicitDefEqProofs
  refine ⟨_, c_ref19num g4 (by omega) x5 u5, ?_⟩
  rintro v K5 ⟨t5, rfl, g5⟩
  refine ⟨HLe.hc g5.le, ?_⟩
  obtain ⟨q5, hq5⟩ : ∃ q, q4 ++ putB x5 = q := ⟨_, rfl⟩
  have l5 : q5.length ≤ 50 := by rw [← hq5, List.length_append]; omega
  rw [hq5] at g5 hput ⊢
  refine AWK.one 7 (by decide +kernel) ?_
  refine AWE.op rfl ?_
  simp -implicitDefEqProofs
  refine ⟨_, c_ref19num g5 (by omega) c.tk ho.tk, ?_⟩
  rintro v K6 ⟨t6, rfl, g6⟩
  refine ⟨HLe.hc g6.le, ?_⟩
  obtain ⟨q6, hq6⟩ : ∃ q, q5 ++ putB c.tk = q := ⟨_, rfl⟩
  have l6 : q6.length ≤ 60 := by rw [← hq6, List.length_append]; omega
  rw [hq6] at g6 hput ⊢
  refine AWK.one 10 (by decide +kernel) ?_
  refine AWE.op rfl ?_
  simp -implicitDefEqProofs
  refine ⟨_, c_ref19num g6 (by omega) c.wk ho.wk, ?_⟩
  rintro v K7 ⟨t7, rfl, g7⟩
  refine ⟨HLe.hc g7.le, ?_⟩
  obtain ⟨q7, hq7⟩ : ∃ q, q6 ++ putB c.wk = q := ⟨_, rfl⟩
  have l7 : q7.length ≤ 70 := by rw [← hq7, List.length_append]; omega
  rw [hq7] at g7 hput ⊢
  refine AWK.one 11 (by decide +kernel) ?_
  refine AWE.op rfl ?_
  simp -implicitDefEqProofs
  refine AWK.fin (by decide +kernel) ?_
  have k7 : K7 b1 = some (.cells (cmC c t) 27) := g7.le b1 _ k1
  have tail : bearsC c.kind = true → ∀ (P : Prop), True := fun _ _ => trivial
  clear tail
  by_cases hb : bearsC c.kind = true
  · rw [if_pos hb] at hput
    have hpj := putJ_len (ho.job) (M.job hb) hs
    have hcall := c_ref14PutOk (H := K7) c.job t ho.job (M.job hb) hs
    have h23 : c.kind = 2 ∨ c.kind = 3 := by simpa [bearsC] using hb
    rcases h23 with h23 | h23
    all_goals
      simp -implicitDefEqProofs [k7, h23]
      refine ACall.eq hcall ?_
      simp -implicitDefEqProofs
      refine AApp.grE el_28 g7 (szs_u8s _) (szs_u8s _) (by simp only [List.length_map]; omega) (by simp only [List.length_map, maxLen]; omega) fun t2 Hn g2 => ?_
      rw [← u8s_app, ← hput] at g2 ⊢
      simp -implicitDefEqProofs
      exact (kW.trans g2.le).wk
  · rw [if_neg hb, List.append_nil] at hput
    simp only [bearsC, Bool.or_eq_true, decide_eq_true_eq, not_or] at hb
    rw [hput]
    simp -implicitDefEqProofs [k7, hb.1, hb.2]
    exact (kW.trans g7.le).wk
def cmdAV : Option Cm → AV
  | some c => .tup [cmAV c .no, .sc (.int .i64 0)]
  | none => .tup [cmAV cm0 .no, .sc (.int .i64 4)]
theorem numC_le (b : List UInt8) (m : Nat) (s : Nat × Bool) (h : s.1 ≤ b.length) : (numC b m s).2.1 ≤ b.length := by
  have := takeK_le b s.1 h
  unfold numC
  simp only
  omega
theorem numC_ok {b : List UInt8} {m : Nat} {s : Nat × Bool} (h : (numC b m s).2.2 = false) : s.2 = false ∧ (numC b m s).1 ≤ m := by
  unfold numC at h ⊢
  simp only [Bool.or_eq_false_iff, decide_eq_false_iff_not] at h
  exact ⟨h.1.1, by simp only; omega⟩
set_option maxHeartbeats 1000000 in
theorem c_cmdNum {b : List UInt8} {t : Rg.Tok} {pb pa pd : Nat} {s : Nat × Bool} {K : Heap} (h : Three b t pb pa pd s K) (hs : s.1 ≤ b.length) (hb : b.length ≤ 1000000) (most : Nat) (hm : most < 18446744073709551616) :
    AOk Tryz.prog 53 [.sc (.int .u64 (most : Int)), .sc (.pointer (some ⟨pb, 0, none⟩)), .sc (.pointer (some ⟨pa, 0, none⟩)), .sc (.pointer (some ⟨pd, 0, none⟩))] K (.sc (.int .u64 ((numC b most s).1 : Int))) (upd3 pa pd (numC b most s).2 K) := by
  obtain ⟨n1, n2, n3⟩ := h.ne
  obtain ⟨a, bad⟩ := s
  have hh1 := h.b
  have hh2 := h.a
  have hh3 := h.d
  simp only at hs hh1 hh2 hh3
  obtain ⟨n, nx, e, hp⟩ : ∃ n nx e, takeK b a = (n, nx, e) := ⟨_, _, _, rfl⟩
  have hlt := takeK_lt b a
  have htk := c_packTake (H := K) b t a hs hb
  unfold numC
  simp only [hp] at hlt htk ⊢
  obtain ⟨mx, hmx2⟩ : ∃ mx, max a nx = mx := ⟨_, rfl⟩
  have hmx : (if a < nx then (nx : Int) else (a : Int)) = (mx : Int) := by split <;> omega
  rw [hmx2]
  refine ACalls.into Tryz.func53 rfl Tryz.ntmps53 Tryz.results53 (by simp) ?_
  simp -implicitDefEqProofs [hh1, hh2, hh3]
  refine ACall.eq htk ?_
  cases bad with
  | true =>
    simp -implicitDefEqProofs [hh1, hh2, hh3, hmx, n3, Ne.symm n3]
  | false =>
    by_cases he : e = 0
    · have he' : (e : Int) = 0 := by omega
      by_cases hmo : most < n
      · have hmo' : (most : Int) < (n : Int) := by omega
        simp -implicitDefEqProofs [hh1, hh2, hh3, he, he', hmo, hmo', hmx, n3, Ne.symm n3]
      · have hmo' : ¬ (most : Int) < (n : Int) := by omega
        simp -implicitDefEqProofs [hh1, hh2, hh3, he, he', hmo, hmo', hmx, n3, Ne.symm n3]
    · have he' : ¬ (e : Int) = 0 := by omega
      simp -implicitDefEqProofs [hh1, hh2, hh3, he, he', hmx, n3, Ne.symm n3]
set_option maxHeartbeats 4000000 in
theorem c_cmdParse (hG : Glob H) (b : List UInt8) (t : Rg.Tok) (hb : b.length ≤ 1000000) : AOk Tryz.prog 12 [.sl (u8s b) t] H (cmdAV (parseC b)) H := by
  obtain ⟨res, hres⟩ : ∃ res, parseC b = res := ⟨_, rfl⟩
  rw [hres]
  refine ACalls.into Tryz.func12 rfl Tryz.ntmps12 Tryz.results12 (by simp) ?_
  simp -implicitDefEqProofs
  refine AAlloc.intro fun pb hpb => ?_
  simp -implicitDefEqProofs
  refine AAlloc.intro fun pr hpr => ?_
  simp -implicitDefEqProofs
  refine AAlloc.intro fun pa hpa => ?_
  simp -implicitDefEqProofs
  refine AAlloc.intro fun pd hpd => ?_
  have e1 : pb ≠ pr := by rintro rfl; simp [Heap.set] at hpr
  have e2 : pb ≠ pa := by rintro rfl; simp [Heap.set, e1] at hpa
  have e3 : pr ≠ pa := by rintro rfl; simp [Heap.set] at hpa
  have e4 : pb ≠ pd := by rintro rfl; simp [Heap.set, e1, e2] at hpd
  have e5 : pr ≠ pd := by rintro rfl; simp [Heap.set, e3] at hpd
  have e6 : pa ≠ pd := by rintro rfl; simp [Heap.set] at hpd
  have hr0 : H pr = none := by simpa [Heap.set, Ne.symm e1] using hpr
  have ha0 : H pa = none := by simpa [Heap.set, Ne.symm e2, Ne.symm e3] using hpa
  have hd0 : H pd = none := by simpa [Heap.set, Ne.symm e4, Ne.symm e5, Ne.symm e6] using hpd
  simp -implicitDefEqProofs [e1, e2, e3, e4, e5, e6, Ne.symm e1, Ne.symm e2, Ne.symm e3, Ne.symm e4, Ne.symm e5, Ne.symm e6]
  generalize hK : Heap.set _ pd _ = K0
  have T0 : Three b t pb pa pd (0, false) K0 := by
    rw [← hK]
    exact ⟨by simp [Heap.set, e1, e2, e4], by simp [Heap.set, e3, e6], by simp [Heap.set]⟩
  have R0 : K0 pr = some (.cells (cmC cm0 .nil) 27) := by rw [← hK]; simp [Heap.set, e3, e5, Ne.symm e1]; rfl
  have L0 : HLe H K0 := by
    rw [← hK]
    refine HLe.set_new ?_ hd0
    repeat (first | exact HLe.set_fresh hpb | refine HLe.set_new ?_ (by assumption))
  have S0 : (0, false).1 ≤ b.length := Nat.zero_le _
  clear hK hpa hpd hpr
  refine ACall.eq (c_cmdNum T0 S0 hb 10 (by omega)) ?_
  obtain ⟨r1, hr1⟩ : ∃ r, numC b 10 (0, false) = r := ⟨_, rfl⟩
  have T1 := T0.upd (s' := r1.2)
  have S1 : r1.2.1 ≤ b.length := by rw [← hr1]; exact numC_le b _ _ S0
  have R1 : (upd3 pa pd r1.2 K0) pr = some (.cells (cmC cm0 .nil) 27) := by simp [Heap.set, e3, e5, R0]
  have L1 : HLe H (upd3 pa pd r1.2 K0) := HLe.set_new (HLe.set_new L0 hd0) ha0
  rw [hr1]
  generalize upd3 pa pd r1.2 K0 = K1 at *
  simp -implicitDefEqProofs
  refine ACall.eq (c_cmdNum T1 S1 hb 18446744073709551615 (by omega)) ?_
  obtain ⟨r2, hr2⟩ : ∃ r, numC b 18446744073709551615 r1.2 = r := ⟨_, rfl⟩
  have T2 := T1.upd (s' := r2.2)
  have S2 : r2.2.1 ≤ b.length := by rw [← hr2]; exact numC_le b _ _ S1
  have R2 : (upd3 pa pd r2.2 K1) pr = some (.cells (cmC cm0 .nil) 27) := by simp [Heap.set, e3, e5, R1]
  have L2 : HLe H (upd3 pa pd r2.2 K1) := HLe.set_new (HLe.set_new L1 hd0) ha0
  rw [hr2]
  generalize upd3 pa pd r2.2 K1 = K2 at *
  simp -implicitDefEqProofs
  refine ACall.eq (c_cmdNum T2 S2 hb 18446744073709551615 (by omega)) ?_
  obtain ⟨r3, hr3⟩ : ∃ r, numC b 18446744073709551615 r2.2 = r := ⟨_, rfl⟩
  have T3 := T2.upd (s' := r3.2)
  have S3 : r3.2.1 ≤ b.length := by rw [← hr3]; exact numC_le b _ _ S2
  have R3 : (upd3 pa pd r3.2 K2) pr = some (.cells (cmC cm0 .nil) 27) := by simp [Heap.set, e3, e5, R2]
  have L3 : HLe H (upd3 pa pd r3.2 K2) := HLe.set_new (HLe.set_new L2 hd0) ha0
  rw [hr3]
  generalize upd3 pa pd r3.2 K2 = K3 at *
  simp -implicitDefEqProofs
  refine ACall.eq (c_cmdNum T3 S3 hb 18446744073709551615 (by omega)) ?_
  obtain ⟨r4, hr4⟩ : ∃ r, numC b 18446744073709551615 r3.2 = r := ⟨_, rfl⟩
  have T4 := T3.upd (s' := r4.2)
  have S4 : r4.2.1 ≤ b.length := by rw [← hr4]; exact numC_le b _ _ S3
  have R4 : (upd3 pa pd r4.2 K3) pr = some (.cells (cmC cm0 .nil) 27) := by simp [Heap.set, e3, e5, R3]
  have L4 : HLe H (upd3 pa pd r4.2 K3) := HLe.set_new (HLe.set_new L3 hd0) ha0
  rw [hr4]
  generalize upd3 pa pd r4.2 K3 = K4 at *
  simp -implicitDefEqProofs
  refine ACall.eq (c_cmdNum T4 S4 hb 13569465600 (by omega)) ?_
  obtain ⟨r5, hr5⟩ : ∃ r, numC b 13569465600 r4.2 = r := ⟨_, rfl⟩
  have T5 := T4.upd (s' := r5.2)
  have S5 : r5.2.1 ≤ b.length := by rw [← hr5]; exact numC_le b _ _ S4
  have R5 : (upd3 pa pd r5.2 K4) pr = some (.cells (cmC cm0 .nil) 27) := by simp [Heap.set, e3, e5, R4]
  have L5 : HLe H (upd3 pa pd r5.2 K4) := HLe.set_new (HLe.set_new L4 hd0) ha0
  rw [hr5]
  generalize upd3 pa pd r5.2 K4 = K5 at *
  simp -implicitDefEqProofs
  refine ACall.eq (c_cmdNum T5 S5 hb 18446744073709551615 (by omega)) ?_
  obtain ⟨r6, hr6⟩ : ∃ r, numC b 18446744073709551615 r5.2 = r := ⟨_, rfl⟩
  have T6 := T5.upd (s' := r6.2)
  have S6 : r6.2.1 ≤ b.length := by rw [← hr6]; exact numC_le b _ _ S5
  have R6 : (upd3 pa pd r6.2 K5) pr = some (.cells (cmC cm0 .nil) 27) := by simp [Heap.set, e3, e5, R5]
  have L6 : HLe H (upd3 pa pd r6.2 K5) := HLe.set_new (HLe.set_new L5 hd0) ha0
  rw [hr6]
  generalize upd3 pa pd r6.2 K5 = K6 at *
  simp -implicitDefEqProofs
  refine ACall.eq (c_cmdNum T6 S6 hb 18446744073709551615 (by omega)) ?_
  obtain ⟨r7, hr7⟩ : ∃ r, numC b 18446744073709551615 r6.2 = r := ⟨_, rfl⟩
  have T7 := T6.upd (s' := r7.2)
  have S7 : r7.2.1 ≤ b.length := by rw [← hr7]; exact numC_le b _ _ S6
  have R7 : (upd3 pa pd r7.2 K6) pr = some (.cells (cmC cm0 .nil) 27) := by simp [Heap.set, e3, e5, R6]
  have L7 : HLe H (upd3 pa pd r7.2 K6) := HLe.set_new (HLe.set_new L6 hd0) ha0
  rw [hr7]
  generalize upd3 pa pd r7.2 K6 = K7 at *
  simp -implicitDefEqProofs
  refine AAlloc.intro fun pc hpc => ?_
  have f1 : pb ≠ pc := by rintro rfl; rw [T7.b] at hpc; cases hpc
  have f2 : pa ≠ pc := by rintro rfl; rw [T7.a] at hpc; cases hpc
  have f3 : pd ≠ pc := by rintro rfl; rw [T7.d] at hpc; cases hpc
  have f4 : pr ≠ pc := by rintro rfl; rw [R7] at hpc; cases hpc
  have hc0 : H pc = none := L7.none hpc
  have hparse : res = if r7.2.2 = true then none else if bearsC (r1.1 : Int) = true then
      match parseJ b r7.2.1 with
      | none => none
      | some (j, e) => let c : Cm := ⟨(r1.1 : Int), r2.1, r3.1, r4.1, (r5.1 : Int), r6.1, r7.1, j⟩; if e ≠ b.length ∨ mayM c ≠ 0 then none else some c
    else let c : Cm := ⟨(r1.1 : Int), r2.1, r3.1, r4.1, (r5.1 : Int), r6.1, r7.1, jb0⟩; if r7.2.1 ≠ b.length ∨ mayM c ≠ 0 then none else some c := by
    rw [← hres]
    simp only [parseC, headP, any64, hr1, hr2, hr3, hr4, hr5, hr6, hr7]
    rfl
  clear hres
  have d7 := T7.d
  obtain ⟨bad, hbad⟩ : ∃ z, r7.2.2 = z := ⟨_, rfl⟩
  rw [hbad] at d7 hparse
  cases bad with
  | true =>
    rw [if_pos rfl] at hparse
    subst hparse
    simp -implicitDefEqProofs [d7, f3, f4, R7, cmdAV]
    exact ⟨rfl, HWk.new hr0 (HWk.new hc0 L7.wk)⟩
  | false =>
    rw [if_neg (by simp)] at hparse
    have o7 := numC_ok (b := b) (m := 18446744073709551615) (s := r6.2) (by rw [hr7]; exact hbad)
    have o6 := numC_ok (b := b) (m := 18446744073709551615) (s := r5.2) (by rw [hr6]; exact o7.1)
    have o5 := numC_ok (b := b) (m := 13569465600) (s := r4.2) (by rw [hr5]; exact o6.1)
    have o4 := numC_ok (b := b) (m := 18446744073709551615) (s := r3.2) (by rw [hr4]; exact o5.1)
    have o3 := numC_ok (b := b) (m := 18446744073709551615) (s := r2.2) (by rw [hr3]; exact o4.1)
    have o2 := numC_ok (b := b) (m := 18446744073709551615) (s := r1.2) (by rw [hr2]; exact o3.1)
    have o1 := numC_ok (b := b) (m := 10) (s := (0, false)) (by rw [hr1]; exact o2.1)
    have v1 : r1.1 ≤ 10 := by have := o1.2; rw [hr1] at this; exact this
    have v5 : r5.1 ≤ 13569465600 := by have := o5.2; rw [hr5] at this; exact this
    have w1 : IntKind.i64.wrap (r1.1 : Int) = (r1.1 : Int) := wrap_i64 (by omega) (by omega)
    have w5 : IntKind.i64.wrap (r5.1 : Int) = (r5.1 : Int) := wrap_i64 (by omega) (by omega)
    simp -implicitDefEqProofs [d7, f3, f4, R7, w1, w5]
    refine ACall.eq (c_bears (r1.1 : Int)) ?_
    have a7 := T7.a
    have b7 := T7.b
    generalize hK8 : Heap.set K7 pc _ = K8
    have a8 : K8 pa = some (.cells [.sc (.int .i64 (r7.2.1 : Int))] 3) := by rw [← hK8]; simp [Heap.set, f2, a7]
    have b8 : K8 pb = some (.cells [.sl (u8s b) t] 28) := by rw [← hK8]; simp [Heap.set, f1, b7]
    have R8 : K8 pr = some (.cells (cmC cm0 .nil) 27) := by rw [← hK8]; simp [Heap.set, f4, R7]
    have c8 : K8 pc = some (.cells (cmC ⟨(r1.1 : Int), r2.1, r3.1, r4.1, (r5.1 : Int), r6.1, r7.1, jb0⟩ .nil) 27) := by rw [← hK8]; simp [Heap.set]; rfl
    have L8 : HLe H K8 := by rw [← hK8]; exact HLe.set_new L7 hc0
    clear hK8
    cases hbr : bearsC (r1.1 : Int) with
    | false =>
      rw [hbr, if_neg (by simp)] at hparse
      simp only at hparse
      by_cases hend : r7.2.1 = b.length
      · have hend' : (r7.2.1 : Int) = (b.length : Int) := by omega
        have hmay := c_cmdMay (hG.le L8) ⟨(r1.1 : Int), r2.1, r3.1, r4.1, (r5.1 : Int), r6.1, r7.1, jb0⟩ .nil (by simp [jb0])
        obtain ⟨em, hem⟩ : ∃ em, mayM ⟨(r1.1 : Int), r2.1, r3.1, r4.1, (r5.1 : Int), r6.1, r7.1, jb0⟩ = em := ⟨_, rfl⟩
        rw [hem] at hmay hparse
        simp -implicitDefEqProofs [a8, b8, c8, R8, f4, hend, hend']
        refine ACall.eq hmay ?_
        by_cases hm0 : em = 0
        · rw [if_neg (by rintro (h | h); exact h hend; exact h hm0)] at hparse
          subst hparse
          simp -implicitDefEqProofs [hm0, c8, R8, cmdAV]
          exact (HLe.set_new L8 hr0).wk
        · rw [if_pos (.inr hm0)] at hparse
          subst hparse
          simp -implicitDefEqProofs [hm0, R8, cmdAV]
          exact ⟨rfl, (HLe.set_new L8 hr0).wk⟩
      · have hend' : ¬ (r7.2.1 : Int) = (b.length : Int) := by omega
        rw [if_pos (.inl hend)] at hparse
        subst hparse
        simp -implicitDefEqProofs [a8, b8, c8, R8, f4, hend, hend', cmdAV]
        exact ⟨rfl, (HLe.set_new L8 hr0).wk⟩
    | true =>
      rw [hbr, if_pos rfl] at hparse
      have hcall := c_jobParse (hG.le L8) b t r7.2.1 S7 hb
      rcases hj : parseJ b r7.2.1 with _ | ⟨j, e⟩
      · rw [hj] at hcall hparse
        simp only at hparse
        subst hparse
        simp -implicitDefEqProofs [a8, b8]
        refine ACall.eq hcall ?_
        simp -implicitDefEqProofs [parseAV]
        refine AAlloc.intro fun p8 hp8 => ?_
        have g4 : pr ≠ p8 := by rintro rfl; rw [R8] at hp8; cases hp8
        simp -implicitDefEqProofs [g4, R8, cmdAV]
        exact ⟨rfl, (HLe.set_new (HLe.set_new L8 (L8.none hp8)) hr0).wk⟩
      · rw [hj] at hcall hparse
        simp only at hparse
        have hjl := (parse_inv hj).2.2.2
        simp -implicitDefEqProofs [a8, b8]
        refine ACall.eq hcall ?_
        simp -implicitDefEqProofs [parseAV]
        refine AAlloc.intro fun p8 hp8 => ?_
        have g4 : pr ≠ p8 := by rintro rfl; rw [R8] at hp8; cases hp8
        have g3 : pc ≠ p8 := by rintro rfl; rw [c8] at hp8; cases hp8
        have g2 : pa ≠ p8 := by rintro rfl; rw [a8] at hp8; cases hp8
        have g1 : pb ≠ p8 := by rintro rfl; rw [b8] at hp8; cases hp8
        have L9 : ∀ o1 o2 o3, HLe H (((K8.set p8 o1).set pc o2).set pa o3) := fun _ _ _ => HLe.set_new (HLe.set_new (HLe.set_new L8 (L8.none hp8)) hc0) ha0
        by_cases hend : e = b.length
        · have hend' : (e : Int) = (b.length : Int) := by omega
          simp -implicitDefEqProofs [g1, g2, g3, g4, c8, a8, b8, R8, f1, f2, f4, Ne.symm f2, e2, e3, hend]
          generalize hK9 : Heap.set (Heap.set _ pc _) pa _ = K9
          have R9 : K9 pr = some (.cells (cmC cm0 .nil) 27) := by rw [← hK9]; simp [Heap.set, e3, f4, g4, R8]
          have c9 : K9 pc = some (.cells (cmC ⟨(r1.1 : Int), r2.1, r3.1, r4.1, (r5.1 : Int), r6.1, r7.1, j⟩ .no) 27) := by rw [← hK9]; simp [Heap.set, Ne.symm f2]
          have L9' : HLe H K9 := by rw [← hK9]; exact L9 _ _ _
          clear hK9
          have hmay := c_cmdMay (hG.le L9') ⟨(r1.1 : Int), r2.1, r3.1, r4.1, (r5.1 : Int), r6.1, r7.1, j⟩ .no (by simp only; omega)
          obtain ⟨em, hem⟩ : ∃ em, mayM ⟨(r1.1 : Int), r2.1, r3.1, r4.1, (r5.1 : Int), r6.1, r7.1, j⟩ = em := ⟨_, rfl⟩
          rw [hem] at hmay hparse
          refine ACall.eq hmay ?_
          by_cases hm0 : em = 0
          · rw [if_neg (by rintro (h | h); exact h hend; exact h hm0)] at hparse
            subst hparse
            simp -implicitDefEqProofs [hm0, c9, R9, cmdAV]
            exact (HLe.set_new L9' hr0).wk
          · rw [if_pos (.inr hm0)] at hparse
            subst hparse
            simp -implicitDefEqProofs [hm0, R9, cmdAV]
            exact ⟨rfl, (HLe.set_new L9' hr0).wk⟩
        · have hend' : ¬ (e : Int) = (b.length : Int) := by omega
          rw [if_pos (.inl hend)] at hparse
          subst hparse
          simp -implicitDefEqProofs [g1, g2, g3, g4, c8, a8, b8, R8, f1, f2, f4, Ne.symm f2, e2, e3, hend, hend', cmdAV]
          exact ⟨rfl, (HLe.set_new (L9 _ _ _) hr0).wk⟩
end Go.Proofs.YtghlkjkdejebnaaGreatDoor
namespace Go.Proofs.YtghlkjkdejebnaaGreatDoor
open Rg Go
variable {H : Heap}
structure QInv (H : Heap) (b : List UInt8) (t : Rg.Tok) (p pc pr : Nat) (s : Nat × Bool) (c : Cm) (K : Heap) : Prop where
  tk : K p = some (tkO b t s)
  cc : K pc = some (.cells (cmC c .nil) 27)
  rr : K pr = some (.cells (cmC cm0 .nil) 27)
  L : HLe H K
  p0 : H p = none
  c0 : H pc = none
  r0 : H pr = none
  n1 : p ≠ pc
  n2 : p ≠ pr
  n3 : pc ≠ pr
  le : s.1 ≤ b.length
section
variable {b : List UInt8} {t : Rg.Tok} {p pc pr : Nat} {s : Nat × Bool} {c : Cm} {K : Heap}
theorem QInv.upd (h : QInv H b t p pc pr s c K) {s' : Nat × Bool} (hs : s'.1 ≤ b.length) : QInv H b t p pc pr s' c (K.set p (tkO b t s')) :=
  ⟨by simp [Heap.set], by simp [Heap.set, Ne.symm h.n1, h.cc], by simp [Heap.set, Ne.symm h.n2, h.rr], HLe.set_new h.L h.p0, h.p0, h.c0, h.r0, h.n1, h.n2, h.n3, hs⟩
theorem QInv.put (h : QInv H b t p pc pr s c K) {c' : Cm} : QInv H b t p pc pr s c' (K.set pc (.cells (cmC c' .nil) 27)) :=
  ⟨by simp [Heap.set, h.n1, h.tk], by simp [Heap.set], by simp [Heap.set, Ne.symm h.n3, h.rr], HLe.set_new h.L h.c0, h.p0, h.c0, h.r0, h.n1, h.n2, h.n3, h.le⟩
end
theorem putC_len {c : Cm} (ho : CmOk c) (hm : mayM c = 0) (hs : c.job.ex.length ≤ 4096) : (putC c).length ≤ 4600 := by
  have nL := numsB_len (headC c)
  have : (headC c).length = 7 := rfl
  unfold putC
  rw [List.length_append]
  split
  · rename_i hb
    have := putJ_len ho.job ((MM.of hm).job hb) hs
    omega
  · simp only [List.length_nil]; omega
set_option maxHeartbeats 4000000 in
theorem c_ref19Parse (b : List UInt8) (hb : b.length ≤ 1000000) : AOk Tryz.prog 13 [.sl (u8s b) .no] H (cmdAV (parseC b)) H := by
  rw [← parseC_eq]
  obtain ⟨res, hres⟩ : ∃ res, parseCT b = res := ⟨_, rfl⟩
  rw [hres]
  refine ACalls.into Tryz.func13 rfl Tryz.ntmps13 Tryz.results13 (by simp) ?_
  simp -implicitDefEqProofs
  refine AAlloc.intro fun pr hpr => ?_
  simp -implicitDefEqProofs
  refine AAlloc.intro fun p hp => ?_
  simp -implicitDefEqProofs
  refine AAlloc.intro fun pc hpc => ?_
  have e1 : pr ≠ p := by rintro rfl; simp [Heap.set] at hp
  have e2 : p ≠ pc := by rintro rfl; simp [Heap.set] at hpc
  have e3 : pr ≠ pc := by rintro rfl; simp [Heap.set, e1] at hpc
  have hp0 : H p = none := by simpa [Heap.set, Ne.symm e1] using hp
  have hc0 : H pc = none := by simpa [Heap.set, Ne.symm e2, Ne.symm e3] using hpc
  simp -implicitDefEqProofs [e1, e2, e3]
  generalize hK : Heap.set _ pc _ = K0
  have P0 : QInv H b .no p pc pr (0, false) cm0 K0 := by
    rw [← hK]
    refine ⟨by simp [Heap.set, e2, tkO, tkC, tkAt_ok], by simp [Heap.set]; rfl, by simp [Heap.set, e1, e3]; rfl, ?_, hp0, hc0, hpr, e2, Ne.symm e1, Ne.symm e3, Nat.zero_le _⟩
    exact HLe.set_new (HLe.set_new (HLe.set_fresh hpr) hp0) hc0
  clear hK hp hpc
  refine ACall.eq (c_tNum P0.tk P0.le hb) ?_
  obtain ⟨r1, hr1⟩ : ∃ r, numS b 18446744073709551615 (0, false) = r := ⟨_, rfl⟩
  have P1 := P0.upd (s' := r1.2) (by rw [← hr1]; exact (numS_le b _ _ P0.le).1)
  have u1 : r1.1 < 18446744073709551616 := by rw [← hr1]; exact numS_lt b _ _
  rw [hr1]
  generalize Heap.set _ p _ = K1 at *
  simp -implicitDefEqProofs
  refine ACall.eq (c_tNum P1.tk P1.le hb) ?_
  obtain ⟨r2, hr2⟩ : ∃ r, numS b 18446744073709551615 r1.2 = r := ⟨_, rfl⟩
  have P2 := P1.upd (s' := r2.2) (by rw [← hr2]; exact (numS_le b _ _ P1.le).1)
  have u2 : r2.1 < 18446744073709551616 := by rw [← hr2]; exact numS_lt b _ _
  rw [hr2]
  generalize Heap.set _ p _ = K2 at *
  simp -implicitDefEqProofs [P2.cc]
  generalize hU : K2.set pc _ = K3
  have P3 : QInv H b .no p pc pr r2.2 ⟨0, r2.1, 0, 0, 0, 0, 0, jb0⟩ K3 := by rw [← hU]; exact P2.put
  clear hU
  refine ACall.eq (c_tNum P3.tk P3.le hb) ?_
  obtain ⟨r3, hr3⟩ : ∃ r, numS b 18446744073709551615 r2.2 = r := ⟨_, rfl⟩
  have P4 := P3.upd (s' := r3.2) (by rw [← hr3]; exact (numS_le b _ _ P3.le).1)
  have u3 : r3.1 < 18446744073709551616 := by rw [← hr3]; exact numS_lt b _ _
  rw [hr3]
  generalize Heap.set _ p _ = K4 at *
  simp -implicitDefEqProofs [P4.cc]
  generalize hU : K4.set pc _ = K5
  have P5 : QInv H b .no p pc pr r3.2 ⟨0, r2.1, r3.1, 0, 0, 0, 0, jb0⟩ K5 := by rw [← hU]; exact P4.put
  clear hU
  refine ACall.eq (c_tNum P5.tk P5.le hb) ?_
  obtain ⟨r4, hr4⟩ : ∃ r, numS b 18446744073709551615 r3.2 = r := ⟨_, rfl⟩
  have P6 := P5.upd (s' := r4.2) (by rw [← hr4]; exact (numS_le b _ _ P5.le).1)
  have u4 : r4.1 < 18446744073709551616 := by rw [← hr4]; exact numS_lt b _ _
  rw [hr4]
  generalize Heap.set _ p _ = K6 at *
  simp -implicitDefEqProofs [P6.cc]
  generalize hU : K6.set pc _ = K7
  have P7 : QInv H b .no p pc pr r4.2 ⟨0, r2.1, r3.1, r4.1, 0, 0, 0, jb0⟩ K7 := by rw [← hU]; exact P6.put
  clear hU
  refine ACall.eq (c_tNum P7.tk P7.le hb) ?_
  obtain ⟨r5, hr5⟩ : ∃ r, numS b 18446744073709551615 r4.2 = r := ⟨_, rfl⟩
  have P8 := P7.upd (s' := r5.2) (by rw [← hr5]; exact (numS_le b _ _ P7.le).1)
  have u5 : r5.1 < 18446744073709551616 := by rw [← hr5]; exact numS_lt b _ _
  rw [hr5]
  generalize Heap.set _ p _ = K8 at *
  simp -implicitDefEqProofs
  refine ACall.eq (c_tNum P8.tk P8.le hb) ?_
  obtain ⟨r6, hr6⟩ : ∃ r, numS b 18446744073709551615 r5.2 = r := ⟨_, rfl⟩
  have P9 := P8.upd (s' := r6.2) (by rw [← hr6]; exact (numS_le b _ _ P8.le).1)
  have u6 : r6.1 < 18446744073709551616 := by rw [← hr6]; exact numS_lt b _ _
  rw [hr6]
  generalize Heap.set _ p _ = K9 at *
  simp -implicitDefEqProofs [P9.cc]
  generalize hU : K9.set pc _ = K10
  have P10 : QInv H b .no p pc pr r6.2 ⟨0, r2.1, r3.1, r4.1, 0, r6.1, 0, jb0⟩ K10 := by rw [← hU]; exact P9.put
  clear hU
  refine ACall.eq (c_tNum P10.tk P10.le hb) ?_
  obtain ⟨r7, hr7⟩ : ∃ r, numS b 18446744073709551615 r6.2 = r := ⟨_, rfl⟩
  have P11 := P10.upd (s' := r7.2) (by rw [← hr7]; exact (numS_le b _ _ P10.le).1)
  have u7 : r7.1 < 18446744073709551616 := by rw [← hr7]; exact numS_lt b _ _
  rw [hr7]
  generalize Heap.set _ p _ = K11 at *
  have hparse : res = if r7.2.2 = true ∨ 10 < r1.1 ∨ 13569465600 < r5.1 then none else if bearsC (r1.1 : Int) = true then
      match parseJ b r7.2.1 with
      | none => none
      | some (j, _) => let c : Cm := ⟨(r1.1 : Int), r2.1, r3.1, r4.1, (r5.1 : Int), r6.1, r7.1, j⟩; if mayM c ≠ 0 ∨ putC c ≠ b then none else some c
    else let c : Cm := ⟨(r1.1 : Int), r2.1, r3.1, r4.1, (r5.1 : Int), r6.1, r7.1, jb0⟩; if mayM c ≠ 0 ∨ putC c ≠ b then none else some c := by
    rw [← hres]
    simp only [parseCT, headP, any64, hr1, hr2, hr3, hr4, hr5, hr6, hr7]
    rfl
  clear hres
  have L11' : ∀ o o', HLe H ((K11.set pc o).set pr o') := fun _ _ => HLe.set_new (HLe.set_new P11.L hc0) hpr
  obtain ⟨s7, hs7⟩ : ∃ s, r7.2 = s := ⟨_, rfl⟩
  have tk7 := P11.tk
  have le7 := P11.le
  rw [hs7] at tk7 le7 hparse
  by_cases hbad : s7.2 = true
  · have hneg : tkAt s7 < 0 := by rw [tkAt_neg]; exact hbad
    rw [if_pos (.inl hbad)] at hparse
    subst hparse
    simp -implicitDefEqProofs [P11.cc, tk7, hneg, e1, e2, e3, Ne.symm e3, P11.rr, cmdAV]
    exact ⟨rfl, (L11' _ _).wk⟩
  · have hneg : ¬ tkAt s7 < 0 := by rw [tkAt_neg]; exact hbad
    have hs1 : tkAt s7 = (s7.1 : Int) := by unfold tkAt; rw [if_neg hbad]
    have hz : ¬ (s7.1 : Int) < 0 := by omega
    by_cases h1 : 10 < r1.1
    · have h1' : (10 : Int) < (r1.1 : Int) := by omega
      rw [if_pos (.inr (.inl h1))] at hparse
      subst hparse
      simp -implicitDefEqProofs [P11.cc, tk7, hneg, h1, h1', e1, e2, e3, Ne.symm e3, P11.rr, cmdAV]
      exact ⟨rfl, (L11' _ _).wk⟩
    · have h1' : ¬ (10 : Int) < (r1.1 : Int) := by omega
      by_cases h5 : 13569465600 < r5.1
      · have h5' : (13569465600 : Int) < (r5.1 : Int) := by omega
        rw [if_pos (.inr (.inr h5))] at hparse
        subst hparse
        simp -implicitDefEqProofs [P11.cc, tk7, hneg, h1, h1', h5, h5', e1, e2, e3, Ne.symm e3, P11.rr, cmdAV]
        exact ⟨rfl, (L11' _ _).wk⟩
      · have h5' : ¬ (13569465600 : Int) < (r5.1 : Int) := by omega
        rw [if_neg (by rintro (h | h | h); exact hbad h; exact h1 h; exact h5 h)] at hparse
        have w1 : IntKind.i64.wrap (r1.1 : Int) = (r1.1 : Int) := wrap_i64 (by omega) (by omega)
        have w5 : IntKind.i64.wrap (r5.1 : Int) = (r5.1 : Int) := wrap_i64 (by omega) (by omega)
        by_cases hbr : bearsC (r1.1 : Int) = true
        · rw [if_pos hbr] at hparse
          have h23 : r1.1 = 2 ∨ r1.1 = 3 := sm10 hbr
          have hcall := fun K => c_ref14Parse (H := K) b .no s7.1 le7 hb
          rcases hj : parseJ b s7.1 with _ | ⟨j, e⟩
          · rw [hj] at hcall hparse
            simp only [parseAV] at hparse hcall
            subst hparse
            rcases h23 with h23 | h23
            all_goals
              simp -implicitDefEqProofs [P11.cc, tk7, hneg, h1, h1', h5, h5', w1, w5, hs1, h23, e1, e2, e3, Ne.symm e3, P11.rr]
              refine ACall.eq (hcall _) ?_
              simp -implicitDefEqProofs
              refine AAlloc.intro fun p8 hp8 => ?_
              have g4 : pr ≠ p8 := by rintro rfl; simp [Heap.set, e3, P11.rr] at hp8
              have h8 : H p8 = none := (HLe.set_new P11.L hc0).none hp8
              simp -implicitDefEqProofs [g4, e3, Ne.symm e3, P11.rr, cmdAV]
              exact ⟨rfl, (HLe.set_new (HLe.set_new (HLe.set_new P11.L hc0) h8) hpr).wk⟩
          · rw [hj] at hcall hparse
            simp only [parseAV] at hparse hcall
            obtain ⟨-, jok, -, jex⟩ := parse_inv hj
            have cok : CmOk ⟨(r1.1 : Int), r2.1, r3.1, r4.1, (r5.1 : Int), r6.1, r7.1, j⟩ := ⟨u2, u3, u4, u6, u7, jok⟩
            rcases h23 with h23 | h23
            · have k2 : ((r1.1 : Int) = 2) = True := eq_true (by omega)
              simp -implicitDefEqProofs [P11.cc, tk7, hneg, h1, h1', h5, h5', w1, w5, hs1, k2, e1, e2, e3, Ne.symm e3, P11.rr]
              refine ACall.eq (hcall _) ?_
              simp -implicitDefEqProofs
              refine AAlloc.intro fun p8 hp8 => ?_
              have g4 : pr ≠ p8 := by rintro rfl; simp [Heap.set, e3, P11.rr] at hp8
              have g3 : pc ≠ p8 := by rintro rfl; simp [Heap.set] at hp8
              have h8 : H p8 = none := (HLe.set_new P11.L hc0).none hp8
              simp -implicitDefEqProofs [g4, g3, e3, Ne.symm e3, P11.rr]
              generalize hK9 : Heap.set (Heap.set _ p8 _) pc _ = K9
              have c9 : K9 pc = some (.cells (cmC ⟨(r1.1 : Int), r2.1, r3.1, r4.1, (r5.1 : Int), r6.1, r7.1, j⟩ .no) 27) := by rw [← hK9]; simp [Heap.set, g3, g4]
              have R9 : K9 pr = some (.cells (cmC cm0 .nil) 27) := by rw [← hK9]; simp [Heap.set, e3, Ne.symm e3, g3, g4, P11.rr]
              have L9 : HLe H K9 := by rw [← hK9]; exact HLe.set_new (HLe.set_new (HLe.set_new P11.L hc0) h8) hc0
              clear hK9
              try simp only at hparse
              obtain ⟨pq, hpq⟩ : ∃ q, putC ⟨(r1.1 : Int), r2.1, r3.1, r4.1, (r5.1 : Int), r6.1, r7.1, j⟩ = q := ⟨_, rfl⟩
              obtain ⟨em, hem⟩ : ∃ e, mayM ⟨(r1.1 : Int), r2.1, r3.1, r4.1, (r5.1 : Int), r6.1, r7.1, j⟩ = e := ⟨_, rfl⟩
              have hc1 := fun hm => c_ref19PutOk (H := K9) ⟨(r1.1 : Int), r2.1, r3.1, r4.1, (r5.1 : Int), r6.1, r7.1, j⟩ .no cok hm jex
              have hc2 := fun hm => c_ref19PutNo (H := K9) ⟨(r1.1 : Int), r2.1, r3.1, r4.1, (r5.1 : Int), r6.1, r7.1, j⟩ .no hm (Nat.le_trans jex (by omega))
              have hpl := fun hm => putC_len (c := ⟨(r1.1 : Int), r2.1, r3.1, r4.1, (r5.1 : Int), r6.1, r7.1, j⟩) cok hm jex
              rw [hpq, hem] at hparse hc1 hpl
              rw [hem] at hc2
              by_cases hm : em = 0
              · have hpl := hpl hm
                have m1 : pq.length ≤ maxLen := by simp only [maxLen]; omega
                have m2 : b.length ≤ maxLen := by simp only [maxLen]; omega
                refine ACall.eq (hc1 hm) ?_
                by_cases he : pq = b
                · have hbe : (pq == b) = true := by simp [he]
                  rw [if_neg (by rintro (h | h); exact h hm; exact h he)] at hparse
                  subst hparse
                  simp -implicitDefEqProofs [aconv, abytes_u8s pq, abytes_u8s b, m1, m2, hbe, c9, R9, Ne.symm e3, e3, cmdAV]
                  exact (HLe.set_new L9 hpr).wk
                · have hbe : (pq == b) = false := by simpa using he
                  rw [if_pos (.inr he)] at hparse
                  subst hparse
                  simp -implicitDefEqProofs [aconv, abytes_u8s pq, abytes_u8s b, m1, m2, hbe, c9, R9, Ne.symm e3, e3, cmdAV]
                  exact ⟨rfl, (HLe.set_new L9 hpr).wk⟩
              · refine ACall.eq (hc2 hm) ?_
                rw [if_pos (.inl hm)] at hparse
                subst hparse
                simp -implicitDefEqProofs [hm, R9, cmdAV]
                exact ⟨rfl, (HLe.set_new L9 hpr).wk⟩
            · have k2 : ((r1.1 : Int) = 2) = False := eq_false (by omega)
              have k3 : ((r1.1 : Int) = 3) = True := eq_true (by omega)
              simp -implicitDefEqProofs [P11.cc, tk7, hneg, h1, h1', h5, h5', w1, w5, hs1, k2, k3, e1, e2, e3, Ne.symm e3, P11.rr]
              refine ACall.eq (hcall _) ?_
              simp -implicitDefEqProofs
              refine AAlloc.intro fun p8 hp8 => ?_
              have g4 : pr ≠ p8 := by rintro rfl; simp [Heap.set, e3, P11.rr] at hp8
              have g3 : pc ≠ p8 := by rintro rfl; simp [Heap.set] at hp8
              have h8 : H p8 = none := (HLe.set_new P11.L hc0).none hp8
              simp -implicitDefEqProofs [g4, g3, e3, Ne.symm e3, P11.rr]
              generalize hK9 : Heap.set (Heap.set _ p8 _) pc _ = K9
              have c9 : K9 pc = some (.cells (cmC ⟨(r1.1 : Int), r2.1, r3.1, r4.1, (r5.1 : Int), r6.1, r7.1, j⟩ .no) 27) := by rw [← hK9]; simp [Heap.set, g3, g4]
              have R9 : K9 pr = some (.cells (cmC cm0 .nil) 27) := by rw [← hK9]; simp [Heap.set, e3, Ne.symm e3, g3, g4, P11.rr]
              have L9 : HLe H K9 := by rw [← hK9]; exact HLe.set_new (HLe.set_new (HLe.set_new P11.L hc0) h8) hc0
              clear hK9
              try simp only at hparse
              obtain ⟨pq, hpq⟩ : ∃ q, putC ⟨(r1.1 : Int), r2.1, r3.1, r4.1, (r5.1 : Int), r6.1, r7.1, j⟩ = q := ⟨_, rfl⟩
              obtain ⟨em, hem⟩ : ∃ e, mayM ⟨(r1.1 : Int), r2.1, r3.1, r4.1, (r5.1 : Int), r6.1, r7.1, j⟩ = e := ⟨_, rfl⟩
              have hc1 := fun hm => c_ref19PutOk (H := K9) ⟨(r1.1 : Int), r2.1, r3.1, r4.1, (r5.1 : Int), r6.1, r7.1, j⟩ .no cok hm jex
              have hc2 := fun hm => c_ref19PutNo (H := K9) ⟨(r1.1 : Int), r2.1, r3.1, r4.1, (r5.1 : Int), r6.1, r7.1, j⟩ .no hm (Nat.le_trans jex (by omega))
              have hpl := fun hm => putC_len (c := ⟨(r1.1 : Int), r2.1, r3.1, r4.1, (r5.1 : Int), r6.1, r7.1, j⟩) cok hm jex
              rw [hpq, hem] at hparse hc1 hpl
              rw [hem] at hc2
              by_cases hm : em = 0
              · have hpl := hpl hm
                have m1 : pq.length ≤ maxLen := by simp only [maxLen]; omega
                have m2 : b.length ≤ maxLen := by simp only [maxLen]; omega
                refine ACall.eq (hc1 hm) ?_
                by_cases he : pq = b
                · have hbe : (pq == b) = true := by simp [he]
                  rw [if_neg (by rintro (h | h); exact h hm; exact h he)] at hparse
                  subst hparse
                  simp -implicitDefEqProofs [aconv, abytes_u8s pq, abytes_u8s b, m1, m2, hbe, c9, R9, Ne.symm e3, e3, cmdAV]
                  exact (HLe.set_new L9 hpr).wk
                · have hbe : (pq == b) = false := by simpa using he
                  rw [if_pos (.inr he)] at hparse
                  subst hparse
                  simp -implicitDefEqProofs [aconv, abytes_u8s pq, abytes_u8s b, m1, m2, hbe, c9, R9, Ne.symm e3, e3, cmdAV]
                  exact ⟨rfl, (HLe.set_new L9 hpr).wk⟩
              · refine ACall.eq (hc2 hm) ?_
                rw [if_pos (.inl hm)] at hparse
                subst hparse
                simp -implicitDefEqProofs [hm, R9, cmdAV]
                exact ⟨rfl, (HLe.set_new L9 hpr).wk⟩
        · rw [if_neg hbr] at hparse
          have cok : CmOk ⟨(r1.1 : Int), r2.1, r3.1, r4.1, (r5.1 : Int), r6.1, r7.1, jb0⟩ := ⟨u2, u3, u4, u6, u7, jb0_ok⟩
          simp only [bearsC, Bool.or_eq_true, decide_eq_true_eq, not_or] at hbr
          have k2 : ((r1.1 : Int) = 2) = False := eq_false (by omega)
          have k3 : ((r1.1 : Int) = 3) = False := eq_false (by omega)
          simp -implicitDefEqProofs [P11.cc, tk7, hneg, h1, h1', h5, h5', w1, w5, hs1, k2, k3, e1, e2, e3, Ne.symm e3, P11.rr]
          generalize hK9 : Heap.set _ pc _ = K9
          have c9 : K9 pc = some (.cells (cmC ⟨(r1.1 : Int), r2.1, r3.1, r4.1, (r5.1 : Int), r6.1, r7.1, jb0⟩ .nil) 27) := by rw [← hK9]; simp [Heap.set]
          have R9 : K9 pr = some (.cells (cmC cm0 .nil) 27) := by rw [← hK9]; simp [Heap.set, e3, Ne.symm e3, P11.rr]
          have L9 : HLe H K9 := by rw [← hK9]; exact HLe.set_new P11.L hc0
          clear hK9
          try simp only at hparse
          obtain ⟨pq, hpq⟩ : ∃ q, putC ⟨(r1.1 : Int), r2.1, r3.1, r4.1, (r5.1 : Int), r6.1, r7.1, jb0⟩ = q := ⟨_, rfl⟩
          obtain ⟨em, hem⟩ : ∃ e, mayM ⟨(r1.1 : Int), r2.1, r3.1, r4.1, (r5.1 : Int), r6.1, r7.1, jb0⟩ = e := ⟨_, rfl⟩
          have hc1 := fun hm => c_ref19PutOk (H := K9) ⟨(r1.1 : Int), r2.1, r3.1, r4.1, (r5.1 : Int), r6.1, r7.1, jb0⟩ .nil cok hm (by simp [jb0])
          have hc2 := fun hm => c_ref19PutNo (H := K9) ⟨(r1.1 : Int), r2.1, r3.1, r4.1, (r5.1 : Int), r6.1, r7.1, jb0⟩ .nil hm (Nat.le_trans (show jb0.ex.length ≤ 4096 by simp [jb0]) (by omega))
          have hpl := fun hm => putC_len (c := ⟨(r1.1 : Int), r2.1, r3.1, r4.1, (r5.1 : Int), r6.1, r7.1, jb0⟩) cok hm (by simp [jb0])
          rw [hpq, hem] at hparse hc1 hpl
          rw [hem] at hc2
          by_cases hm : em = 0
          · have hpl := hpl hm
            have m1 : pq.length ≤ maxLen := by simp only [maxLen]; omega
            have m2 : b.length ≤ maxLen := by simp only [maxLen]; omega
            refine ACall.eq (hc1 hm) ?_
            by_cases he : pq = b
            · have hbe : (pq == b) = true := by simp [he]
              rw [if_neg (by rintro (h | h); exact h hm; exact h he)] at hparse
              subst hparse
              simp -implicitDefEqProofs [aconv, abytes_u8s pq, abytes_u8s b, m1, m2, hbe, c9, R9, Ne.symm e3, e3, cmdAV]
              exact (HLe.set_new L9 hpr).wk
            · have hbe : (pq == b) = false := by simpa using he
              rw [if_pos (.inr he)] at hparse
              subst hparse
              simp -implicitDefEqProofs [aconv, abytes_u8s pq, abytes_u8s b, m1, m2, hbe, c9, R9, Ne.symm e3, e3, cmdAV]
              exact ⟨rfl, (HLe.set_new L9 hpr).wk⟩
          · refine ACall.eq (hc2 hm) ?_
            rw [if_pos (.inl hm)] at hparse
            subst hparse
            simp -implicitDefEqProofs [hm, R9, cmdAV]
            exact ⟨rfl, (HLe.set_new L9 hpr).wk⟩
end Go.Proofs.YtghlkjkdejebnaaGreatDoor
