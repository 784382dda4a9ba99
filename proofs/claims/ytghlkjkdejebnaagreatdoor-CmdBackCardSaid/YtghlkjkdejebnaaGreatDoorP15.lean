/- Jobs as bytes: job.Put. Jobs as bytes: what job.Parse's closures take. Jobs as bytes: job.Parse. What job.Put has put, job.Parse takes. Numbers as bytes, by definition: what is taken was put; the document's way of taking. -/
import Derived.Test.YtghlkjkdejebnaaGreatDoorP14
set_option linter.unusedSimpArgs false
set_option linter.unusedVariables false
set_option linter.unnecessarySimpa false
namespace Go.Proofs.YtghlkjkdejebnaaGreatDoor
open Rg Go
variable {H : Heap}
structure BufAt (e T : TypeId) (H0 : Heap) (c : Nat) (xs : List AV) (K : Heap) : Prop where
  le : HLe H0 K
  no : H0 c = none
  row : ∃ t, K c = some (.cells [.sl xs t] T) ∧ ((t = .nil ∧ xs = []) ∨ ∃ g cap, g ≠ c ∧ H0 g = none ∧ t = .own g cap 1 e ∧ K g = some (.open xs.length cap 1 e))
theorem BufAt.start {e T : TypeId} {H0 : Heap} {c : Nat} (h : H0 c = none) : BufAt e T H0 c [] (H0.set c (.cells [.sl [] .nil] T)) :=
  ⟨HLe.set_fresh h, h, _, by simp [Heap.set], .inl ⟨rfl, rfl⟩⟩
theorem BufAt.grows {e T : TypeId} {H0 K : Heap} {c : Nat} {xs : List AV} (h : BufAt e T H0 c xs K) :
    ∃ t G0 G, K c = some (.cells [.sl xs t] T) ∧ Grows G0 xs 1 e t G ∧ HLe G K ∧ HLe H0 G0 ∧ G0 c = some (.cells [.sl xs t] T) := by
  obtain ⟨t, h1, ⟨rfl, rfl⟩ | ⟨g, cap, h2, h3, rfl, h4⟩⟩ := h.row
  · exact ⟨_, K, K, h1, .zero, HLe.refl _, h.le, h1⟩
  · refine ⟨_, K.del g, (K.del g).set g (.open xs.length cap 1 e), h1, .inr ⟨g, cap, by simp [Heap.del], rfl, rfl⟩, fun b ob hb => ?_, HLe.del_new h.le h3, by simp [Heap.del, Ne.symm h2, h1]⟩
    by_cases hbg : b = g
    · subst hbg
      simp only [Heap.set, if_true] at hb
      rw [← hb]; exact h4
    · simpa [Heap.set, Heap.del, hbg] using hb
theorem BufAt.stored {e T : TypeId} {H0 G0 K' Hn : Heap} {c : Nat} {xs : List AV} {t' : Rg.Tok} {o : AObj} (h1 : HLe H0 G0) (h2 : H0 c = none) (h3 : G0 c = some o) (h4 : Grows G0 xs 1 e t' K') (h5 : HLe K' Hn) :
    BufAt e T H0 c xs (Hn.set c (.cells [.sl xs t'] T)) := by
  have hle := (h1.trans h4.le).trans h5
  refine ⟨HLe.set_new hle h2, h2, t', by simp [Heap.set], ?_⟩
  rcases h4 with ⟨rfl, rfl, rfl⟩ | ⟨g, cap, g1, rfl, rfl⟩
  · exact .inl ⟨rfl, rfl⟩
  · have hgc : g ≠ c := by rintro rfl; rw [h3] at g1; cases g1
    exact .inr ⟨g, cap, hgc, h1.none g1, rfl, by simp [Heap.set, hgc]; exact h5 g _ (by simp [Heap.set])⟩
theorem BufAt.cell {e T : TypeId} {H0 K : Heap} {c b : Nat} {xs : List AV} {o : AObj} (h : BufAt e T H0 c xs K) (hb : H0 b = some o) : K b = some o := h.le b o hb
abbrev u64s (L : List Nat) : List AV := L.map fun n : Nat => .sc (.int .u64 (n : Int))
def numsB (L : List Nat) : List UInt8 := L.flatMap putB
theorem numsB_len : ∀ L : List Nat, (numsB L).length ≤ 10 * L.length
  | [] => by simp [numsB]
  | n :: L => by
    have h1 := putB_len n
    have h2 := numsB_len L
    simp only [numsB, List.flatMap_cons, List.length_append, List.length_cons] at *
    omega
theorem numsB_take {L : List Nat} {i n : Nat} (h : L[i]? = some n) : numsB (L.take (i + 1)) = numsB (L.take i) ++ putB n := by
  rw [List.take_add_one, h]
  simp [numsB]
set_option maxHeartbeats 1000000 in
theorem c_putNum {H0 K : Heap} {c : Nat} {bs : List UInt8} (hB : BufAt 5 28 H0 c (u8s bs) K) (L : List Nat) (t : Rg.Tok) (hL : L.length ≤ 1000) (hbs : bs.length ≤ 100000) (h64 : ∀ n ∈ L, n < 18446744073709551616) :
    ACalls Tryz.prog 96 [.sl (u64s L) t, .sc (.pointer (some ⟨c, 0, none⟩))] K (fun v K' => v = .tup [] ∧ BufAt 5 28 H0 c (u8s (bs ++ numsB L)) K') := by
  generalize hR : (fun (v : AV) (K' : Heap) => v = .tup [] ∧ BufAt 5 28 H0 c (u8s (bs ++ numsB L)) K') = R
  refine ACalls.into Tryz.func96 rfl Tryz.ntmps96 Tryz.results96 (by simp) ?_
  simp -implicitDefEqProofs
  refine AGo.rounds (fun m ρ K2 => ∃ i, m = L.length - i ∧ i ≤ L.length ∧ ρ 7 = .sc (.int .i64 (i : Int)) ∧ ρ 1 = .sc (.pointer (some ⟨c, 0, none⟩)) ∧ ρ 5 = .sl (u64s L) t ∧ ρ 6 = .sc (.int .i64 (L.length : Int)) ∧ BufAt 5 28 H0 c (u8s (bs ++ numsB (L.take i))) K2) ?_ (m := L.length) (HLe.refl _)
    ⟨0, rfl, by omega, by simp, by simp, by simp, by simp, by simpa [numsB] using hB⟩
  rintro m ρ K2 ih ⟨i, rfl, hi, r7, r1, r5, r6, hb⟩
  rcases Nat.lt_or_ge i L.length with hlt | hge
  · obtain ⟨n, hej, hn⟩ := getAt hlt
    have hlt' : (i : Int) < (L.length : Int) := by omega
    have hw1 : IntKind.i64.wrap ((i : Int) + 1) = (i : Int) + 1 := wrap_i64 (by omega) (by omega)
    have hn64 := h64 n (List.mem_of_getElem? hn)
    have hpl := putB_len n
    have hnl := numsB_len (L.take i)
    rw [List.length_take] at hnl
    have hq' : bs ++ numsB (L.take (i + 1)) = bs ++ numsB (L.take i) ++ putB n := by rw [numsB_take hn, List.append_assoc]
    have hql : (bs ++ numsB (L.take i)).length ≤ 200000 := by rw [List.length_append]; omega
    obtain ⟨q, hq⟩ : ∃ q, bs ++ numsB (L.take i) = q := ⟨_, rfl⟩
    rw [hq] at hb hq' hql
    obtain ⟨t1, G0, G, hc, hg, hl, hl0, hc0⟩ := hb.grows
    simp -implicitDefEqProofs [r7, r1, r5, r6, hlt, hlt', hej]
    refine go_draw3 [1, 2] (fun _ => none) f_mixed (by decide +kernel) HC.nothing ?_
    simp -implicitDefEqProofs
    refine aq3_op ?_
    simp -implicitDefEqProofs
    refine aq3_op ?_
    simp -implicitDefEqProofs
    refine ⟨_, fun H' _ => c_packPut n hn64, ?_⟩
    simp -implicitDefEqProofs
    refine AWK.one 0 (by decide +kernel) ?_
    refine AWE.op rfl ?_
    simp -implicitDefEqProofs [r1, hc]
    refine AWK.one 3 (by decide +kernel) ?_
    refine AWE.op rfl ?_
    simp -implicitDefEqProofs
    refine AWS.grows0 el_28 hg hl (szs_u8s _) (szs_u8s _) (by simp; omega) (by simp [maxLen]; omega) fun t' K' Hn hg' hl' _ => ?_
    refine AWK.one 4 (by decide +kernel) ?_
    refine AWE.op rfl ?_
    have hcn : Hn c = some (.cells [.sl (u8s q) t1] 28) := hl' c _ (hg'.le c _ hc0)
    rw [← u8s_app, ← hq'] at hg'
    rw [← u8s_app, ← hq']
    clear hq hq'
    obtain ⟨q2, hq2⟩ : ∃ q2, bs ++ numsB (L.take (i + 1)) = q2 := ⟨_, rfl⟩
    rw [hq2] at hg' ⊢
    simp -implicitDefEqProofs [r1, hcn]
    refine AWS.store hcn (fun _ _ h => by cases h) ?_
    refine AWK.fin (by decide +kernel) ?_
    simp -implicitDefEqProofs [r7, hw1]
    refine AGo.again ih (m' := L.length - (i + 1)) (by omega) (HLe.refl _) ⟨i + 1, rfl, by omega, by simp, by simp [r1], by simp [r5], by simp [r6], ?_⟩
    rw [hq2]
    exact BufAt.stored hl0 hb.no hc0 hg' hl'
  · have hn : ¬ (i : Int) < (L.length : Int) := by omega
    have hn' : ¬ i < L.length := by omega
    simp -implicitDefEqProofs [r7, r1, r5, r6, hn, hn']
    rw [List.take_of_length_le hge] at hb
    subst hR
    exact AFin.intro _ _ (wk_refl _) (HWk.refl _) ⟨rfl, hb⟩
def putJ (j : Jb) : List UInt8 :=
  numsB [j.id] ++ putTextB j.name ++ putTextB j.ex ++ numsB [j.pol.toNat, j.gr.toNat, j.lim.toNat, j.ret.toNat, j.tim.toNat, j.deps.length] ++ numsB j.deps ++ numsB [if j.pau then 1 else 0, j.ver] ++ putB (zig j.seen)
structure JbOk (j : Jb) : Prop where
  id : j.id < 18446744073709551616
  ver : j.ver < 18446744073709551616
  deps : ∀ n ∈ j.deps, n < 18446744073709551616
structure JbMay (j : Jb) : Prop where
  name : 1 ≤ j.name.length ∧ j.name.length ≤ 32
  ex : (cronK j.ex).2 = 0
  deps : j.deps.length ≤ 8
  pol : 1 ≤ j.pol ∧ j.pol ≤ 3
  gr : 0 ≤ j.gr ∧ j.gr ≤ 604800
  lim : 1 ≤ j.lim ∧ j.lim ≤ 8
  ret : 0 ≤ j.ret ∧ j.ret ≤ 5
  tim : 1 ≤ j.tim ∧ j.tim ≤ 86400
  seen : -1 ≤ j.seen ∧ j.seen < 13569465600
theorem JbMay.of {j : Jb} (h : mayJ j = 0) : JbMay j := by
  unfold mayJ at h
  split at h
  · cases h
  · split at h
    · cases h
    · split at h
      · rename_i h3
        exact absurd (by simpa using h) h3
      · split at h
        · cases h
        · split at h
          · cases h
          · rename_i h1 h2 h3 h4 h5
            simp only [badJ, Bool.or_eq_true, decide_eq_true_eq, not_or, Int.not_lt, Int.not_le] at h5
            obtain ⟨⟨⟨⟨⟨⟨⟨⟨⟨⟨⟨a1, a2⟩, a3⟩, a4⟩, a5⟩, a6⟩, a7⟩, a8⟩, a9⟩, a10⟩, a11⟩, a12⟩ := h5
            exact ⟨⟨by omega, by omega⟩, by simpa using h3, by omega, ⟨a1, a2⟩, ⟨a3, a4⟩, ⟨a5, a6⟩, ⟨a7, a8⟩, ⟨a9, a10⟩, ⟨a11, a12⟩⟩
set_option maxHeartbeats 2000000 in
theorem c_jobPut (hG : Glob H) (j : Jb) (t : Rg.Tok) (ho : JbOk j) (hm : mayJ j = 0) (hs : j.ex.length ≤ 4096) : AOk Tryz.prog 49 [jbAV j t] H (.tup [.sl (u8s (putJ j)) .no, .sc (.int .i64 0)]) H := by
  have M := JbMay.of hm
  refine ACalls.into Tryz.func49 rfl Tryz.ntmps49 Tryz.results49 (by simp) ?_
  simp -implicitDefEqProofs
  refine AAlloc.intro fun b1 h1 => ?_
  simp -implicitDefEqProofs
  generalize hK : Heap.set _ b1 _ = K1
  have k1 : K1 b1 = some (.cells (jbC j t) 25) := by rw [← hK]; simp [Heap.set]
  have kG : Glob K1 := by rw [← hK]; exact hG.new h1
  have kW : HLe H K1 := by rw [← hK]; exact HLe.set_fresh h1
  clear hK
  have hmay := c_jobMay kG j t (by omega)
  rw [hm] at hmay
  refine ACall.eq hmay ?_
  simp -implicitDefEqProofs [k1]
  refine AAlloc.intro fun c hc => ?_
  have hB0 : BufAt 5 28 K1 c (u8s []) (K1.set c (.cells [.sl [] .nil] 28)) := BufAt.start hc
  generalize K1.set c _ = K2 at *
  have hp1 := c_putNum hB0 [j.id] .full (by simp) (by simp) (by simpa using ho.id)
  simp only [u64s, List.map_cons, List.map_nil, List.nil_append] at hp1
  simp -implicitDefEqProofs [hB0.cell k1]
  refine ACall.intro hp1 ?_
  rintro v K3 ⟨rfl, hB1⟩
  simp -implicitDefEqProofs [hB1.cell k1]
  refine ACall.eq (c_putText j.name (by have := M.name; omega)) ?_
  simp -implicitDefEqProofs [hB1.cell k1]
  refine ACall.eq (c_putText j.ex hs) ?_
  obtain ⟨t1, G0, G, hc1, hg, hl, hl0, hc0⟩ := hB1.grows
  obtain ⟨q1, hq1⟩ : ∃ q, numsB [j.id] ++ putTextB j.name ++ putTextB j.ex = q := ⟨_, rfl⟩
  have hj : joinB [(numsB [j.id], t1), (putTextB j.name, Rg.Tok.no), (putTextB j.ex, Rg.Tok.no)] = q1 := by rw [← hq1]; simp [joinB]
  have hql : q1.length ≤ 5000 := by
    have a1 := numsB_len [j.id]
    have a2 := putB_len j.name.length
    have a3 := putB_len j.ex.length
    have := M.name
    rw [← hq1]
    simp only [putTextB, List.length_append, List.length_cons, List.length_nil] at *
    omega
  have hpj := c_packJoin (H := K3) [(numsB [j.id], t1), (putTextB j.name, Rg.Tok.no), (putTextB j.ex, Rg.Tok.no)] .full (by simp only [List.length_cons, List.length_nil]; omega) (by rw [hj]; omega)
  rw [hj] at hpj
  simp only [rowsAV, List.map_cons, List.map_nil] at hpj
  simp -implicitDefEqProofs [hB1.cell k1, hc1]
  refine ACall.intro hpj ?_
  rintro v K4 ⟨t2, rfl, hg2⟩
  have hc4 : K4 c = some (.cells [.sl (u8s (numsB [j.id])) t1] 28) := hg2.le c _ hc1
  have k41 : K4 b1 = some (.cells (jbC j t) 25) := hg2.le b1 _ (hB1.cell k1)
  have n1c : b1 ≠ c := by rintro rfl; rw [k1] at hc; cases hc
  have hB2 : BufAt 5 28 K1 c (u8s q1) (K4.set c (.cells [.sl (u8s q1) t2] 28)) := BufAt.stored hB1.le hc hc1 hg2 (HLe.refl _)
  obtain ⟨x1, hx1⟩ : ∃ x, j.pol.toNat = x := ⟨_, rfl⟩
  have w1 : IntKind.u64.wrap j.pol = (x1 : Int) := by have := M.pol; rw [wrap_u64 (by omega) (by omega)]; omega
  obtain ⟨x2, hx2⟩ : ∃ x, j.gr.toNat = x := ⟨_, rfl⟩
  have w2 : IntKind.u64.wrap j.gr = (x2 : Int) := by have := M.gr; rw [wrap_u64 (by omega) (by omega)]; omega
  obtain ⟨x3, hx3⟩ : ∃ x, j.lim.toNat = x := ⟨_, rfl⟩
  have w3 : IntKind.u64.wrap j.lim = (x3 : Int) := by have := M.lim; rw [wrap_u64 (by omega) (by omega)]; omega
  obtain ⟨x4, hx4⟩ : ∃ x, j.ret.toNat = x := ⟨_, rfl⟩
  have w4 : IntKind.u64.wrap j.ret = (x4 : Int) := by have := M.ret; rw [wrap_u64 (by omega) (by omega)]; omega
  obtain ⟨x5, hx5⟩ : ∃ x, j.tim.toNat = x := ⟨_, rfl⟩
  have w5 : IntKind.u64.wrap j.tim = (x5 : Int) := by have := M.tim; rw [wrap_u64 (by omega) (by omega)]; omega
  have w6 : IntKind.u64.wrap (j.deps.length : Int) = (j.deps.length : Int) := by have := M.deps; rw [wrap_u64 (by omega) (by omega)]
  simp -implicitDefEqProofs [hc4, n1c, k41, w1, w2, w3, w4, w5, w6]
  generalize K4.set c _ = K5 at *
  have hp2 := c_putNum hB2 [x1, x2, x3, x4, x5, j.deps.length] .full (by simp) (by omega) (by
    have := M.pol; have := M.gr; have := M.lim; have := M.ret; have := M.tim; have := M.deps
    simp only [List.mem_cons, List.not_mem_nil, or_false]
    omega)
  simp only [u64s, List.map_cons, List.map_nil] at hp2
  refine ACall.intro hp2 ?_
  rintro v K6 ⟨rfl, hB3⟩
  have a1 := numsB_len [x1, x2, x3, x4, x5, j.deps.length]
  simp only [List.length_cons, List.length_nil] at a1
  have hp3 := c_putNum hB3 j.deps t (by have := M.deps; omega) (by rw [List.length_append]; omega) ho.deps
  simp -implicitDefEqProofs [hB3.cell k1]
  refine ACall.intro hp3 ?_
  rintro v K7 ⟨rfl, hB4⟩
  have a2 := numsB_len j.deps
  obtain ⟨pn, hpn⟩ : ∃ pn : Nat, (if j.pau then 1 else 0) = pn := ⟨_, rfl⟩
  have hp4 := c_putNum hB4 [pn, j.ver] .full (by simp) (by rw [List.length_append, List.length_append]; have := M.deps; omega) (by
    have := ho.ver
    simp only [List.mem_cons, List.not_mem_nil, or_false]
    rintro n (rfl | rfl)
    · rw [← hpn]; split <;> omega
    · exact this)
  simp only [u64s, List.map_cons, List.map_nil] at hp4
  simp -implicitDefEqProofs [hB4.cell k1]
  by_cases hpau : j.pau = true
  · rw [hpau] at hpn
    simp only [if_true] at hpn
    subst hpn
    simp -implicitDefEqProofs [hpau, hB4.cell k1]
    refine ACall.intro hp4 ?_
    rintro v K8 ⟨rfl, hB5⟩
    obtain ⟨t5, G5, G6, hc5, hg5, hl5, hl50, hc50⟩ := hB5.grows
    obtain ⟨q5, hq5⟩ : ∃ q, q1 ++ numsB [x1, x2, x3, x4, x5, j.deps.length] ++ numsB j.deps ++ numsB [1, j.ver] = q := ⟨_, rfl⟩
    rw [hq5] at hg5 hc5 hB5
    have hq5l : q5.length ≤ 100000 := by
      have a3 := numsB_len [1, j.ver]
      have := M.deps
      rw [← hq5]
      simp only [List.length_append, List.length_cons, List.length_nil] at *
      omega
    have hpi := putB_len (zig j.seen)
    simp -implicitDefEqProofs [hB5.cell k1]
    refine go_draw3 [0, 1, 2, 3] K8 f_mixed (by decide +kernel) (HC.refl _) ?_
    simp -implicitDefEqProofs
    refine aq3_op ?_
    simp -implicitDefEqProofs [hc5]
    refine aq3_op ?_
    simp -implicitDefEqProofs [hB5.cell k1]
    refine aq3_op ?_
    simp -implicitDefEqProofs [hB5.cell k1]
    refine aq3_op ?_
    simp -implicitDefEqProofs
    refine ⟨_, fun H' _ => c_putInt j.seen (by have := M.seen; omega) (by have := M.seen; omega), ?_⟩
    simp -implicitDefEqProofs
    refine AWK.one 4 (by decide +kernel) ?_
    refine AWE.op rfl ?_
    simp -implicitDefEqProofs
    refine AWS.grows0 el_28 hg5 hl5 (szs_u8s _) (szs_u8s _) (by simp; omega) (by simp [maxLen]; omega) fun t' K' Hn hg' hl' _ => ?_
    refine AWK.one 5 (by decide +kernel) ?_
    refine AWE.op rfl ?_
    simp -implicitDefEqProofs
    refine AWK.one 6 (by decide +kernel) ?_
    refine AWE.op rfl ?_
    simp -implicitDefEqProofs
    refine AWK.fin (by decide +kernel) ?_
    simp -implicitDefEqProofs
    rw [← hx1, ← hx2, ← hx3, ← hx4, ← hx5, ← hq1] at hq5
    have hfin : q5 ++ putB (zig j.seen) = putJ j := by
      rw [← hq5]
      simp only [putJ, hpau, if_true, if_false, Bool.false_eq_true, List.append_assoc]
    refine ⟨?_, ((kW.trans hl50).trans (hg'.le.trans hl')).wk⟩
    rw [← hfin, u8s_app]
    exact wkL_refl _
  · have hpau : j.pau = false := by simpa using hpau
    rw [hpau] at hpn
    simp only [Bool.false_eq_true, if_false] at hpn
    subst hpn
    simp -implicitDefEqProofs [hpau, hB4.cell k1]
    refine ACall.intro hp4 ?_
    rintro v K8 ⟨rfl, hB5⟩
    obtain ⟨t5, G5, G6, hc5, hg5, hl5, hl50, hc50⟩ := hB5.grows
    obtain ⟨q5, hq5⟩ : ∃ q, q1 ++ numsB [x1, x2, x3, x4, x5, j.deps.length] ++ numsB j.deps ++ numsB [0, j.ver] = q := ⟨_, rfl⟩
    rw [hq5] at hg5 hc5 hB5
    have hq5l : q5.length ≤ 100000 := by
      have a3 := numsB_len [0, j.ver]
      have := M.deps
      rw [← hq5]
      simp only [List.length_append, List.length_cons, List.length_nil] at *
      omega
    have hpi := putB_len (zig j.seen)
    simp -implicitDefEqProofs [hB5.cell k1]
    refine go_draw3 [0, 1, 2, 3] K8 f_mixed (by decide +kernel) (HC.refl _) ?_
    simp -implicitDefEqProofs
    refine aq3_op ?_
    simp -implicitDefEqProofs [hc5]
    refine aq3_op ?_
    simp -implicitDefEqProofs [hB5.cell k1]
    refine aq3_op ?_
    simp -implicitDefEqProofs [hB5.cell k1]
    refine aq3_op ?_
    simp -implicitDefEqProofs
    refine ⟨_, fun H' _ => c_putInt j.seen (by have := M.seen; omega) (by have := M.seen; omega), ?_⟩
    simp -implicitDefEqProofs
    refine AWK.one 4 (by decide +kernel) ?_
    refine AWE.op rfl ?_
    simp -implicitDefEqProofs
    refine AWS.grows0 el_28 hg5 hl5 (szs_u8s _) (szs_u8s _) (by simp; omega) (by simp [maxLen]; omega) fun t' K' Hn hg' hl' _ => ?_
    refine AWK.one 5 (by decide +kernel) ?_
    refine AWE.op rfl ?_
    simp -implicitDefEqProofs
    refine AWK.one 6 (by decide +kernel) ?_
    refine AWE.op rfl ?_
    simp -implicitDefEqProofs
    refine AWK.fin (by decide +kernel) ?_
    simp -implicitDefEqProofs
    rw [← hx1, ← hx2, ← hx3, ← hx4, ← hx5, ← hq1] at hq5
    have hfin : q5 ++ putB (zig j.seen) = putJ j := by
      rw [← hq5]
      simp only [putJ, hpau, if_true, if_false, Bool.false_eq_true, List.append_assoc]
    refine ⟨?_, ((kW.trans hl50).trans (hg'.le.trans hl')).wk⟩
    rw [← hfin, u8s_app]
    exact wkL_refl _
end Go.Proofs.YtghlkjkdejebnaaGreatDoor
namespace Go.Proofs.YtghlkjkdejebnaaGreatDoor
open Rg Go
variable {H : Heap}
structure RowAt (e T : TypeId) (H0 : Heap) (c n : Nat) (F : Rg.Tok → List AV) (K : Heap) : Prop where
  le : HLe H0 K
  no : H0 c = none
  row : ∃ t, K c = some (.cells (F t) T) ∧ ((t = .nil ∧ n = 0) ∨ ∃ g cap, g ≠ c ∧ H0 g = none ∧ t = .own g cap 1 e ∧ K g = some (.open n cap 1 e))
theorem RowAt.set {e T T' : TypeId} {H0 K : Heap} {c n p : Nat} {F : Rg.Tok → List AV} {cs ds : List AV} (h : RowAt e T H0 c n F K) (h0 : H0 p = none) (hp : K p = some (.cells cs T')) (hc : p ≠ c) : RowAt e T H0 c n F (K.set p (.cells ds T')) := by
  refine ⟨HLe.set_new h.le h0, h.no, ?_⟩
  obtain ⟨t, h1, h2⟩ := h.row
  refine ⟨t, by simp [Heap.set, Ne.symm hc, h1], h2.imp id ?_⟩
  rintro ⟨g, cap, g1, g2, g3, g4⟩
  have : g ≠ p := by rintro rfl; rw [hp] at g4; cases g4
  exact ⟨g, cap, g1, g2, g3, by simp [Heap.set, this, g4]⟩
theorem RowAt.put {e T : TypeId} {H0 K : Heap} {c n : Nat} {F F' : Rg.Tok → List AV} (h : RowAt e T H0 c n F K) {t : Rg.Tok} (ht : K c = some (.cells (F t) T)) (hF : ∀ t', F t' = F t → t' = t) : RowAt e T H0 c n F' (K.set c (.cells (F' t) T)) := by
  refine ⟨HLe.set_new h.le h.no, h.no, ?_⟩
  obtain ⟨t', h1, h2⟩ := h.row
  rw [ht] at h1
  simp only [Option.some.injEq, AObj.cells.injEq] at h1
  obtain rfl := hF t' h1.1.symm
  refine ⟨t', by simp [Heap.set], h2.imp id ?_⟩
  rintro ⟨g, cap, g1, g2, g3, g4⟩
  exact ⟨g, cap, g1, g2, g3, by simp [Heap.set, g1, g4]⟩
theorem RowAt.grows {e T : TypeId} {H0 K : Heap} {c : Nat} {F : Rg.Tok → List AV} {xs : List AV} (h : RowAt e T H0 c xs.length F K) :
    ∃ t G0 G, K c = some (.cells (F t) T) ∧ Grows G0 xs 1 e t G ∧ HLe G K ∧ HLe H0 G0 ∧ G0 c = some (.cells (F t) T) ∧ ∀ p cs T', K p = some (.cells cs T') → G0 p = some (.cells cs T') := by
  obtain ⟨t, h1, ⟨rfl, hn⟩ | ⟨g, cap, h2, h3, rfl, h4⟩⟩ := h.row
  · obtain rfl := List.length_eq_zero_iff.1 hn
    exact ⟨_, K, K, h1, .zero, HLe.refl _, h.le, h1, fun _ _ _ h => h⟩
  · refine ⟨_, K.del g, (K.del g).set g (.open xs.length cap 1 e), h1, .inr ⟨g, cap, by simp [Heap.del], rfl, rfl⟩, fun b ob hb => ?_, HLe.del_new h.le h3, by simp [Heap.del, Ne.symm h2, h1], fun p cs T' hp => ?_⟩
    · by_cases hbg : b = g
      · subst hbg
        simp only [Heap.set, if_true] at hb
        rw [← hb]; exact h4
      · simpa [Heap.set, Heap.del, hbg] using hb
    · have : p ≠ g := by rintro rfl; rw [h4] at hp; cases hp
      simp [Heap.del, this, hp]
theorem RowAt.stored {e T : TypeId} {H0 G0 K' Hn : Heap} {c : Nat} {xs : List AV} {F : Rg.Tok → List AV} {t' : Rg.Tok} {o : AObj} (h1 : HLe H0 G0) (h2 : H0 c = none) (h3 : G0 c = some o) (h4 : Grows G0 xs 1 e t' K') (h5 : HLe K' Hn) :
    RowAt e T H0 c xs.length F (Hn.set c (.cells (F t') T)) := by
  have hle := (h1.trans h4.le).trans h5
  refine ⟨HLe.set_new hle h2, h2, t', by simp [Heap.set], ?_⟩
  rcases h4 with ⟨rfl, rfl, rfl⟩ | ⟨g, cap, g1, rfl, rfl⟩
  · exact .inl ⟨rfl, rfl⟩
  · have hgc : g ≠ c := by rintro rfl; rw [h3] at g1; cases g1
    exact .inr ⟨g, cap, hgc, h1.none g1, rfl, by simp [Heap.set, hgc]; exact h5 g _ (by simp [Heap.set])⟩
def numS (b : List UInt8) (most : Nat) (s : Nat × Bool) : Nat × Nat × Bool :=
  if s.2 = true ∨ (takeK b s.1).2.2 ≠ 0 ∨ most < (takeK b s.1).1 then (0, s.1, true) else ((takeK b s.1).1, (takeK b s.1).2.1, false)
def txtS (b : List UInt8) (s : Nat × Bool) : List UInt8 × Nat × Bool :=
  if s.2 = true ∨ (takeTextK b s.1).2.2 ≠ 0 then ([], s.1, true) else ((takeTextK b s.1).1, (takeTextK b s.1).2.1, false)
theorem numS_le (b : List UInt8) (most : Nat) (s : Nat × Bool) (h : s.1 ≤ b.length) : (numS b most s).2.1 ≤ b.length ∧ (numS b most s).1 ≤ most := by
  unfold numS
  split
  · exact ⟨h, Nat.zero_le _⟩
  · rename_i hc
    simp only [not_or] at hc
    exact ⟨takeK_le b s.1 h, by have := hc.2.2; simp only; omega⟩
theorem txtS_le (b : List UInt8) (s : Nat × Bool) (h : s.1 ≤ b.length) : (txtS b s).2.1 ≤ b.length := by
  unfold txtS
  split
  · exact h
  · exact takeTextK_le b s.1 h
structure Three (b : List UInt8) (t : Rg.Tok) (pb pa pd : Nat) (s : Nat × Bool) (K : Heap) : Prop where
  b : K pb = some (.cells [.sl (u8s b) t] 28)
  a : K pa = some (.cells [.sc (.int .i64 (s.1 : Int))] 3)
  d : K pd = some (.cells [.sc (.bool s.2)] 4)
abbrev upd3 (pa pd : Nat) (s : Nat × Bool) (K : Heap) : Heap := (K.set pd (.cells [.sc (.bool s.2)] 4)).set pa (.cells [.sc (.int .i64 (s.1 : Int))] 3)
theorem Three.ne {b : List UInt8} {t : Rg.Tok} {pb pa pd : Nat} {s : Nat × Bool} {K : Heap} (h : Three b t pb pa pd s K) : pb ≠ pa ∧ pb ≠ pd ∧ pa ≠ pd := by
  refine ⟨?_, ?_, ?_⟩
  · rintro rfl; have := h.b.symm.trans h.a; simp at this
  · rintro rfl; have := h.b.symm.trans h.d; simp at this
  · rintro rfl; have := h.a.symm.trans h.d; simp at this
theorem Three.upd {b : List UInt8} {t : Rg.Tok} {pb pa pd : Nat} {s s' : Nat × Bool} {K : Heap} (h : Three b t pb pa pd s K) : Three b t pb pa pd s' (upd3 pa pd s' K) := by
  obtain ⟨h1, h2, h3⟩ := h.ne
  exact ⟨by simp [Heap.set, h1, h2, h.b], by simp [Heap.set], by simp [Heap.set, Ne.symm h3]⟩
theorem Three.of {b : List UInt8} {t : Rg.Tok} {pb pa pd c : Nat} {s : Nat × Bool} {K : Heap} {o : AObj} (h : Three b t pb pa pd s K) (h1 : pb ≠ c) (h2 : pa ≠ c) (h3 : pd ≠ c) : Three b t pb pa pd s (K.set c o) :=
  ⟨by simp [Heap.set, h1, h.b], by simp [Heap.set, h2, h.a], by simp [Heap.set, h3, h.d]⟩
theorem HLe.same {K : Heap} {p : Nat} {o : AObj} (h : K p = some o) : HLe (K.set p o) K := fun q ob hq => by
  by_cases hqp : q = p
  · subst hqp
    simp [Heap.set] at hq
    rw [h, hq]
  · simpa [Heap.set, hqp] using hq
set_option maxHeartbeats 1000000 in
theorem c_parseNum {b : List UInt8} {t : Rg.Tok} {pb pa pd : Nat} {s : Nat × Bool} {K : Heap} (h : Three b t pb pa pd s K) (hs : s.1 ≤ b.length) (hb : b.length ≤ 1000000) (most : Nat) (hm : most < 18446744073709551616) :
    AOk Tryz.prog 103 [.sc (.int .u64 (most : Int)), .sc (.pointer (some ⟨pb, 0, none⟩)), .sc (.pointer (some ⟨pa, 0, none⟩)), .sc (.pointer (some ⟨pd, 0, none⟩))] K (.sc (.int .u64 ((numS b most s).1 : Int))) (upd3 pa pd (numS b most s).2 K) := by
  obtain ⟨n1, n2, n3⟩ := h.ne
  obtain ⟨a, bad⟩ := s
  have hh1 := h.b
  have hh2 := h.a
  have hh3 := h.d
  simp only at hs hh1 hh2 hh3
  obtain ⟨n, nx, e, hp⟩ : ∃ n nx e, takeK b a = (n, nx, e) := ⟨_, _, _, rfl⟩
  have hlt := takeK_lt b a
  have htk := c_packTake (H := K) b t a hs hb
  unfold numS
  simp only [hp] at hlt htk ⊢
  refine ACalls.into Tryz.func103 rfl Tryz.ntmps103 Tryz.results103 (by simp) ?_
  simp -implicitDefEqProofs [hh1, hh2, hh3]
  refine ACall.eq htk ?_
  cases bad with
  | true =>
    simp -implicitDefEqProofs [hh1, hh2, hh3]
    exact (HLe.same (by simp [Heap.set, n3, hh2])).wk
  | false =>
    by_cases he : e = 0
    · have he' : (e : Int) = 0 := by omega
      by_cases hmo : most < n
      · have hmo' : (most : Int) < (n : Int) := by omega
        simp -implicitDefEqProofs [hh1, hh2, hh3, he, he', hmo, hmo']
        exact (HLe.same (by simp [Heap.set, n3, hh2])).wk
      · have hmo' : ¬ (most : Int) < (n : Int) := by omega
        simp -implicitDefEqProofs [hh1, hh2, hh3, he, he', hmo, hmo', n3]
    · have he' : ¬ (e : Int) = 0 := by omega
      simp -implicitDefEqProofs [hh1, hh2, hh3, he, he']
      exact (HLe.same (by simp [Heap.set, n3, hh2])).wk
set_option maxHeartbeats 1000000 in
theorem c_parseText {b : List UInt8} {t : Rg.Tok} {pb pa pd : Nat} {s : Nat × Bool} {K : Heap} (h : Three b t pb pa pd s K) (hs : s.1 ≤ b.length) (hb : b.length ≤ 1000000) :
    AOk Tryz.prog 104 [.sc (.pointer (some ⟨pb, 0, none⟩)), .sc (.pointer (some ⟨pa, 0, none⟩)), .sc (.pointer (some ⟨pd, 0, none⟩))] K (str (txtS b s).1) (upd3 pa pd (txtS b s).2 K) := by
  obtain ⟨n1, n2, n3⟩ := h.ne
  obtain ⟨a, bad⟩ := s
  have hh1 := h.b
  have hh2 := h.a
  have hh3 := h.d
  simp only at hs hh1 hh2 hh3
  obtain ⟨x, nx, e, hp⟩ : ∃ x nx e, takeTextK b a = (x, nx, e) := ⟨_, _, _, rfl⟩
  have htk := c_takeText (H := K) b t a hs hb
  unfold txtS
  simp only [hp] at htk ⊢
  refine ACalls.into Tryz.func104 rfl Tryz.ntmps104 Tryz.results104 (by simp) ?_
  simp -implicitDefEqProofs [hh1, hh2, hh3]
  refine ACall.eq htk ?_
  cases bad with
  | true =>
    simp -implicitDefEqProofs [hh1, hh2, hh3]
    exact (HLe.same (by simp [Heap.set, n3, hh2])).wk
  | false =>
    by_cases he : e = 0
    · have he' : (e : Int) = 0 := by omega
      simp -implicitDefEqProofs [hh1, hh2, hh3, he, he', n3]
    · have he' : ¬ (e : Int) = 0 := by omega
      simp -implicitDefEqProofs [hh1, hh2, hh3, he, he']
      exact (HLe.same (by simp [Heap.set, n3, hh2])).wk
end Go.Proofs.YtghlkjkdejebnaaGreatDoor
namespace Go.Proofs.YtghlkjkdejebnaaGreatDoor
open Rg Go
variable {H : Heap}
def depsS (b : List UInt8) : Nat → Nat × Bool → List Nat × Nat × Bool
  | 0, s => ([], s)
  | k + 1, s => ((numS b 18446744073709551615 s).1 :: (depsS b k (numS b 18446744073709551615 s).2).1, (depsS b k (numS b 18446744073709551615 s).2).2)
theorem depsS_len (b : List UInt8) : ∀ k s, (depsS b k s).1.length = k
  | 0, s => rfl
  | k + 1, s => by simp [depsS, depsS_len b k]
theorem depsS_add (b : List UInt8) : ∀ k i s, depsS b (k + i) s = ((depsS b k s).1 ++ (depsS b i (depsS b k s).2).1, (depsS b i (depsS b k s).2).2)
  | 0, i, s => by simp [depsS]
  | k + 1, i, s => by
    rw [show k + 1 + i = (k + i) + 1 by omega]
    simp only [depsS, depsS_add b k i, List.cons_append]
abbrev jb0 : Jb := ⟨0, [], [], 0, 0, 0, 0, 0, [], false, 0, 0⟩
structure PStep where
  j : Jb
  s : Nat × Bool
def stA (b : List UInt8) (a : Nat) : PStep :=
  let r1 := numS b 18446744073709551615 (a, false); let r2 := txtS b r1.2; let r3 := txtS b r2.2
  ⟨{ jb0 with id := r1.1, name := r2.1, ex := r3.1 }, r3.2⟩
def stB (b : List UInt8) (p : PStep) : PStep :=
  let r4 := numS b 1099511627776 p.s; let r5 := numS b 1099511627776 r4.2
  ⟨{ p.j with pol := (r4.1 : Int), gr := (r5.1 : Int) }, r5.2⟩
def stC (b : List UInt8) (p : PStep) : PStep :=
  let r6 := numS b 1099511627776 p.s; let r7 := numS b 1099511627776 r6.2; let r8 := numS b 1099511627776 r7.2
  ⟨{ p.j with lim := (r6.1 : Int), ret := (r7.1 : Int), tim := (r8.1 : Int) }, r8.2⟩
def stD (b : List UInt8) (p : PStep) : PStep :=
  let r9 := numS b 8 p.s; let rd := depsS b r9.1 r9.2
  ⟨{ p.j with deps := rd.1 }, rd.2⟩
def stE (b : List UInt8) (p : PStep) : PStep :=
  let ra := numS b 1 p.s; let rv := numS b 18446744073709551615 ra.2
  ⟨{ p.j with pau := decide (ra.1 = 1), ver := rv.1 }, rv.2⟩
def stF (b : List UInt8) (p : PStep) : Jb × Nat × Nat :=
  ({ p.j with seen := unzig (takeK b p.s.1).1 }, (takeK b p.s.1).2.1, (takeK b p.s.1).2.2)
def parseJ (b : List UInt8) (a : Nat) : Option (Jb × Nat) :=
  let p := stE b (stD b (stC b (stB b (stA b a)))); let q := stF b p
  if p.s.2 = true ∨ q.2.2 ≠ 0 ∨ mayJ q.1 ≠ 0 then none else some (q.1, q.2.1)
def parseAV : Option (Jb × Nat) → AV
  | some (j, n) => .tup [jbAV j .no, .sc (.int .i64 (n : Int)), .sc (.int .i64 0)]
  | none => .tup [jbAV jb0 .no, .sc (.int .i64 0), .sc (.int .i64 4)]
structure PInv (H1 : Heap) (b : List UInt8) (t : Rg.Tok) (pb pa pd pj : Nat) (s : Nat × Bool) (j : Jb) (t0 : Rg.Tok) (K : Heap) : Prop where
  three : Three b t pb pa pd s K
  row : RowAt 22 25 H1 pj j.deps.length (jbC j) K
  cell : K pj = some (.cells (jbC j t0) 25)
  a0 : H1 pa = none
  d0 : H1 pd = none
  na : pa ≠ pj
  nd : pd ≠ pj
  nb : pb ≠ pj
  le : s.1 ≤ b.length
theorem jbC_inj {j : Jb} {t t' : Rg.Tok} (h : jbC j t' = jbC j t) : t' = t := by
  simp only [jbC, List.cons.injEq, AV.sl.injEq] at h
  exact h.2.2.2.2.2.2.2.2.1.2
section
variable {H1 : Heap} {b : List UInt8} {t : Rg.Tok} {pb pa pd pj : Nat} {s : Nat × Bool} {j : Jb} {t0 : Rg.Tok} {K : Heap}
theorem PInv.upd (h : PInv H1 b t pb pa pd pj s j t0 K) {s' : Nat × Bool} (hs : s'.1 ≤ b.length) : PInv H1 b t pb pa pd pj s' j t0 (upd3 pa pd s' K) := by
  obtain ⟨n1, n2, n3⟩ := h.three.ne
  exact ⟨h.three.upd, (h.row.set h.d0 h.three.d h.nd).set h.a0 (cs := [.sc (.int .i64 (s.1 : Int))]) (T' := 3) (by simp [Heap.set, n3, h.three.a]) h.na, by simp [Heap.set, Ne.symm h.na, Ne.symm h.nd, h.cell], h.a0, h.d0, h.na, h.nd, h.nb, hs⟩
theorem PInv.put (h : PInv H1 b t pb pa pd pj s j t0 K) {j' : Jb} (hd : j'.deps = j.deps) : PInv H1 b t pb pa pd pj s j' t0 (K.set pj (.cells (jbC j' t0) 25)) := by
  refine ⟨h.three.of h.nb h.na h.nd, ?_, by simp [Heap.set], h.a0, h.d0, h.na, h.nd, h.nb, h.le⟩
  rw [hd]
  exact h.row.put h.cell fun t' ht => jbC_inj ht
theorem PInv.app (h : PInv H1 b t pb pa pd pj s j t0 K) (n : Nat) : ∃ G0 G, Grows G0 (u64s j.deps) 1 22 t0 G ∧ HLe G K ∧ ∀ t' K' Hn, Grows G0 (u64s (j.deps ++ [n])) 1 22 t' K' → HLe K' Hn →
    Hn pj = some (.cells (jbC j t0) 25) ∧ PInv H1 b t pb pa pd pj s { j with deps := j.deps ++ [n] } t' (Hn.set pj (.cells (jbC { j with deps := j.deps ++ [n] } t') 25)) := by
  have hr := h.row
  rw [show j.deps.length = (u64s j.deps).length by simp] at hr
  obtain ⟨t1, G0, G, c1, hg, hl, hl0, c2, hp⟩ := hr.grows
  rw [h.cell] at c1
  simp only [Option.some.injEq, AObj.cells.injEq] at c1
  obtain rfl := jbC_inj c1.1
  refine ⟨G0, G, hg, hl, fun t' K' Hn hg' hl' => ?_⟩
  have keep : ∀ p cs T', K p = some (.cells cs T') → Hn p = some (.cells cs T') := fun p cs T' hh => hl' p _ (hg'.le p _ (hp p cs T' hh))
  refine ⟨keep _ _ _ h.cell, ⟨keep _ _ _ h.three.b, keep _ _ _ h.three.a, keep _ _ _ h.three.d⟩ |> fun q : Three b t pb pa pd s Hn => q.of h.nb h.na h.nd, ?_, by simp [Heap.set], h.a0, h.d0, h.na, h.nd, h.nb, h.le⟩
  have := RowAt.stored (T := 25) (F := jbC { j with deps := j.deps ++ [n] }) hl0 h.row.no c2 hg' hl'
  simpa using this
end
theorem takeTextK_len (b : List UInt8) (a : Nat) : (takeTextK b a).1.length ≤ b.length := by
  unfold takeTextK
  split
  · simp
  · split
    · simp
    · simp; omega
theorem txtS_len (b : List UInt8) (s : Nat × Bool) : (txtS b s).1.length ≤ b.length := by
  unfold txtS
  split
  · simp
  · exact takeTextK_len b s.1
set_option maxHeartbeats 4000000 in
theorem c_jobParse (hG : Glob H) (b : List UInt8) (t : Rg.Tok) (a : Nat) (ha : a ≤ b.length) (hb : b.length ≤ 1000000) : AOk Tryz.prog 55 [.sl (u8s b) t, .sc (.int .i64 (a : Int))] H (parseAV (parseJ b a)) H := by
  obtain ⟨res, hres⟩ : ∃ res, parseJ b a = res := ⟨_, rfl⟩
  rw [hres]
  have ha1 : ¬ (a : Int) < 0 := by omega
  have ha2 : ¬ (b.length : Int) < (a : Int) := by omega
  have ha3 : ¬ b.length < a := by omega
  refine ACalls.into Tryz.func55 rfl Tryz.ntmps55 Tryz.results55 (by simp) ?_
  simp -implicitDefEqProofs
  refine AAlloc.intro fun pb hpb => ?_
  simp -implicitDefEqProofs
  refine AAlloc.intro fun pa hpa => ?_
  simp -implicitDefEqProofs
  refine AAlloc.intro fun pj hpj => ?_
  have n1 : pb ≠ pa := by rintro rfl; simp [Heap.set] at hpa
  have n2 : pb ≠ pj := by rintro rfl; simp [Heap.set, n1] at hpj
  have n3 : pa ≠ pj := by rintro rfl; simp [Heap.set] at hpj
  simp -implicitDefEqProofs [n1, n2, n3, ha1, ha2, ha3]
  refine AAlloc.intro fun pd hpd => ?_
  have n4 : pb ≠ pd := by rintro rfl; simp [Heap.set, n1, n2] at hpd
  have n5 : pa ≠ pd := by rintro rfl; simp [Heap.set, n3] at hpd
  have n6 : pj ≠ pd := by rintro rfl; simp [Heap.set] at hpd
  obtain ⟨H1, hH1⟩ : ∃ H1, H.set pb (.cells [.sl (u8s b) t] 28) = H1 := ⟨_, rfl⟩
  rw [hH1] at hpa hpj hpd ⊢
  have l1 : HLe H H1 := by rw [← hH1]; exact HLe.set_fresh hpb
  have a0 : H1 pa = none := hpa
  have j0 : H1 pj = none := by simpa [Heap.set, n3, Ne.symm n3] using hpj
  have d0 : H1 pd = none := by simpa [Heap.set, n5, n6, Ne.symm n5, Ne.symm n6] using hpd
  have b0 : H1 pb = some (.cells [.sl (u8s b) t] 28) := by rw [← hH1]; simp [Heap.set]
  simp -implicitDefEqProofs
  generalize hK : Heap.set _ pd _ = K
  have P0 : PInv H1 b t pb pa pd pj (a, false) jb0 .nil K := by
    rw [← hK]
    refine ⟨⟨by simp [Heap.set, n1, n2, n4, b0], by simp [Heap.set, n3, n5], by simp [Heap.set]⟩, ⟨?_, j0, .nil, by simp [Heap.set, n6]; rfl, .inl ⟨rfl, rfl⟩⟩, by simp [Heap.set, n6]; rfl, a0, d0, n3, Ne.symm n6, n2, ha⟩
    exact HLe.set_new (HLe.set_new (HLe.set_new (HLe.refl _) a0) j0) d0
  clear hK hpa hpj hpd
  -- the first three
  refine ACall.eq (c_parseNum P0.three P0.le hb 18446744073709551615 (by omega)) ?_
  obtain ⟨r1, hr1⟩ : ∃ r, numS b 18446744073709551615 (a, false) = r := ⟨_, rfl⟩
  have P1 := P0.upd (s' := r1.2) (by rw [← hr1]; exact (numS_le b _ _ P0.le).1)
  rw [hr1]
  generalize upd3 _ _ _ _ = K1 at *
  simp -implicitDefEqProofs
  refine ACall.eq (c_parseText P1.three P1.le hb) ?_
  obtain ⟨r2, hr2⟩ : ∃ r, txtS b r1.2 = r := ⟨_, rfl⟩
  have P2 := P1.upd (s' := r2.2) (by rw [← hr2]; exact txtS_le b _ P1.le)
  rw [hr2]
  generalize upd3 _ _ _ _ = K2 at *
  simp -implicitDefEqProofs
  refine ACall.eq (c_parseText P2.three P2.le hb) ?_
  obtain ⟨r3, hr3⟩ : ∃ r, txtS b r2.2 = r := ⟨_, rfl⟩
  have P3 := P2.upd (s' := r3.2) (by rw [← hr3]; exact txtS_le b _ P2.le)
  rw [hr3]
  generalize upd3 _ _ _ _ = K3 at *
  simp -implicitDefEqProofs [P3.cell]
  generalize hU : K3.set pj _ = K4
  have P4 : PInv H1 b t pb pa pd pj r3.2 ⟨r1.1, r2.1, r3.1, 0, 0, 0, 0, 0, [], false, 0, 0⟩ .nil K4 := by rw [← hU]; exact P3.put rfl
  clear hU
  refine ACall.eq (c_parseNum P4.three P4.le hb 1099511627776 (by omega)) ?_
  obtain ⟨r5, hr5⟩ : ∃ r, numS b 1099511627776 r3.2 = r := ⟨_, rfl⟩
  have P5 := P4.upd (s' := r5.2) (by rw [← hr5]; exact (numS_le b _ _ P4.le).1)
  have b5 : r5.1 ≤ 1099511627776 := by rw [← hr5]; exact (numS_le b _ _ P4.le).2
  have w5 : IntKind.i64.wrap (r5.1 : Int) = (r5.1 : Int) := wrap_i64 (by omega) (by omega)
  rw [hr5]
  generalize upd3 _ _ _ _ = K5 at *
  simp -implicitDefEqProofs [P5.cell, w5]
  refine ACall.eq (c_parseNum P5.three P5.le hb 1099511627776 (by omega)) ?_
  obtain ⟨r6, hr6⟩ : ∃ r, numS b 1099511627776 r5.2 = r := ⟨_, rfl⟩
  have P6 := P5.upd (s' := r6.2) (by rw [← hr6]; exact (numS_le b _ _ P5.le).1)
  have b6 : r6.1 ≤ 1099511627776 := by rw [← hr6]; exact (numS_le b _ _ P5.le).2
  have w6 : IntKind.i64.wrap (r6.1 : Int) = (r6.1 : Int) := wrap_i64 (by omega) (by omega)
  rw [hr6]
  generalize upd3 _ _ _ _ = K6 at *
  simp -implicitDefEqProofs [P6.cell, w6]
  generalize hU : K6.set pj _ = K7
  have P7 : PInv H1 b t pb pa pd pj r6.2 ⟨r1.1, r2.1, r3.1, (r5.1 : Int), (r6.1 : Int), 0, 0, 0, [], false, 0, 0⟩ .nil K7 := by rw [← hU]; exact P6.put rfl
  clear hU
  refine ACall.eq (c_parseNum P7.three P7.le hb 1099511627776 (by omega)) ?_
  obtain ⟨r8, hr8⟩ : ∃ r, numS b 1099511627776 r6.2 = r := ⟨_, rfl⟩
  have P8 := P7.upd (s' := r8.2) (by rw [← hr8]; exact (numS_le b _ _ P7.le).1)
  have b8 : r8.1 ≤ 1099511627776 := by rw [← hr8]; exact (numS_le b _ _ P7.le).2
  have w8 : IntKind.i64.wrap (r8.1 : Int) = (r8.1 : Int) := wrap_i64 (by omega) (by omega)
  rw [hr8]
  generalize upd3 _ _ _ _ = K8 at *
  simp -implicitDefEqProofs [P8.cell, w8]
  refine ACall.eq (c_parseNum P8.three P8.le hb 1099511627776 (by omega)) ?_
  obtain ⟨r9, hr9⟩ : ∃ r, numS b 1099511627776 r8.2 = r := ⟨_, rfl⟩
  have P9 := P8.upd (s' := r9.2) (by rw [← hr9]; exact (numS_le b _ _ P8.le).1)
  have b9 : r9.1 ≤ 1099511627776 := by rw [← hr9]; exact (numS_le b _ _ P8.le).2
  have w9 : IntKind.i64.wrap (r9.1 : Int) = (r9.1 : Int) := wrap_i64 (by omega) (by omega)
  rw [hr9]
  generalize upd3 _ _ _ _ = K9 at *
  simp -implicitDefEqProofs [P9.cell, w9]
  refine ACall.eq (c_parseNum P9.three P9.le hb 1099511627776 (by omega)) ?_
  obtain ⟨r10, hr10⟩ : ∃ r, numS b 1099511627776 r9.2 = r := ⟨_, rfl⟩
  have P10 := P9.upd (s' := r10.2) (by rw [← hr10]; exact (numS_le b _ _ P9.le).1)
  have b10 : r10.1 ≤ 1099511627776 := by rw [← hr10]; exact (numS_le b _ _ P9.le).2
  have w10 : IntKind.i64.wrap (r10.1 : Int) = (r10.1 : Int) := wrap_i64 (by omega) (by omega)
  rw [hr10]
  generalize upd3 _ _ _ _ = K10 at *
  simp -implicitDefEqProofs [P10.cell, w10]
  generalize hU : K10.set pj _ = K11
  have P11 : PInv H1 b t pb pa pd pj r10.2 ⟨r1.1, r2.1, r3.1, (r5.1 : Int), (r6.1 : Int), (r8.1 : Int), (r9.1 : Int), (r10.1 : Int), [], false, 0, 0⟩ .nil K11 := by rw [← hU]; exact P10.put rfl
  clear hU
  refine ACall.eq (c_parseNum P11.three P11.le hb 8 (by omega)) ?_
  obtain ⟨r12, hr12⟩ : ∃ r, numS b 8 r10.2 = r := ⟨_, rfl⟩
  have P12 := P11.upd (s' := r12.2) (by rw [← hr12]; exact (numS_le b _ _ P11.le).1)
  have b12 : r12.1 ≤ 8 := by rw [← hr12]; exact (numS_le b _ _ P11.le).2
  have w12 : IntKind.i64.wrap (r12.1 : Int) = (r12.1 : Int) := wrap_i64 (by omega) (by omega)
  rw [hr12]
  generalize upd3 _ _ _ _ = K12 at *
  simp -implicitDefEqProofs
  obtain ⟨rd, hrd⟩ : ∃ r, depsS b r12.1 r12.2 = r := ⟨_, rfl⟩
  refine AGo.joinLoop (fun ρ K => ∃ t0, ρ 2 = .sc (.pointer (some ⟨pb, 0, none⟩)) ∧ ρ 3 = .sc (.pointer (some ⟨pa, 0, none⟩)) ∧ ρ 4 = .sc (.pointer (some ⟨pj, 0, none⟩)) ∧ ρ 7 = .sc (.pointer (some ⟨pd, 0, none⟩)) ∧
    ρ 8 = .sc (.func (.func 103) #[] #[.pointer (some ⟨pb, 0, none⟩), .pointer (some ⟨pa, 0, none⟩), .pointer (some ⟨pd, 0, none⟩)]) ∧
    PInv H1 b t pb pa pd pj rd.2 ⟨r1.1, r2.1, r3.1, (r5.1 : Int), (r6.1 : Int), (r8.1 : Int), (r9.1 : Int), (r10.1 : Int), rd.1, false, 0, 0⟩ t0 K) (fun k' hk => ?_) ?_
  · refine AGo.rounds (fun m ρ K => ∃ i s' ds t0, m = r12.1 - i ∧ i ≤ r12.1 ∧ depsS b i r12.2 = (ds, s') ∧ ρ 54 = .sc (.int .u64 (i : Int)) ∧ ρ 53 = .sc (.int .u64 (r12.1 : Int)) ∧ ρ 2 = .sc (.pointer (some ⟨pb, 0, none⟩)) ∧ ρ 3 = .sc (.pointer (some ⟨pa, 0, none⟩)) ∧ ρ 4 = .sc (.pointer (some ⟨pj, 0, none⟩)) ∧ ρ 7 = .sc (.pointer (some ⟨pd, 0, none⟩)) ∧
      ρ 8 = .sc (.func (.func 103) #[] #[.pointer (some ⟨pb, 0, none⟩), .pointer (some ⟨pa, 0, none⟩), .pointer (some ⟨pd, 0, none⟩)]) ∧
      PInv H1 b t pb pa pd pj s' ⟨r1.1, r2.1, r3.1, (r5.1 : Int), (r6.1 : Int), (r8.1 : Int), (r9.1 : Int), (r10.1 : Int), ds, false, 0, 0⟩ t0 K) ?_ (m := r12.1) (HLe.refl _)
      ⟨0, r12.2, [], .nil, rfl, by omega, rfl, by simp, by simp, by simp, by simp, by simp, by simp, by simp, P12⟩
    rintro m ρ K ih ⟨i, s', ds, t0, rfl, hi, hds, r54, r53, q2, q3, q4, q7, q8, P⟩
    rcases Nat.lt_or_ge i r12.1 with hlt | hge
    · have hlt' : (i : Int) < (r12.1 : Int) := by omega
      have hw1 : IntKind.u64.wrap ((i : Int) + 1) = (i : Int) + 1 := wrap_u64 (by omega) (by omega)
      have hdl : ds.length = i := by have := depsS_len b i r12.2; rw [hds] at this; exact this
      obtain ⟨r, hr⟩ : ∃ r, numS b 18446744073709551615 s' = r := ⟨_, rfl⟩
      have hnext : depsS b (i + 1) r12.2 = (ds ++ [r.1], r.2) := by
        rw [depsS_add, hds]
        simp only [depsS, hr]
      have Pu := P.upd (s' := r.2) (by rw [← hr]; exact (numS_le b _ _ P.le).1)
      have hcall := c_parseNum P.three P.le hb 18446744073709551615 (by omega)
      rw [hr] at hcall
      simp -implicitDefEqProofs [r54, r53, q2, q3, q4, q7, q8, hlt, hlt']
      obtain ⟨G0, G, hg, hl, hst⟩ := Pu.app r.1
      refine go_draw3 [0, 2] (fun _ => none) f_mixed (by decide +kernel) HC.nothing ?_
      simp -implicitDefEqProofs
      refine aq3_op ?_
      simp -implicitDefEqProofs [q4]
      refine aq3_op ?_
      simp -implicitDefEqProofs [q8]
      refine AWK.two 1 3 (by decide +kernel) ?_ ?_
      · refine AWE.op rfl ?_
        simp -implicitDefEqProofs [P.cell]
        refine AWK.one 3 (by decide +kernel) ?_
        refine AWE.op rfl ?_
        simp -implicitDefEqProofs
        refine ⟨_, hcall, ?_⟩
        rintro v Kx ⟨rfl, rfl⟩
        refine ⟨fun _ _ h => (by cases h), ?_⟩
        generalize upd3 pa pd r.2 K = Ku at *
        refine AWK.one 4 (by decide +kernel) ?_
        refine AWE.op rfl ?_
        simp -implicitDefEqProofs
        refine AWK.one 5 (by decide +kernel) ?_
        refine AWE.op rfl ?_
        simp -implicitDefEqProofs
        refine AWS.grows0 el_23 hg hl (by simp [szs, AV.cells]) (by simp [szs, AV.cells]) (by simp; omega) (by simp [maxLen]; omega) fun t' K' Hn hg' hl' _ => ?_
        have e1 : u64s ds ++ [(.sc (.int .u64 (r.1 : Int)) : AV)] = u64s (ds ++ [r.1]) := by simp
        rw [e1] at hg' ⊢
        obtain ⟨hpj2, Pn⟩ := hst t' K' Hn hg' hl'
        simp only [jbC, List.map_append, List.map_cons, List.map_nil] at Pn
        refine AWK.one 6 (by decide +kernel) ?_
        refine AWE.op rfl ?_
        simp -implicitDefEqProofs [q4]
        refine AWK.one 7 (by decide +kernel) ?_
        refine AWE.op rfl ?_
        simp -implicitDefEqProofs [hpj2]
        refine AWS.store hpj2 (fun _ _ h => by cases h) ?_
        refine AWK.fin (by decide +kernel) ?_
        simp -implicitDefEqProofs [r54, hw1]
        exact AGo.again ih (m' := r12.1 - (i + 1)) (by omega) (HLe.refl _) ⟨i + 1, r.2, ds ++ [r.1], t', rfl, by omega, hnext, by simp, by simp [r53], by simp [q2], by simp [q3], by simp [q4], by simp [q7], by simp [q8], Pn⟩
      · refine AWE.op rfl ?_
        simp -implicitDefEqProofs
        refine ⟨_, hcall, ?_⟩
        rintro v Kx ⟨rfl, rfl⟩
        refine ⟨fun _ _ h => (by cases h), ?_⟩
        generalize upd3 pa pd r.2 K = Ku at *
        refine AWK.two 1 4 (by decide +kernel) ?_ ?_
        · refine AWE.op rfl ?_
          simp -implicitDefEqProofs [Pu.cell]
          refine AWK.one 4 (by decide +kernel) ?_
          refine AWE.op rfl ?_
          simp -implicitDefEqProofs
          refine AWK.one 5 (by decide +kernel) ?_
          refine AWE.op rfl ?_
          simp -implicitDefEqProofs
          refine AWS.grows0 el_23 hg hl (by simp [szs, AV.cells]) (by simp [szs, AV.cells]) (by simp; omega) (by simp [maxLen]; omega) fun t' K' Hn hg' hl' _ => ?_
          have e1 : u64s ds ++ [(.sc (.int .u64 (r.1 : Int)) : AV)] = u64s (ds ++ [r.1]) := by simp
          rw [e1] at hg' ⊢
          obtain ⟨hpj2, Pn⟩ := hst t' K' Hn hg' hl'
          simp only [jbC, List.map_append, List.map_cons, List.map_nil] at Pn
          refine AWK.one 6 (by decide +kernel) ?_
          refine AWE.op rfl ?_
          simp -implicitDefEqProofs [q4]
          refine AWK.one 7 (by decide +kernel) ?_
          refine AWE.op rfl ?_
          simp -implicitDefEqProofs [hpj2]
          refine AWS.store hpj2 (fun _ _ h => by cases h) ?_
          refine AWK.fin (by decide +kernel) ?_
          simp -implicitDefEqProofs [r54, hw1]
          exact AGo.again ih (m' := r12.1 - (i + 1)) (by omega) (HLe.refl _) ⟨i + 1, r.2, ds ++ [r.1], t', rfl, by omega, hnext, by simp, by simp [r53], by simp [q2], by simp [q3], by simp [q4], by simp [q7], by simp [q8], Pn⟩
        · refine AWE.op rfl ?_
          simp -implicitDefEqProofs
          refine AWK.one 1 (by decide +kernel) ?_
          refine AWE.op rfl ?_
          simp -implicitDefEqProofs [Pu.cell]
          refine AWK.one 5 (by decide +kernel) ?_
          refine AWE.op rfl ?_
          simp -implicitDefEqProofs
          refine AWS.grows0 el_23 hg hl (by simp [szs, AV.cells]) (by simp [szs, AV.cells]) (by simp; omega) (by simp [maxLen]; omega) fun t' K' Hn hg' hl' _ => ?_
          have e1 : u64s ds ++ [(.sc (.int .u64 (r.1 : Int)) : AV)] = u64s (ds ++ [r.1]) := by simp
          rw [e1] at hg' ⊢
          obtain ⟨hpj2, Pn⟩ := hst t' K' Hn hg' hl'
          simp only [jbC, List.map_append, List.map_cons, List.map_nil] at Pn
          refine AWK.one 6 (by decide +kernel) ?_
          refine AWE.op rfl ?_
          simp -implicitDefEqProofs [q4]
          refine AWK.one 7 (by decide +kernel) ?_
          refine AWE.op rfl ?_
          simp -implicitDefEqProofs [hpj2]
          refine AWS.store hpj2 (fun _ _ h => by cases h) ?_
          refine AWK.fin (by decide +kernel) ?_
          simp -implicitDefEqProofs [r54, hw1]
          exact AGo.again ih (m' := r12.1 - (i + 1)) (by omega) (HLe.refl _) ⟨i + 1, r.2, ds ++ [r.1], t', rfl, by omega, hnext, by simp, by simp [r53], by simp [q2], by simp [q3], by simp [q4], by simp [q7], by simp [q8], Pn⟩
    · have hn : ¬ (i : Int) < (r12.1 : Int) := by omega
      have hn' : ¬ i < r12.1 := by omega
      simp -implicitDefEqProofs [r54, r53, q2, q3, q4, q7, q8, hn, hn']
      obtain rfl : i = r12.1 := by omega
      rw [hrd] at hds
      subst hds
      exact hk _ _ ⟨t0, by simp [q2], by simp [q3], by simp [q4], by simp [q7], by simp [q8], P⟩
  · rintro ρ K13 ⟨t0, q2, q3, q4, q7, q8, P13⟩
    simp -implicitDefEqProofs [q2, q3, q4, q7, q8]
    refine ACall.eq (c_parseNum P13.three P13.le hb 1 (by omega)) ?_
    obtain ⟨r14, hr14⟩ : ∃ r, numS b 1 rd.2 = r := ⟨_, rfl⟩
    have P14 := P13.upd (s' := r14.2) (by rw [← hr14]; exact (numS_le b _ _ P13.le).1)
    rw [hr14]
    generalize upd3 _ _ _ _ = K14 at *
    simp -implicitDefEqProofs [P14.cell, q8]
    refine ACall.eq (c_parseNum P14.three P14.le hb 18446744073709551615 (by omega)) ?_
    obtain ⟨r15, hr15⟩ : ∃ r, numS b 18446744073709551615 r14.2 = r := ⟨_, rfl⟩
    have P15 := P14.upd (s' := r15.2) (by rw [← hr15]; exact (numS_le b _ _ P14.le).1)
    rw [hr15]
    generalize upd3 _ _ _ _ = K15 at *
    obtain ⟨pz, hpz⟩ : ∃ z, decide (r14.1 = 1) = z := ⟨_, rfl⟩
    have hpz' : decide ((r14.1 : Int) = 1) = pz := by rw [← hpz]; congr 1; exact propext ⟨fun h => by omega, fun h => by omega⟩
    simp -implicitDefEqProofs [P15.cell, q4, hpz, hpz']
    generalize hU : K15.set pj _ = K16
    have P16 : PInv H1 b t pb pa pd pj r15.2 ⟨r1.1, r2.1, r3.1, (r5.1 : Int), (r6.1 : Int), (r8.1 : Int), (r9.1 : Int), (r10.1 : Int), rd.1, pz, r15.1, 0⟩ t0 K16 := by rw [← hU]; exact P15.put rfl
    clear hU
    have hti := c_takeInt (H := K16) b t r15.2.1 P16.le hb
    obtain ⟨p, hp⟩ : ∃ p, takeK b r15.2.1 = p := ⟨_, rfl⟩
    rw [hp] at hti
    simp -implicitDefEqProofs [P16.three.b, P16.three.a, q2, q3]
    refine ACall.eq hti ?_
    obtain ⟨bad, hbad⟩ : ∃ z, r15.2.2 = z := ⟨_, rfl⟩
    have hd16 := P16.three.d
    rw [hbad] at hd16
    have hpj : parseJ b a = if bad = true ∨ p.2.2 ≠ 0 ∨ mayJ ⟨r1.1, r2.1, r3.1, (r5.1 : Int), (r6.1 : Int), (r8.1 : Int), (r9.1 : Int), (r10.1 : Int), rd.1, pz, r15.1, unzig p.1⟩ ≠ 0 then none
        else some (⟨r1.1, r2.1, r3.1, (r5.1 : Int), (r6.1 : Int), (r8.1 : Int), (r9.1 : Int), (r10.1 : Int), rd.1, pz, r15.1, unzig p.1⟩, p.2.1) := by
      simp only [parseJ, stA, stB, stC, stD, stE, stF, hr1, hr2, hr3, hr5, hr6, hr8, hr9, hr10, hr12, hrd, hr14, hr15, hp, hpz, hbad]
    rw [hres] at hpj
    have hP17 : ∀ ds, HLe H (K16.set pj (.cells ds 25)) := fun ds => HLe.set_new (l1.trans P16.row.le) (by rw [← hH1] at j0; simpa [Heap.set, n2, Ne.symm n2] using j0)
    cases bad with
    | true =>
      rw [if_pos (.inl rfl)] at hpj
      subst hpj
      simp -implicitDefEqProofs [P16.cell, q4, q7, hd16, P16.nd, parseAV]
      exact ⟨rfl, (hP17 _).wk⟩
    | false =>
      obtain ⟨e, he⟩ : ∃ e, p.2.2 = e := ⟨_, rfl⟩
      rw [he] at hpj
      by_cases he0 : e = 0
      · subst he0
        have hl3 : r3.1.length ≤ b.length := by rw [← hr3]; exact txtS_len b _
        have hmay := c_jobMay (H := K16.set pj (.cells (jbC ⟨r1.1, r2.1, r3.1, (r5.1 : Int), (r6.1 : Int), (r8.1 : Int), (r9.1 : Int), (r10.1 : Int), rd.1, pz, r15.1, unzig p.1⟩ t0) 25)) (hG.le (hP17 _)) ⟨r1.1, r2.1, r3.1, (r5.1 : Int), (r6.1 : Int), (r8.1 : Int), (r9.1 : Int), (r10.1 : Int), rd.1, pz, r15.1, unzig p.1⟩ t0 (by simp only; omega)
        obtain ⟨em, hem⟩ : ∃ em, mayJ ⟨r1.1, r2.1, r3.1, (r5.1 : Int), (r6.1 : Int), (r8.1 : Int), (r9.1 : Int), (r10.1 : Int), rd.1, pz, r15.1, unzig p.1⟩ = em := ⟨_, rfl⟩
        rw [hem] at hmay hpj
        simp -implicitDefEqProofs [P16.cell, q4, q7, hd16, P16.nd, he]
        refine ACall.eq hmay ?_
        by_cases hm0 : em = 0
        · rw [if_neg (by simp [hm0])] at hpj
          subst hpj
          simp -implicitDefEqProofs [hm0, q4, P16.nd, parseAV]
          exact (hP17 _).wk
        · rw [if_pos (.inr (.inr hm0))] at hpj
          subst hpj
          simp -implicitDefEqProofs [hm0, q4, P16.nd, parseAV]
          exact ⟨rfl, (hP17 _).wk⟩
      · rw [if_pos (.inr (.inl he0))] at hpj
        subst hpj
        have he0' : ¬ (e : Int) = 0 := by omega
        simp -implicitDefEqProofs [P16.cell, q4, q7, hd16, P16.nd, parseAV, he, he0, he0']
        exact ⟨rfl, (hP17 _).wk⟩
end Go.Proofs.YtghlkjkdejebnaaGreatDoor
namespace Go.Proofs.YtghlkjkdejebnaaGreatDoor
open Rg Go
theorem drop_next {B X Q : List UInt8} {a : Nat} (h : B.drop a = X ++ Q) : B.drop (a + X.length) = Q := by
  rw [← List.drop_drop, h, List.drop_left]
theorem takeK_at {B Q : List UInt8} {a n : Nat} (h : B.drop a = putB n ++ Q) (hn : n < 18446744073709551616) : takeK B a = (n, a + (putB n).length, 0) := by
  unfold takeK putB
  rw [h]
  unfold putB
  rw [take_put 9 n 0 0 Q rfl (by omega) (.inl rfl)]
  simp
theorem numS_at {B Q : List UInt8} {a n most : Nat} (h : B.drop a = putB n ++ Q) (hn : n < 18446744073709551616) (hm : n ≤ most) : numS B most (a, false) = (n, a + (putB n).length, false) := by
  unfold numS
  rw [takeK_at h hn, if_neg (by simp; omega)]
theorem takeTextK_at {B Q s : List UInt8} {a : Nat} (h : B.drop a = putTextB s ++ Q) (hs : s.length ≤ 4096) : takeTextK B a = (s, a + (putTextB s).length, 0) := by
  unfold putTextB at h ⊢
  rw [List.append_assoc] at h
  have h1 := takeK_at h (by omega)
  have h2 := drop_next h
  have h3 := congrArg List.length h2
  rw [List.length_drop, List.length_append] at h3
  unfold takeTextK
  rw [h1]
  simp only
  rw [if_neg (by simp), if_neg (by omega), h2, List.take_left, List.length_append, Nat.add_assoc]
theorem txtS_at {B Q s : List UInt8} {a : Nat} (h : B.drop a = putTextB s ++ Q) (hs : s.length ≤ 4096) : txtS B (a, false) = (s, a + (putTextB s).length, false) := by
  unfold txtS
  rw [takeTextK_at h hs, if_neg (by simp)]
theorem depsS_at {B : List UInt8} : ∀ (L : List Nat) {Q : List UInt8} {a : Nat}, B.drop a = numsB L ++ Q → (∀ n ∈ L, n < 18446744073709551616) → depsS B L.length (a, false) = (L, a + (numsB L).length, false)
  | [], Q, a, h, _ => by simp [depsS, numsB]
  | n :: L, Q, a, h, hn => by
    have e : numsB (n :: L) = putB n ++ numsB L := by simp [numsB]
    rw [e, List.append_assoc] at h
    have h64 := hn n (by simp)
    simp only [List.length_cons, depsS]
    rw [numS_at h h64 (by omega), depsS_at L (drop_next h) fun m hm => hn m (by simp [hm]), e, List.length_append, Nat.add_assoc]
theorem numsB_cons (n : Nat) (L : List Nat) : numsB (n :: L) = putB n ++ numsB L := by simp [numsB]
theorem parse_put {B Q : List UInt8} {a : Nat} {j : Jb} (h : B.drop a = putJ j ++ Q) (ho : JbOk j) (hm : mayJ j = 0) (hs : j.ex.length ≤ 4096) : parseJ B a = some (j, a + (putJ j).length) := by
  have M := JbMay.of hm
  obtain ⟨bp, hbp⟩ : ∃ bp : Nat, (if j.pau then 1 else 0) = bp := ⟨_, rfl⟩
  have hb1 : bp ≤ 1 := by rw [← hbp]; split <;> omega
  have hpau : decide (bp = 1) = j.pau := by rw [← hbp]; cases j.pau <;> rfl
  have hlen : (putJ j).length = (putB j.id).length + (putTextB j.name).length + (putTextB j.ex).length + (putB j.pol.toNat).length + (putB j.gr.toNat).length + (putB j.lim.toNat).length + (putB j.ret.toNat).length + (putB j.tim.toNat).length + (putB j.deps.length).length + (numsB j.deps).length + (putB bp).length + (putB j.ver).length + (putB (zig j.seen)).length := by
    simp only [putJ, numsB_cons, hbp, List.length_append]
    simp only [numsB, List.flatMap_nil, List.length_nil]
    omega
  simp only [putJ, hbp, numsB_cons, List.append_assoc] at h
  simp only [numsB, List.flatMap_nil, List.nil_append] at h
  have d1 := numS_at (most := 18446744073709551615) h ho.id (by have := ho.id; omega)
  have h2 := drop_next h
  have d2 := txtS_at h2 (by have := M.name; omega)
  have h3 := drop_next h2
  have d3 := txtS_at h3 hs
  have h4 := drop_next h3
  have d4 := numS_at (most := 1099511627776) h4 (by have := M.pol; omega) (by have := M.pol; omega)
  have h5 := drop_next h4
  have d5 := numS_at (most := 1099511627776) h5 (by have := M.gr; omega) (by have := M.gr; omega)
  have h6 := drop_next h5
  have d6 := numS_at (most := 1099511627776) h6 (by have := M.lim; omega) (by have := M.lim; omega)
  have h7 := drop_next h6
  have d7 := numS_at (most := 1099511627776) h7 (by have := M.ret; omega) (by have := M.ret; omega)
  have h8 := drop_next h7
  have d8 := numS_at (most := 1099511627776) h8 (by have := M.tim; omega) (by have := M.tim; omega)
  have h9 := drop_next h8
  have d9 := numS_at (most := 8) h9 (by have := M.deps; omega) M.deps
  have h10 := drop_next h9
  have d10 := depsS_at j.deps (by simp only [numsB]; exact h10) ho.deps
  have h11 := drop_next h10
  have d11 := numS_at (most := 1) h11 (by omega) hb1
  have h12 := drop_next h11
  have d12 := numS_at (most := 18446744073709551615) h12 ho.ver (by have := ho.ver; omega)
  have h13 := drop_next h12
  have d13 := takeK_at h13 (zig_lt (by have := M.seen; omega) (by have := M.seen; omega))
  simp only [numsB] at d10 hlen
  have hj : (⟨j.id, j.name, j.ex, (j.pol.toNat : Int), (j.gr.toNat : Int), (j.lim.toNat : Int), (j.ret.toNat : Int), (j.tim.toNat : Int), j.deps, decide (bp = 1), j.ver, unzig (zig j.seen)⟩ : Jb) = j := by
    have e1 : (j.pol.toNat : Int) = j.pol := by have := M.pol; omega
    have e2 : (j.gr.toNat : Int) = j.gr := by have := M.gr; omega
    have e3 : (j.lim.toNat : Int) = j.lim := by have := M.lim; omega
    have e4 : (j.ret.toNat : Int) = j.ret := by have := M.ret; omega
    have e5 : (j.tim.toNat : Int) = j.tim := by have := M.tim; omega
    rw [e1, e2, e3, e4, e5, hpau, unzig_zig]
  simp only [parseJ, stA, stB, stC, stD, stE, stF, d1, d2, d3, d4, d5, d6, d7, d8, d9, d10, d11, d12, d13, hj, hm]
  rw [if_neg (by simp), hlen]
  congr 2
  omega
end Go.Proofs.YtghlkjkdejebnaaGreatDoor
namespace Go.Proofs.YtghlkjkdejebnaaGreatDoor
open Rg Go
def valK : List UInt8 → Nat
  | [] => 0
  | x :: r => x.toNat % 128 + 128 * valK r
theorem takeGo_inv : ∀ (l : List UInt8) (i acc n k : Nat), i ≤ 9 → takeGo l i acc = some (n, k) →
    i < k ∧ k ≤ 10 ∧ (∃ x, l[k - 1 - i]? = some x ∧ x.toNat < 128) ∧ (∀ j, j < k - 1 - i → ∀ x, l[j]? = some x → 128 ≤ x.toNat) ∧
    n = acc + valK (l.take (k - i)) * 128 ^ i ∧ putK (9 - i) (valK (l.take (k - i))) = l.take (k - i) ∧ (0 < i → 0 < valK (l.take (k - i)))
  | [], i, acc, n, k, _, h => by simp [takeGo] at h
  | x :: r, i, acc, n, k, hi, h => by
    simp only [takeGo] at h
    have hx := x.toNat_lt
    split at h
    · cases h
    · rename_i hc
      split at h
      · rename_i h128
        cases h
        have e : x.toNat % 128 = x.toNat := Nat.mod_eq_of_lt h128
        have e1 : i + 1 - i = 0 + 1 := by omega
        have e2 : i + 1 - 1 - i = 0 := by omega
        rw [e1, e2]
        simp only [List.take_succ_cons, List.take_zero, valK, Nat.mul_zero, Nat.add_zero, e]
        refine ⟨by omega, by omega, ⟨x, by simp, h128⟩, fun j hj => by omega, trivial, ?_, fun h0 => by omega⟩
        rcases hf : 9 - i with _ | f
        · simp [putK]
        · simp [putK, h128]
      · rename_i h128
        have h9 : i < 9 := by omega
        obtain ⟨a1, a2, ⟨y, ay, by_⟩, a4, a5, a6, a7⟩ := takeGo_inv r (i + 1) _ n k (by omega) h
        have e1 : k - i = (k - (i + 1)) + 1 := by omega
        have e2 : k - 1 - i = (k - 1 - (i + 1)) + 1 := by omega
        have a7' := a7 (by omega)
        rw [e1, e2]
        simp only [List.take_succ_cons, valK]
        obtain ⟨m, hm⟩ : ∃ m, m = valK (r.take (k - (i + 1))) := ⟨_, rfl⟩
        rw [← hm] at a5 a6 a7' ⊢
        refine ⟨by omega, by omega, ⟨y, by simpa using ay, by_⟩, fun j hj z hz => ?_, ?_, ?_, fun _ => by omega⟩
        · rcases j with _ | j
          · simp at hz
            subst hz
            omega
          · exact a4 j (by omega) z (by simpa using hz)
        · rw [a5, Nat.pow_succ, Nat.add_mul]
          have : m * (128 ^ i * 128) = 128 * m * 128 ^ i := by
            rw [Nat.mul_comm (128 ^ i) 128, ← Nat.mul_assoc, Nat.mul_comm m 128]
          omega
        · have hf : 9 - i = (9 - (i + 1)) + 1 := by omega
          rw [hf]
          unfold putK
          rw [if_neg (by omega)]
          have m1 : (x.toNat % 128 + 128 * m) / 128 = m := by omega
          have m2 : (x.toNat % 128 + 128 * m) % 128 + 128 = x.toNat := by omega
          rw [m1, m2, a6]
          simp
theorem takeK_inv {b : List UInt8} {a : Nat} (h : (takeK b a).2.2 = 0) : b.drop a = putB (takeK b a).1 ++ b.drop (takeK b a).2.1 ∧ (takeK b a).2.1 = a + (putB (takeK b a).1).length := by
  unfold takeK at h ⊢
  split at h
  · rename_i n k hg
    obtain ⟨a1, a2, ⟨y, ay, _⟩, a4, a5, a6, a7⟩ := takeGo_inv _ 0 0 n k (by omega) hg
    simp only [Nat.sub_zero, Nat.pow_zero, Nat.mul_one, Nat.zero_add] at a5 a6 ay
    simp only
    have e : putB n = (b.drop a).take k := by rw [a5]; exact a6
    have hl : k ≤ (b.drop a).length := by
      have := (List.getElem?_eq_some_iff.1 ay).1
      omega
    rw [e, List.length_take, Nat.min_eq_left hl]
    refine ⟨?_, rfl⟩
    rw [← List.drop_drop, List.take_append_drop]
  · simp at h
end Go.Proofs.YtghlkjkdejebnaaGreatDoor
