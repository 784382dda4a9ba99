/- Jobs as bytes: job.Parse. What job.Put has put, job.Parse takes. Numbers as bytes, by definition: what is taken was put; the document's way of taking. Jobs of bytes, by definition: the document's way gives what job.Parse gives. Jobs of bytes: what was taken was put. Rows that are the same: what slices.Equal tells. Jobs that are the same. Commands, plainly: whether one may be, its bytes, and which one any bytes are. Commands, plainly: the document's way gives the same; what was put is parsed as it was. -/
import Derived.Test.YtghlkjkdejebnaaGreatDoorP18
import Derived.Test.YtghlkjkdejebnaaGreatDoorP14
set_option linter.unusedSimpArgs false
set_option linter.unusedVariables false
set_option linter.unnecessarySimpa false
namespace Go.Proofs.YtghlkjkdejebnaaGreatDoor
open Rg Go
variable {H : Heap}
def depsS (b : List UInt8) : Nat → Nat × Bool → List Nat × Nat × Bool
  | 0, s => ([], s)
  | k + 1, s => ((numS b 18446744073709551615 s).1 :: (depsS b k (numS b 18446744073709551615 s).2).1, (depsS b k (numS b 18446744073709551615 s).2).2)
theorem depsS_len (b : List UInt8) : ∀ k s, (depsS b k s).1.length = k
  | 0, s => rfl
  | k + 1, s => by simp [depsS, depsS_len b k]
theorem depsS_add (b : List UInt8) : ∀ k i s, depsS b (k + i) s = ((depsS b k s).1 ++ (depsS b i (depsS b k s).2).1, (depsS b i (depsS b k s).2).2)
  | 0, i, s => by simp [depsS]
  | k + 1, i, s => by
    rw [show k + 1 + i = (k + i) + 1 by omega]
    simp only [depsS, depsS_add b k i, List.cons_append]
abbrev jb0 : Jb := ⟨0, [], [], 0, 0, 0, 0, 0, [], false, 0, 0⟩
structure PStep where
  j : Jb
  s : Nat × Bool
def stA (b : List UInt8) (a : Nat) : PStep :=
  let r1 := numS b 18446744073709551615 (a, false); let r2 := txtS b r1.2; let r3 := txtS b r2.2
  ⟨{ jb0 with id := r1.1, name := r2.1, ex := r3.1 }, r3.2⟩
def stB (b : List UInt8) (p : PStep) : PStep :=
  let r4 := numS b 1099511627776 p.s; let r5 := numS b 1099511627776 r4.2
  ⟨{ p.j with pol := (r4.1 : Int), gr := (r5.1 : Int) }, r5.2⟩
def stC (b : List UInt8) (p : PStep) : PStep :=
  let r6 := numS b 1099511627776 p.s; let r7 := numS b 1099511627776 r6.2; let r8 := numS b 1099511627776 r7.2
  ⟨{ p.j with lim := (r6.1 : Int), ret := (r7.1 : Int), tim := (r8.1 : Int) }, r8.2⟩
def stD (b : List UInt8) (p : PStep) : PStep :=
  let r9 := numS b 8 p.s; let rd := depsS b r9.1 r9.2
  ⟨{ p.j with deps := rd.1 }, rd.2⟩
def stE (b : List UInt8) (p : PStep) : PStep :=
  let ra := numS b 1 p.s; let rv := numS b 18446744073709551615 ra.2
  ⟨{ p.j with pau := decide (ra.1 = 1), ver := rv.1 }, rv.2⟩
def stF (b : List UInt8) (p : PStep) : Jb × Nat × Nat :=
  ({ p.j with seen := unzig (takeK b p.s.1).1 }, (takeK b p.s.1).2.1, (takeK b p.s.1).2.2)
def parseJ (b : List UInt8) (a : Nat) : Option (Jb × Nat) :=
  let p := stE b (stD b (stC b (stB b (stA b a)))); let q := stF b p
  if p.s.2 = true ∨ q.2.2 ≠ 0 ∨ mayJ q.1 ≠ 0 then none else some (q.1, q.2.1)
def parseAV : Option (Jb × Nat) → AV
  | some (j, n) => .tup [jbAV j .no, .sc (.int .i64 (n : Int)), .sc (.int .i64 0)]
  | none => .tup [jbAV jb0 .no, .sc (.int .i64 0), .sc (.int .i64 4)]
structure PInv (H1 : Heap) (b : List UInt8) (t : Rg.Tok) (pb pa pd pj : Nat) (s : Nat × Bool) (j : Jb) (t0 : Rg.Tok) (K : Heap) : Prop where
  three : Three b t pb pa pd s K
  row : RowAt 22 25 H1 pj j.deps.length (jbC j) K
  cell : K pj = some (.cells (jbC j t0) 25)
  a0 : H1 pa = none
  d0 : H1 pd = none
  na : pa ≠ pj
  nd : pd ≠ pj
  nb : pb ≠ pj
  le : s.1 ≤ b.length
theorem jbC_inj {j : Jb} {t t' : Rg.Tok} (h : jbC j t' = jbC j t) : t' = t := by
  simp only [jbC, List.cons.injEq, AV.sl.injEq] at h
  exact h.2.2.2.2.2.2.2.2.1.2
section
variable {H1 : Heap} {b : List UInt8} {t : Rg.Tok} {pb pa pd pj : Nat} {s : Nat × Bool} {j : Jb} {t0 : Rg.Tok} {K : Heap}
theorem PInv.upd (h : PInv H1 b t pb pa pd pj s j t0 K) {s' : Nat × Bool} (hs : s'.1 ≤ b.length) : PInv H1 b t pb pa pd pj s' j t0 (upd3 pa pd s' K) := by
  obtain ⟨n1, n2, n3⟩ := h.three.ne
  exact ⟨h.three.upd, (h.row.set h.d0 h.three.d h.nd).set h.a0 (cs := [.sc (.int .i64 (s.1 : Int))]) (T' := 3) (by simp [Heap.set, n3, h.three.a]) h.na, by simp [Heap.set, Ne.symm h.na, Ne.symm h.nd, h.cell], h.a0, h.d0, h.na, h.nd, h.nb, hs⟩
theorem PInv.put (h : PInv H1 b t pb pa pd pj s j t0 K) {j' : Jb} (hd : j'.deps = j.deps) : PInv H1 b t pb pa pd pj s j' t0 (K.set pj (.cells (jbC j' t0) 25)) := by
  refine ⟨h.three.of h.nb h.na h.nd, ?_, by simp [Heap.set], h.a0, h.d0, h.na, h.nd, h.nb, h.le⟩
  rw [hd]
  exact h.row.put h.cell fun t' ht => jbC_inj ht
theorem PInv.app (h : PInv H1 b t pb pa pd pj s j t0 K) (n : Nat) : ∃ G0 G, Grows G0 (u64s j.deps) 1 22 t0 G ∧ HLe G K ∧ ∀ t' K' Hn, Grows G0 (u64s (j.deps ++ [n])) 1 22 t' K' → HLe K' Hn →
    Hn pj = some (.cells (jbC j t0) 25) ∧ PInv H1 b t pb pa pd pj s { j with deps := j.deps ++ [n] } t' (Hn.set pj (.cells (jbC { j with deps := j.deps ++ [n] } t') 25)) := by
  have hr := h.row
  rw [show j.deps.length = (u64s j.deps).length by simp] at hr
  obtain ⟨t1, G0, G, c1, hg, hl, hl0, c2, hp⟩ := hr.grows
  rw [h.cell] at c1
  simp only [Option.some.injEq, AObj.cells.injEq] at c1
  obtain rfl := jbC_inj c1.1
  refine ⟨G0, G, hg, hl, fun t' K' Hn hg' hl' => ?_⟩
  have keep : ∀ p cs T', K p = some (.cells cs T') → Hn p = some (.cells cs T') := fun p cs T' hh => hl' p _ (hg'.le p _ (hp p cs T' hh))
  refine ⟨keep _ _ _ h.cell, ⟨keep _ _ _ h.three.b, keep _ _ _ h.three.a, keep _ _ _ h.three.d⟩ |> fun q : Three b t pb pa pd s Hn => q.of h.nb h.na h.nd, ?_, by simp [Heap.set], h.a0, h.d0, h.na, h.nd, h.nb, h.le⟩
  have := RowAt.stored (T := 25) (F := jbC { j with deps := j.deps ++ [n] }) hl0 h.row.no c2 hg' hl'
  simpa using this
end
theorem takeTextK_len (b : List UInt8) (a : Nat) : (takeTextK b a).1.length ≤ b.length := by
  unfold takeTextK
  split
  · simp
  · split
    · simp
    · simp; omega
theorem txtS_len (b : List UInt8) (s : Nat × Bool) : (txtS b s).1.length ≤ b.length := by
  unfold txtS
  split
  · simp
  · exact takeTextK_len b s.1
set_option maxHeartbeats 4000000 in
theorem c_jobParse (hG : Glob H) (b : List UInt8) (t : Rg.Tok) (a : Nat) (ha : a ≤ b.length) (hb : b.length ≤ 1000000) : AOk Tryz.prog 55 [.sl (u8s b) t, .sc (.int .i64 (a : Int))] H (parseAV (parseJ b a)) H := by
  obtain ⟨res, hres⟩ : ∃ res, parseJ b a = res := ⟨_, rfl⟩
  rw [hres]
  have ha1 : ¬ (a : Int) < 0 := by omega
  have ha2 : ¬ (b.length : Int) < (a : Int) := by omega
  have ha3 : ¬ b.length < a := by omega
  refine ACalls.into Tryz.func55 rfl Tryz.ntmps55 Tryz.results55 (by simp) ?_
  simp -implicitDefEqProofs
  refine AAlloc.intro fun pb hpb => ?_
  simp -implicitDefEqProofs
  refine AAlloc.intro fun pa hpa => ?_
  simp -implicitDefEqProofs
  refine AAlloc.intro fun pj hpj => ?_
  have n1 : pb ≠ pa := by rintro rfl; simp [Heap.set] at hpa
  have n2 : pb ≠ pj := by rintro rfl; simp [Heap.set, n1] at hpj
  have n3 : pa ≠ pj := by rintro rfl; simp [Heap.set] at hpj
  simp -implicitDefEqProofs [n1, n2, n3, ha1, ha2, ha3]
  refine AAlloc.intro fun pd hpd => ?_
  have n4 : pb ≠ pd := by rintro rfl; simp [Heap.set, n1, n2] at hpd
  have n5 : pa ≠ pd := by rintro rfl; simp [Heap.set, n3] at hpd
  have n6 : pj ≠ pd := by rintro rfl; simp [Heap.set] at hpd
  obtain ⟨H1, hH1⟩ : ∃ H1, H.set pb (.cells [.sl (u8s b) t] 28) = H1 := ⟨_, rfl⟩
  rw [hH1] at hpa hpj hpd ⊢
  have l1 : HLe H H1 := by rw [← hH1]; exact HLe.set_fresh hpb
  have a0 : H1 pa = none := hpa
  have j0 : H1 pj = none := by simpa [Heap.set, n3, Ne.symm n3] using hpj
  have d0 : H1 pd = none := by simpa [Heap.set, n5, n6, Ne.symm n5, Ne.symm n6] using hpd
  have b0 : H1 pb = some (.cells [.sl (u8s b) t] 28) := by rw [← hH1]; simp [Heap.set]
  simp -implicitDefEqProofs
  generalize hK : Heap.set _ pd _ = K
  have P0 : PInv H1 b t pb pa pd pj (a, false) jb0 .nil K := by
    rw [← hK]
    refine ⟨⟨by simp [Heap.set, n1, n2, n4, b0], by simp [Heap.set, n3, n5], by simp [Heap.set]⟩, ⟨?_, j0, .nil, by simp [Heap.set, n6]; rfl, .inl ⟨rfl, rfl⟩⟩, by simp [Heap.set, n6]; rfl, a0, d0, n3, Ne.symm n6, n2, ha⟩
    exact HLe.set_new (HLe.set_new (HLe.set_new (HLe.refl _) a0) j0) d0
  clear hK hpa hpj hpd
  -- the first three
  refine ACall.eq (c_parseNum P0.three P0.le hb 18446744073709551615 (by omega)) ?_
  obtain ⟨r1, hr1⟩ : ∃ r, numS b 18446744073709551615 (a, false) = r := ⟨_, rfl⟩
  have P1 := P0.upd (s' := r1.2) (by rw [← hr1]; exact (numS_le b _ _ P0.le).1)
  rw [hr1]
  generalize upd3 _ _ _ _ = K1 at *
  simp -implicitDefEqProofs
  refine ACall.eq (c_parseText P1.three P1.le hb) ?_
  obtain ⟨r2, hr2⟩ : ∃ r, txtS b r1.2 = r := ⟨_, rfl⟩
  have P2 := P1.upd (s' := r2.2) (by rw [← hr2]; exact txtS_le b _ P1.le)
  rw [hr2]
  generalize upd3 _ _ _ _ = K2 at *
  simp -implicitDefEqProofs
  refine ACall.eq (c_parseText P2.three P2.le hb) ?_
  obtain ⟨r3, hr3⟩ : ∃ r, txtS b r2.2 = r := ⟨_, rfl⟩
  have P3 := P2.upd (s' := r3.2) (by rw [← hr3]; exact txtS_le b _ P2.le)
  rw [hr3]
  generalize upd3 _ _ _ _ = K3 at *
  simp -implicitDefEqProofs [P3.cell]
  generalize hU : K3.set pj _ = K4
  have P4 : PInv H1 b t pb pa pd pj r3.2 ⟨r1.1, r2.1, r3.1, 0, 0, 0, 0, 0, [], false, 0, 0⟩ .nil K4 := by rw [← hU]; exact P3.put rfl
  clear hU
  refine ACall.eq (c_parseNum P4.three P4.le hb 1099511627776 (by omega)) ?_
  obtain ⟨r5, hr5⟩ : ∃ r, numS b 1099511627776 r3.2 = r := ⟨_, rfl⟩
  have P5 := P4.upd (s' := r5.2) (by rw [← hr5]; exact (numS_le b _ _ P4.le).1)
  have b5 : r5.1 ≤ 1099511627776 := by rw [← hr5]; exact (numS_le b _ _ P4.le).2
  have w5 : IntKind.i64.wrap (r5.1 : Int) = (r5.1 : Int) := wrap_i64 (by omega) (by omega)
  rw [hr5]
  generalize upd3 _ _ _ _ = K5 at *
  simp -implicitDefEqProofs [P5.cell, w5]
  refine ACall.eq (c_parseNum P5.three P5.le hb 1099511627776 (by omega)) ?_
  obtain ⟨r6, hr6⟩ : ∃ r, numS b 1099511627776 r5.2 = r := ⟨_, rfl⟩
  have P6 := P5.upd (s' := r6.2) (by rw [← hr6]; exact (numS_le b _ _ P5.le).1)
  have b6 : r6.1 ≤ 1099511627776 := by rw [← hr6]; exact (numS_le b _ _ P5.le).2
  have w6 : IntKind.i64.wrap (r6.1 : Int) = (r6.1 : Int) := wrap_i64 (by omega) (by omega)
  rw [hr6]
  generalize upd3 _ _ _ _ = K6 at *
  simp -implicitDefEqProofs [P6.cell, w6]
  generalize hU : K6.set pj _ = K7
  have P7 : PInv H1 b t pb pa pd pj r6.2 ⟨r1.1, r2.1, r3.1, (r5.1 : Int), (r6.1 : Int), 0, 0, 0, [], false, 0, 0⟩ .nil K7 := by rw [← hU]; exact P6.put rfl
  clear hU
  refine ACall.eq (c_parseNum P7.three P7.le hb 1099511627776 (by omega)) ?_
  obtain ⟨r8, hr8⟩ : ∃ r, numS b 1099511627776 r6.2 = r := ⟨_, rfl⟩
  have P8 := P7.upd (s' := r8.2) (by rw [← hr8]; exact (numS_le b _ _ P7.le).1)
  have b8 : r8.1 ≤ 1099511627776 := by rw [← hr8]; exact (numS_le b _ _ P7.le).2
  have w8 : IntKind.i64.wrap (r8.1 : Int) = (r8.1 : Int) := wrap_i64 (by omega) (by omega)
  rw [hr8]
  generalize upd3 _ _ _ _ = K8 at *
  simp -implicitDefEqProofs [P8.cell, w8]
  refine ACall.eq (c_parseNum P8.three P8.le hb 1099511627776 (by omega)) ?_
  obtain ⟨r9, hr9⟩ : ∃ r, numS b 1099511627776 r8.2 = r := ⟨_, rfl⟩
  have P9 := P8.upd (s' := r9.2) (by rw [← hr9]; exact (numS_le b _ _ P8.le).1)
  have b9 : r9.1 ≤ 1099511627776 := by rw [← hr9]; exact (numS_le b _ _ P8.le).2
  have w9 : IntKind.i64.wrap (r9.1 : Int) = (r9.1 : Int) := wrap_i64 (by omega) (by omega)
  rw [hr9]
  generalize upd3 _ _ _ _ = K9 at *
  simp -implicitDefEqProofs [P9.cell, w9]
  refine ACall.eq (c_parseNum P9.three P9.le hb 1099511627776 (by omega)) ?_
  obtain ⟨r10, hr10⟩ : ∃ r, numS b 1099511627776 r9.2 = r := ⟨_, rfl⟩
  have P10 := P9.upd (s' := r10.2) (by rw [← hr10]; exact (numS_le b _ _ P9.le).1)
  have b10 : r10.1 ≤ 1099511627776 := by rw [← hr10]; exact (numS_le b _ _ P9.le).2
  have w10 : IntKind.i64.wrap (r10.1 : Int) = (r10.1 : Int) := wrap_i64 (by omega) (by omega)
  rw [hr10]
  generalize upd3 _ _ _ _ = K10 at *
  simp -implicitDefEqProofs [P10.cell, w10]
  generalize hU : K10.set pj _ = K11
  have P11 : PInv H1 b t pb pa pd pj r10.2 ⟨r1.1, r2.1, r3.1, (r5.1 : Int), (r6.1 : Int), (r8.1 : Int), (r9.1 : Int), (r10.1 : Int), [], false, 0, 0⟩ .nil K11 := by rw [← hU]; exact P10.put rfl
  clear hU
  refine ACall.eq (c_parseNum P11.three P11.le hb 8 (by omega)) ?_
  obtain ⟨r12, hr12⟩ : ∃ r, numS b 8 r10.2 = r := ⟨_, rfl⟩
  have P12 := P11.upd (s' := r12.2) (by rw [← hr12]; exact (numS_le b _ _ P11.le).1)
  have b12 : r12.1 ≤ 8 := by rw [← hr12]; exact (numS_le b _ _ P11.le).2
  have w12 : IntKind.i64.wrap (r12.1 : Int) = (r12.1 : Int) := wrap_i64 (by omega) (by omega)
  rw [hr12]
  generalize upd3 _ _ _ _ = K12 at *
  simp -implicitDefEqProofs
  obtain ⟨rd, hrd⟩ : ∃ r, depsS b r12.1 r12.2 = r := ⟨_, rfl⟩
  refine AGo.joinLoop (fun ρ K => ∃ t0, ρ 2 = .sc (.pointer (some ⟨pb, 0, none⟩)) ∧ ρ 3 = .sc (.pointer (some ⟨pa, 0, none⟩)) ∧ ρ 4 = .sc (.pointer (some ⟨pj, 0, none⟩)) ∧ ρ 7 = .sc (.pointer (some ⟨pd, 0, none⟩)) ∧
    ρ 8 = .sc (.func (.func 103) #[] #[.pointer (some ⟨pb, 0, none⟩), .pointer (some ⟨pa, 0, none⟩), .pointer (some ⟨pd, 0, none⟩)]) ∧
    PInv H1 b t pb pa pd pj rd.2 ⟨r1.1, r2.1, r3.1, (r5.1 : Int), (r6.1 : Int), (r8.1 : Int), (r9.1 : Int), (r10.1 : Int), rd.1, false, 0, 0⟩ t0 K) (fun k' hk => ?_) ?_
  · refine AGo.rounds (fun m ρ K => ∃ i s' ds t0, m = r12.1 - i ∧ i ≤ r12.1 ∧ depsS b i r12.2 = (ds, s') ∧ ρ 54 = .sc (.int .u64 (i : Int)) ∧ ρ 53 = .sc (.int .u64 (r12.1 : Int)) ∧ ρ 2 = .sc (.pointer (some ⟨pb, 0, none⟩)) ∧ ρ 3 = .sc (.pointer (some ⟨pa, 0, none⟩)) ∧ ρ 4 = .sc (.pointer (some ⟨pj, 0, none⟩)) ∧ ρ 7 = .sc (.pointer (some ⟨pd, 0, none⟩)) ∧
      ρ 8 = .sc (.func (.func 103) #[] #[.pointer (some ⟨pb, 0, none⟩), .pointer (some ⟨pa, 0, none⟩), .pointer (some ⟨pd, 0, none⟩)]) ∧
      PInv H1 b t pb pa pd pj s' ⟨r1.1, r2.1, r3.1, (r5.1 : Int), (r6.1 : Int), (r8.1 : Int), (r9.1 : Int), (r10.1 : Int), ds, false, 0, 0⟩ t0 K) ?_ (m := r12.1) (HLe.refl _)
      ⟨0, r12.2, [], .nil, rfl, by omega, rfl, by simp, by simp, by simp, by simp, by simp, by simp, by simp, P12⟩
    rintro m ρ K ih ⟨i, s', ds, t0, rfl, hi, hds, r54, r53, q2, q3, q4, q7, q8, P⟩
    rcases Nat.lt_or_ge i r12.1 with hlt | hge
    · have hlt' : (i : Int) < (r12.1 : Int) := by omega
      have hw1 : IntKind.u64.wrap ((i : Int) + 1) = (i : Int) + 1 := wrap_u64 (by omega) (by omega)
      have hdl : ds.length = i := by have := depsS_len b i r12.2; rw [hds] at this; exact this
      obtain ⟨r, hr⟩ : ∃ r, numS b 18446744073709551615 s' = r := ⟨_, rfl⟩
      have hnext : depsS b (i + 1) r12.2 = (ds ++ [r.1], r.2) := by
        rw [depsS_add, hds]
        simp only [depsS, hr]
      have Pu := P.upd (s' := r.2) (by rw [← hr]; exact (numS_le b _ _ P.le).1)
      have hcall := c_parseNum P.three P.le hb 18446744073709551615 (by omega)
      rw [hr] at hcall
      simp -implicitDefEqProofs [r54, r53, q2, q3, q4, q7, q8, hlt, hlt']
      obtain ⟨G0, G, hg, hl, hst⟩ := Pu.app r.1
      refine go_draw3 [0, 2] (fun _ => none) f_mixed (by decide +kernel) HC.nothing ?_
      simp -implicitDefEqProofs
      refine aq3_op ?_
      simp -implicitDefEqProofs [q4]
      refine aq3_op ?_
      simp -implicitDefEqProofs [q8]
      refine AWK.two 1 3 (by decide +kernel) ?_ ?_
      · refine AWE.op rfl ?_
        simp -implicitDefEqProofs [P.cell]
        refine AWK.one 3 (by decide +kernel) ?_
        refine AWE.op rfl ?_
        simp -implicitDefEqProofs
        refine ⟨_, hcall, ?_⟩
        rintro v Kx ⟨rfl, rfl⟩
        refine ⟨fun _ _ h => (by cases h), ?_⟩
        generalize upd3 pa pd r.2 K = Ku at *
        refine AWK.one 4 (by decide +kernel) ?_
        refine AWE.op rfl ?_
        simp -implicitDefEqProofs
        refine AWK.one 5 (by decide +kernel) ?_
        refine AWE.op rfl ?_
        simp -implicitDefEqProofs
        refine AWS.grows0 el_23 hg hl (by simp [szs, AV.cells]) (by simp [szs, AV.cells]) (by simp; omega) (by simp [maxLen]; omega) fun t' K' Hn hg' hl' _ => ?_
        have e1 : u64s ds ++ [(.sc (.int .u64 (r.1 : Int)) : AV)] = u64s (ds ++ [r.1]) := by simp
        rw [e1] at hg' ⊢
        obtain ⟨hpj2, Pn⟩ := hst t' K' Hn hg' hl'
        simp only [jbC, List.map_append, List.map_cons, List.map_nil] at Pn
        refine AWK.one 6 (by decide +kernel) ?_
        refine AWE.op rfl ?_
        simp -implicitDefEqProofs [q4]
        refine AWK.one 7 (by decide +kernel) ?_
        refine AWE.op rfl ?_
        simp -implicitDefEqProofs [hpj2]
        refine AWS.store hpj2 (fun _ _ h => by cases h) ?_
        refine AWK.fin (by decide +kernel) ?_
        simp -implicitDefEqProofs [r54, hw1]
        exact AGo.again ih (m' := r12.1 - (i + 1)) (by omega) (HLe.refl _) ⟨i + 1, r.2, ds ++ [r.1], t', rfl, by omega, hnext, by simp, by simp [r53], by simp [q2], by simp [q3], by simp [q4], by simp [q7], by simp [q8], Pn⟩
      · refine AWE.op rfl ?_
        simp -implicitDefEqProofs
        refine ⟨_, hcall, ?_⟩
        rintro v Kx ⟨rfl, rfl⟩
        refine ⟨fun _ _ h => (by cases h), ?_⟩
        generalize upd3 pa pd r.2 K = Ku at *
        refine AWK.two 1 4 (by decide +kernel) ?_ ?_
        · refine AWE.op rfl ?_
          simp -implicitDefEqProofs [Pu.cell]
          refine AWK.one 4 (by decide +kernel) ?_
          refine AWE.op rfl ?_
          simp -implicitDefEqProofs
          refine AWK.one 5 (by decide +kernel) ?_
          refine AWE.op rfl ?_
          simp -implicitDefEqProofs
          refine AWS.grows0 el_23 hg hl (by simp [szs, AV.cells]) (by simp [szs, AV.cells]) (by simp; omega) (by simp [maxLen]; omega) fun t' K' Hn hg' hl' _ => ?_
          have e1 : u64s ds ++ [(.sc (.int .u64 (r.1 : Int)) : AV)] = u64s (ds ++ [r.1]) := by simp
          rw [e1] at hg' ⊢
          obtain ⟨hpj2, Pn⟩ := hst t' K' Hn hg' hl'
          simp only [jbC, List.map_append, List.map_cons, List.map_nil] at Pn
          refine AWK.one 6 (by decide +kernel) ?_
          refine AWE.op rfl ?_
          simp -implicitDefEqProofs [q4]
          refine AWK.one 7 (by decide +kernel) ?_
          refine AWE.op rfl ?_
          simp -implicitDefEqProofs [hpj2]
          refine AWS.store hpj2 (fun _ _ h => by cases h) ?_
          refine AWK.fin (by decide +kernel) ?_
          simp -implicitDefEqProofs [r54, hw1]
          exact AGo.again ih (m' := r12.1 - (i + 1)) (by omega) (HLe.refl _) ⟨i + 1, r.2, ds ++ [r.1], t', rfl, by omega, hnext, by simp, by simp [r53], by simp [q2], by simp [q3], by simp [q4], by simp [q7], by simp [q8], Pn⟩
        · refine AWE.op rfl ?_
          simp -implicitDefEqProofs
          refine AWK.one 1 (by decide +kernel) ?_
          refine AWE.op rfl ?_
          simp -implicitDefEqProofs [Pu.cell]
          refine AWK.one 5 (by decide +kernel) ?_
          refine AWE.op rfl ?_
          simp -implicitDefEqProofs
          refine AWS.grows0 el_23 hg hl (by simp [szs, AV.cells]) (by simp [szs, AV.cells]) (by simp; omega) (by simp [maxLen]; omega) fun t' K' Hn hg' hl' _ => ?_
          have e1 : u64s ds ++ [(.sc (.int .u64 (r.1 : Int)) : AV)] = u64s (ds ++ [r.1]) := by simp
          rw [e1] at hg' ⊢
          obtain ⟨hpj2, Pn⟩ := hst t' K' Hn hg' hl'
          simp only [jbC, List.map_append, List.map_cons, List.map_nil] at Pn
          refine AWK.one 6 (by decide +kernel) ?_
          refine AWE.op rfl ?_
          simp -implicitDefEqProofs [q4]
          refine AWK.one 7 (by decide +kernel) ?_
          refine AWE.op rfl ?_
          simp -implicitDefEqProofs [hpj2]
          refine AWS.store hpj2 (fun _ _ h => by cases h) ?_
          refine AWK.fin (by decide +kernel) ?_
          simp -implicitDefEqProofs [r54, hw1]
          exact AGo.again ih (m' := r12.1 - (i + 1)) (by omega) (HLe.refl _) ⟨i + 1, r.2, ds ++ [r.1], t', rfl, by omega, hnext, by simp, by simp [r53], by simp [q2], by simp [q3], by simp [q4], by simp [q7], by simp [q8], Pn⟩
    · have hn : ¬ (i : Int) < (r12.1 : Int) := by omega
      have hn' : ¬ i < r12.1 := by omega
      simp -implicitDefEqProofs [r54, r53, q2, q3, q4, q7, q8, hn, hn']
      obtain rfl : i = r12.1 := by omega
      rw [hrd] at hds
      subst hds
      exact hk _ _ ⟨t0, by simp [q2], by simp [q3], by simp [q4], by simp [q7], by simp [q8], P⟩
  · rintro ρ K13 ⟨t0, q2, q3, q4, q7, q8, P13⟩
    simp -implicitDefEqProofs [q2, q3, q4, q7, q8]
    refine ACall.eq (c_parseNum P13.three P13.le hb 1 (by omega)) ?_
    obtain ⟨r14, hr14⟩ : ∃ r, numS b 1 rd.2 = r := ⟨_, rfl⟩
    have P14 := P13.upd (s' := r14.2) (by rw [← hr14]; exact (numS_le b _ _ P13.le).1)
    rw [hr14]
    generalize upd3 _ _ _ _ = K14 at *
    simp -implicitDefEqProofs [P14.cell, q8]
    refine ACall.eq (c_parseNum P14.three P14.le hb 18446744073709551615 (by omega)) ?_
    obtain ⟨r15, hr15⟩ : ∃ r, numS b 18446744073709551615 r14.2 = r := ⟨_, rfl⟩
    have P15 := P14.upd (s' := r15.2) (by rw [← hr15]; exact (numS_le b _ _ P14.le).1)
    rw [hr15]
    generalize upd3 _ _ _ _ = K15 at *
    obtain ⟨pz, hpz⟩ : ∃ z, decide (r14.1 = 1) = z := ⟨_, rfl⟩
    have hpz' : decide ((r14.1 : Int) = 1) = pz := by rw [← hpz]; congr 1; exact propext ⟨fun h => by omega, fun h => by omega⟩
    simp -implicitDefEqProofs [P15.cell, q4, hpz, hpz']
    generalize hU : K15.set pj _ = K16
    have P16 : PInv H1 b t pb pa pd pj r15.2 ⟨r1.1, r2.1, r3.1, (r5.1 : Int), (r6.1 : Int), (r8.1 : Int), (r9.1 : Int), (r10.1 : Int), rd.1, pz, r15.1, 0⟩ t0 K16 := by rw [← hU]; exact P15.put rfl
    clear hU
    have hti := c_takeInt (H := K16) b t r15.2.1 P16.le hb
    obtain ⟨p, hp⟩ : ∃ p, takeK b r15.2.1 = p := ⟨_, rfl⟩
    rw [hp] at hti
    simp -implicitDefEqProofs [P16.three.b, P16.three.a, q2, q3]
    refine ACall.eq hti ?_
    obtain ⟨bad, hbad⟩ : ∃ z, r15.2.2 = z := ⟨_, rfl⟩
    have hd16 := P16.three.d
    rw [hbad] at hd16
    have hpj : parseJ b a = if bad = true ∨ p.2.2 ≠ 0 ∨ mayJ ⟨r1.1, r2.1, r3.1, (r5.1 : Int), (r6.1 : Int), (r8.1 : Int), (r9.1 : Int), (r10.1 : Int), rd.1, pz, r15.1, unzig p.1⟩ ≠ 0 then none
        else some (⟨r1.1, r2.1, r3.1, (r5.1 : Int), (r6.1 : Int), (r8.1 : Int), (r9.1 : Int), (r10.1 : Int), rd.1, pz, r15.1, unzig p.1⟩, p.2.1) := by
      simp only [parseJ, stA, stB, stC, stD, stE, stF, hr1, hr2, hr3, hr5, hr6, hr8, hr9, hr10, hr12, hrd, hr14, hr15, hp, hpz, hbad]
    rw [hres] at hpj
    have hP17 : ∀ ds, HLe H (K16.set pj (.cells ds 25)) := fun ds => HLe.set_new (l1.trans P16.row.le) (by rw [← hH1] at j0; simpa [Heap.set, n2, Ne.symm n2] using j0)
    cases bad with
    | true =>
      rw [if_pos (.inl rfl)] at hpj
      subst hpj
      simp -implicitDefEqProofs [P16.cell, q4, q7, hd16, P16.nd, parseAV]
      exact ⟨rfl, (hP17 _).wk⟩
    | false =>
      obtain ⟨e, he⟩ : ∃ e, p.2.2 = e := ⟨_, rfl⟩
      rw [he] at hpj
      by_cases he0 : e = 0
      · subst he0
        have hl3 : r3.1.length ≤ b.length := by rw [← hr3]; exact txtS_len b _
        have hmay := c_jobMay (H := K16.set pj (.cells (jbC ⟨r1.1, r2.1, r3.1, (r5.1 : Int), (r6.1 : Int), (r8.1 : Int), (r9.1 : Int), (r10.1 : Int), rd.1, pz, r15.1, unzig p.1⟩ t0) 25)) (hG.le (hP17 _)) ⟨r1.1, r2.1, r3.1, (r5.1 : Int), (r6.1 : Int), (r8.1 : Int), (r9.1 : Int), (r10.1 : Int), rd.1, pz, r15.1, unzig p.1⟩ t0 (by simp only; omega)
        obtain ⟨em, hem⟩ : ∃ em, mayJ ⟨r1.1, r2.1, r3.1, (r5.1 : Int), (r6.1 : Int), (r8.1 : Int), (r9.1 : Int), (r10.1 : Int), rd.1, pz, r15.1, unzig p.1⟩ = em := ⟨_, rfl⟩
        rw [hem] at hmay hpj
        simp -implicitDefEqProofs [P16.cell, q4, q7, hd16, P16.nd, he]
        refine ACall.eq hmay ?_
        by_cases hm0 : em = 0
        · rw [if_neg (by simp [hm0])] at hpj
          subst hpj
          simp -implicitDefEqProofs [hm0, q4, P16.nd, parseAV]
          exact (hP17 _).wk
        · rw [if_pos (.inr (.inr hm0))] at hpj
          subst hpj
          simp -implicitDefEqProofs [hm0, q4, P16.nd, parseAV]
          exact ⟨rfl, (hP17 _).wk⟩
      · rw [if_pos (.inr (.inl he0))] at hpj
        subst hpj
        have he0' : ¬ (e : Int) = 0 := by omega
        simp -implicitDefEqProofs [P16.cell, q4, q7, hd16, P16.nd, parseAV, he, he0, he0']
        exact ⟨rfl, (hP17 _).wk⟩
end Go.Proofs.YtghlkjkdejebnaaGreatDoor
namespace Go.Proofs.YtghlkjkdejebnaaGreatDoor
open Rg Go
theorem drop_next {B X Q : List UInt8} {a : Nat} (h : B.drop a = X ++ Q) : B.drop (a + X.length) = Q := by
  rw [← List.drop_drop, h, List.drop_left]
theorem takeK_at {B Q : List UInt8} {a n : Nat} (h : B.drop a = putB n ++ Q) (hn : n < 18446744073709551616) : takeK B a = (n, a + (putB n).length, 0) := by
  unfold takeK putB
  rw [h]
  unfold putB
  rw [take_put 9 n 0 0 Q rfl (by omega) (.inl rfl)]
  simp
theorem numS_at {B Q : List UInt8} {a n most : Nat} (h : B.drop a = putB n ++ Q) (hn : n < 18446744073709551616) (hm : n ≤ most) : numS B most (a, false) = (n, a + (putB n).length, false) := by
  unfold numS
  rw [takeK_at h hn, if_neg (by simp; omega)]
theorem takeTextK_at {B Q s : List UInt8} {a : Nat} (h : B.drop a = putTextB s ++ Q) (hs : s.length ≤ 4096) : takeTextK B a = (s, a + (putTextB s).length, 0) := by
  unfold putTextB at h ⊢
  rw [List.append_assoc] at h
  have h1 := takeK_at h (by omega)
  have h2 := drop_next h
  have h3 := congrArg List.length h2
  rw [List.length_drop, List.length_append] at h3
  unfold takeTextK
  rw [h1]
  simp only
  rw [if_neg (by simp), if_neg (by omega), h2, List.take_left, List.length_append, Nat.add_assoc]
theorem txtS_at {B Q s : List UInt8} {a : Nat} (h : B.drop a = putTextB s ++ Q) (hs : s.length ≤ 4096) : txtS B (a, false) = (s, a + (putTextB s).length, false) := by
  unfold txtS
  rw [takeTextK_at h hs, if_neg (by simp)]
theorem depsS_at {B : List UInt8} : ∀ (L : List Nat) {Q : List UInt8} {a : Nat}, B.drop a = numsB L ++ Q → (∀ n ∈ L, n < 18446744073709551616) → depsS B L.length (a, false) = (L, a + (numsB L).length, false)
  | [], Q, a, h, _ => by simp [depsS, numsB]
  | n :: L, Q, a, h, hn => by
    have e : numsB (n :: L) = putB n ++ numsB L := by simp [numsB]
    rw [e, List.append_assoc] at h
    have h64 := hn n (by simp)
    simp only [List.length_cons, depsS]
    rw [numS_at h h64 (by omega), depsS_at L (drop_next h) fun m hm => hn m (by simp [hm]), e, List.length_append, Nat.add_assoc]
theorem numsB_cons (n : Nat) (L : List Nat) : numsB (n :: L) = putB n ++ numsB L := by simp [numsB]
theorem parse_put {B Q : List UInt8} {a : Nat} {j : Jb} (h : B.drop a = putJ j ++ Q) (ho : JbOk j) (hm : mayJ j = 0) (hs : j.ex.length ≤ 4096) : parseJ B a = some (j, a + (putJ j).length) := by
  have M := JbMay.of hm
  obtain ⟨bp, hbp⟩ : ∃ bp : Nat, (if j.pau then 1 else 0) = bp := ⟨_, rfl⟩
  have hb1 : bp ≤ 1 := by rw [← hbp]; split <;> omega
  have hpau : decide (bp = 1) = j.pau := by rw [← hbp]; cases j.pau <;> rfl
  have hlen : (putJ j).length = (putB j.id).length + (putTextB j.name).length + (putTextB j.ex).length + (putB j.pol.toNat).length + (putB j.gr.toNat).length + (putB j.lim.toNat).length + (putB j.ret.toNat).length + (putB j.tim.toNat).length + (putB j.deps.length).length + (numsB j.deps).length + (putB bp).length + (putB j.ver).length + (putB (zig j.seen)).length := by
    simp only [putJ, numsB_cons, hbp, List.length_append]
    simp only [numsB, List.flatMap_nil, List.length_nil]
    omega
  simp only [putJ, hbp, numsB_cons, List.append_assoc] at h
  simp only [numsB, List.flatMap_nil, List.nil_append] at h
  have d1 := numS_at (most := 18446744073709551615) h ho.id (by have := ho.id; omega)
  have h2 := drop_next h
  have d2 := txtS_at h2 (by have := M.name; omega)
  have h3 := drop_next h2
  have d3 := txtS_at h3 hs
  have h4 := drop_next h3
  have d4 := numS_at (most := 1099511627776) h4 (by have := M.pol; omega) (by have := M.pol; omega)
  have h5 := drop_next h4
  have d5 := numS_at (most := 1099511627776) h5 (by have := M.gr; omega) (by have := M.gr; omega)
  have h6 := drop_next h5
  have d6 := numS_at (most := 1099511627776) h6 (by have := M.lim; omega) (by have := M.lim; omega)
  have h7 := drop_next h6
  have d7 := numS_at (most := 1099511627776) h7 (by have := M.ret; omega) (by have := M.ret; omega)
  have h8 := drop_next h7
  have d8 := numS_at (most := 1099511627776) h8 (by have := M.tim; omega) (by have := M.tim; omega)
  have h9 := drop_next h8
  have d9 := numS_at (most := 8) h9 (by have := M.deps; omega) M.deps
  have h10 := drop_next h9
  have d10 := depsS_at j.deps (by simp only [numsB]; exact h10) ho.deps
  have h11 := drop_next h10
  have d11 := numS_at (most := 1) h11 (by omega) hb1
  have h12 := drop_next h11
  have d12 := numS_at (most := 18446744073709551615) h12 ho.ver (by have := ho.ver; omega)
  have h13 := drop_next h12
  have d13 := takeK_at h13 (zig_lt (by have := M.seen; omega) (by have := M.seen; omega))
  simp only [numsB] at d10 hlen
  have hj : (⟨j.id, j.name, j.ex, (j.pol.toNat : Int), (j.gr.toNat : Int), (j.lim.toNat : Int), (j.ret.toNat : Int), (j.tim.toNat : Int), j.deps, decide (bp = 1), j.ver, unzig (zig j.seen)⟩ : Jb) = j := by
    have e1 : (j.pol.toNat : Int) = j.pol := by have := M.pol; omega
    have e2 : (j.gr.toNat : Int) = j.gr := by have := M.gr; omega
    have e3 : (j.lim.toNat : Int) = j.lim := by have := M.lim; omega
    have e4 : (j.ret.toNat : Int) = j.ret := by have := M.ret; omega
    have e5 : (j.tim.toNat : Int) = j.tim := by have := M.tim; omega
    rw [e1, e2, e3, e4, e5, hpau, unzig_zig]
  simp only [parseJ, stA, stB, stC, stD, stE, stF, d1, d2, d3, d4, d5, d6, d7, d8, d9, d10, d11, d12, d13, hj, hm]
  rw [if_neg (by simp), hlen]
  congr 2
  omega
end Go.Proofs.YtghlkjkdejebnaaGreatDoor
namespace Go.Proofs.YtghlkjkdejebnaaGreatDoor
open Rg Go
def valK : List UInt8 → Nat
  | [] => 0
  | x :: r => x.toNat % 128 + 128 * valK r
theorem valK_app (x : UInt8) : ∀ l : List UInt8, valK (l ++ [x]) = valK l + x.toNat % 128 * 128 ^ l.length
  | [] => by simp [valK]
  | y :: r => by
    simp only [List.cons_append, valK, valK_app x r, List.length_cons, Nat.pow_succ, Nat.mul_add]
    have : 128 * (x.toNat % 128 * 128 ^ r.length) = x.toNat % 128 * (128 ^ r.length * 128) := by
      rw [Nat.mul_comm 128, Nat.mul_assoc]
    omega
theorem takeGo_inv : ∀ (l : List UInt8) (i acc n k : Nat), i ≤ 9 → takeGo l i acc = some (n, k) →
    i < k ∧ k ≤ 10 ∧ (∃ x, l[k - 1 - i]? = some x ∧ x.toNat < 128) ∧ (∀ j, j < k - 1 - i → ∀ x, l[j]? = some x → 128 ≤ x.toNat) ∧
    n = acc + valK (l.take (k - i)) * 128 ^ i ∧ putK (9 - i) (valK (l.take (k - i))) = l.take (k - i) ∧ (0 < i → 0 < valK (l.take (k - i)))
  | [], i, acc, n, k, _, h => by simp [takeGo] at h
  | x :: r, i, acc, n, k, hi, h => by
    simp only [takeGo] at h
    have hx := x.toNat_lt
    split at h
    · cases h
    · rename_i hc
      split at h
      · rename_i h128
        cases h
        have e : x.toNat % 128 = x.toNat := Nat.mod_eq_of_lt h128
        have e1 : i + 1 - i = 0 + 1 := by omega
        have e2 : i + 1 - 1 - i = 0 := by omega
        rw [e1, e2]
        simp only [List.take_succ_cons, List.take_zero, valK, Nat.mul_zero, Nat.add_zero, e]
        refine ⟨by omega, by omega, ⟨x, by simp, h128⟩, fun j hj => by omega, trivial, ?_, fun h0 => by omega⟩
        rcases hf : 9 - i with _ | f
        · simp [putK]
        · simp [putK, h128]
      · rename_i h128
        have h9 : i < 9 := by omega
        obtain ⟨a1, a2, ⟨y, ay, by_⟩, a4, a5, a6, a7⟩ := takeGo_inv r (i + 1) _ n k (by omega) h
        have e1 : k - i = (k - (i + 1)) + 1 := by omega
        have e2 : k - 1 - i = (k - 1 - (i + 1)) + 1 := by omega
        have a7' := a7 (by omega)
        rw [e1, e2]
        simp only [List.take_succ_cons, valK]
        obtain ⟨m, hm⟩ : ∃ m, m = valK (r.take (k - (i + 1))) := ⟨_, rfl⟩
        rw [← hm] at a5 a6 a7' ⊢
        refine ⟨by omega, by omega, ⟨y, by simpa using ay, by_⟩, fun j hj z hz => ?_, ?_, ?_, fun _ => by omega⟩
        · rcases j with _ | j
          · simp at hz
            subst hz
            omega
          · exact a4 j (by omega) z (by simpa using hz)
        · rw [a5, Nat.pow_succ, Nat.add_mul]
          have : m * (128 ^ i * 128) = 128 * m * 128 ^ i := by
            rw [Nat.mul_comm (128 ^ i) 128, ← Nat.mul_assoc, Nat.mul_comm m 128]
          omega
        · have hf : 9 - i = (9 - (i + 1)) + 1 := by omega
          rw [hf]
          unfold putK
          rw [if_neg (by omega)]
          have m1 : (x.toNat % 128 + 128 * m) / 128 = m := by omega
          have m2 : (x.toNat % 128 + 128 * m) % 128 + 128 = x.toNat := by omega
          rw [m1, m2, a6]
          simp
theorem takeK_inv {b : List UInt8} {a : Nat} (h : (takeK b a).2.2 = 0) : b.drop a = putB (takeK b a).1 ++ b.drop (takeK b a).2.1 ∧ (takeK b a).2.1 = a + (putB (takeK b a).1).length := by
  unfold takeK at h ⊢
  split at h
  · rename_i n k hg
    obtain ⟨a1, a2, ⟨y, ay, _⟩, a4, a5, a6, a7⟩ := takeGo_inv _ 0 0 n k (by omega) hg
    simp only [Nat.sub_zero, Nat.pow_zero, Nat.mul_one, Nat.zero_add] at a5 a6 ay
    simp only
    have e : putB n = (b.drop a).take k := by rw [a5]; exact a6
    have hl : k ≤ (b.drop a).length := by
      have := (List.getElem?_eq_some_iff.1 ay).1
      omega
    rw [e, List.length_take, Nat.min_eq_left hl]
    refine ⟨?_, rfl⟩
    rw [← List.drop_drop, List.take_append_drop]
  · simp at h
theorem takeK_doc {b : List UInt8} {a i : Nat} {x : UInt8} (hx : (b.drop a)[i]? = some x) (h128 : x.toNat < 128) (hi : i < 10) (hb : ∀ j, j < i → ∀ y, (b.drop a)[j]? = some y → 128 ≤ y.toNat) :
    takeK b a = if putB (valK ((b.drop a).take (i + 1)) % 18446744073709551616) = (b.drop a).take (i + 1) then (valK ((b.drop a).take (i + 1)) % 18446744073709551616, a + i + 1, 0) else (0, 0, 4) := by
  have hl : i + 1 ≤ (b.drop a).length := (List.getElem?_eq_some_iff.1 hx).1
  split
  · rename_i h
    have hd : b.drop a = putB (valK ((b.drop a).take (i + 1)) % 18446744073709551616) ++ (b.drop a).drop (i + 1) := by
      rw [h, List.take_append_drop]
    rw [takeK_at hd (Nat.mod_lt _ (by omega)), h, List.length_take, Nat.min_eq_left hl, Nat.add_assoc]
  · rename_i h
    unfold takeK
    rcases hg : takeGo (b.drop a) 0 0 with _ | ⟨n, k⟩
    · rfl
    · exfalso
      obtain ⟨a1, a2, ⟨y, ay, y128⟩, a4, a5, a6, a7⟩ := takeGo_inv _ 0 0 n k (by omega) hg
      simp only [Nat.sub_zero, Nat.pow_zero, Nat.mul_one, Nat.zero_add] at a4 a5 a6 ay
      have hk : k = i + 1 := by
        rcases Nat.lt_trichotomy (k - 1) i with h1 | h1 | h1
        · have := hb (k - 1) h1 y ay
          omega
        · omega
        · have := a4 i h1 x hx
          omega
      subst hk
      have hlt := takeGo_lt _ _ _ _ _ (by omega) (by simp) hg
      rw [← a5, Nat.mod_eq_of_lt hlt, a5] at h
      exact h a6
theorem takeK_none {b : List UInt8} {a : Nat} (hb : ∀ j, j < 10 → ∀ y, (b.drop a)[j]? = some y → 128 ≤ y.toNat) : takeK b a = (0, 0, 4) := by
  unfold takeK
  rcases hg : takeGo (b.drop a) 0 0 with _ | ⟨n, k⟩
  · rfl
  · exfalso
    obtain ⟨a1, a2, ⟨y, ay, y128⟩, a4, a5, a6, a7⟩ := takeGo_inv _ 0 0 n k (by omega) hg
    have := hb (k - 1 - 0) (by omega) y ay
    omega
end Go.Proofs.YtghlkjkdejebnaaGreatDoor
namespace Go.Proofs.YtghlkjkdejebnaaGreatDoor
open Rg Go
def capS (b : List UInt8) (s : Nat × Bool) : Nat × Nat × Bool :=
  (min (numS b 18446744073709551615 s).1 1099511627776, (numS b 18446744073709551615 s).2)
def depsT (b : List UInt8) : Nat → Nat × Bool → List Nat × Nat × Bool
  | 0, s => ([], s)
  | k + 1, s => if s.2 = true then ([], s) else ((numS b 18446744073709551615 s).1 :: (depsT b k (numS b 18446744073709551615 s).2).1, (depsT b k (numS b 18446744073709551615 s).2).2)
def rtB (b : List UInt8) (p : PStep) : PStep :=
  let r4 := capS b p.s; let r5 := capS b r4.2
  ⟨{ p.j with pol := (r4.1 : Int), gr := (r5.1 : Int) }, r5.2⟩
def rtC (b : List UInt8) (p : PStep) : PStep :=
  let r6 := capS b p.s; let r7 := capS b r6.2; let r8 := capS b r7.2
  ⟨{ p.j with lim := (r6.1 : Int), ret := (r7.1 : Int), tim := (r8.1 : Int) }, r8.2⟩
def rtD (b : List UInt8) (p : PStep) : PStep :=
  let r9 := capS b p.s; let rd := depsT b r9.1 (r9.2.1, r9.2.2 || decide (8 < r9.1))
  ⟨{ p.j with deps := rd.1 }, rd.2⟩
def rtE (b : List UInt8) (p : PStep) : PStep :=
  let ra := numS b 18446744073709551615 p.s; let rv := numS b 18446744073709551615 (ra.2.1, ra.2.2 || decide (1 < ra.1))
  ⟨{ p.j with pau := decide (ra.1 = 1), ver := rv.1 }, rv.2⟩
def intS (b : List UInt8) (s : Nat × Bool) : Int × Nat × Bool :=
  if s.2 = true ∨ (takeK b s.1).2.2 ≠ 0 then (0, s.1, true) else (unzig (takeK b s.1).1, (takeK b s.1).2.1, false)
def takeJ (b : List UInt8) (s : Nat × Bool) : PStep :=
  let r1 := numS b 18446744073709551615 s; let r2 := txtS b r1.2; let r3 := txtS b r2.2
  let p := rtE b (rtD b (rtC b (rtB b ⟨{ jb0 with id := r1.1, name := r2.1, ex := r3.1 }, r3.2⟩)))
  ⟨{ p.j with seen := (intS b p.s).1 }, (intS b p.s).2⟩
def parseT (b : List UInt8) (a : Nat) : Option (Jb × Nat) :=
  let p := takeJ b (a, false)
  if p.s.2 = true ∨ mayJ p.j ≠ 0 then none else some (p.j, p.s.1)
theorem numS_bad (b : List UInt8) (most : Nat) (s : Nat × Bool) (h : s.2 = true) : numS b most s = (0, s.1, true) := by
  unfold numS
  rw [if_pos (.inl h)]
theorem txtS_bad (b : List UInt8) (s : Nat × Bool) (h : s.2 = true) : txtS b s = ([], s.1, true) := by
  unfold txtS
  rw [if_pos (.inl h)]
theorem numS_most (b : List UInt8) {m : Nat} (hm : m ≤ 18446744073709551615) (s : Nat × Bool) : numS b m s = numS b 18446744073709551615 s ∧ (numS b m s).1 ≤ m ∨ numS b m s = (0, s.1, true) ∧ m < (numS b 18446744073709551615 s).1 := by
  have h64 := takeK_lt b s.1
  unfold numS
  by_cases h : s.2 = true ∨ (takeK b s.1).2.2 ≠ 0
  · rw [if_pos (by rcases h with h | h <;> simp [h]), if_pos (by rcases h with h | h <;> simp [h])]
    exact .inl ⟨rfl, Nat.zero_le _⟩
  · by_cases h2 : m < (takeK b s.1).1
    · rw [if_pos (.inr (.inr h2)), if_neg (by rintro (h3 | h3 | h3) <;> first | exact h (.inl h3) | exact h (.inr h3) | omega)]
      exact .inr ⟨rfl, h2⟩
    · rw [if_neg (by rintro (h3 | h3 | h3) <;> first | exact h (.inl h3) | exact h (.inr h3) | omega), if_neg (by rintro (h3 | h3 | h3) <;> first | exact h (.inl h3) | exact h (.inr h3) | omega)]
      exact .inl ⟨rfl, by simp only; omega⟩
theorem numS_small (b : List UInt8) (s : Nat × Bool) : numS b 1099511627776 s = capS b s ∨ (numS b 1099511627776 s).2.2 = true ∧ (capS b s).1 = 1099511627776 := by
  rcases numS_most b (m := 1099511627776) (by omega) s with ⟨h, h1⟩ | ⟨h, h1⟩
  · left
    unfold capS
    rw [← h, Nat.min_eq_left h1]
  · exact .inr ⟨by rw [h], by unfold capS; simp only; omega⟩
theorem numS_stay (b : List UInt8) (m : Nat) (s : Nat × Bool) (h : s.2 = true) : (numS b m s).2.2 = true := by rw [numS_bad b m s h]
theorem capS_stay (b : List UInt8) (s : Nat × Bool) (h : s.2 = true) : (capS b s).2.2 = true := numS_stay b _ s h
theorem depsS_stay (b : List UInt8) : ∀ k s, s.2 = true → (depsS b k s).2.2 = true
  | 0, s, h => h
  | k + 1, s, h => depsS_stay b k _ (numS_stay b _ s h)
theorem depsT_stay (b : List UInt8) : ∀ k s, s.2 = true → (depsT b k s).2.2 = true
  | 0, s, h => h
  | k + 1, s, h => by
    unfold depsT
    rw [if_pos h]
    exact h
theorem depsT_eq (b : List UInt8) : ∀ k s, depsT b k s = depsS b k s ∨ (depsS b k s).2.2 = true ∧ (depsT b k s).2.2 = true
  | 0, s => .inl rfl
  | k + 1, s => by
    by_cases h : s.2 = true
    · exact .inr ⟨depsS_stay b _ s h, depsT_stay b _ s h⟩
    · unfold depsT depsS
      rw [if_neg h]
      rcases depsT_eq b k (numS b 18446744073709551615 s).2 with h1 | h1
      · exact .inl (by rw [h1])
      · exact .inr h1
def BigJ (j : Jb) : Prop := j.pol = 1099511627776 ∨ j.gr = 1099511627776 ∨ j.lim = 1099511627776 ∨ j.ret = 1099511627776 ∨ j.tim = 1099511627776
theorem big_may {j : Jb} (h : BigJ j) : mayJ j ≠ 0 := fun h0 => by
  have M := JbMay.of h0
  obtain ⟨-, -, -, ⟨-, m1⟩, ⟨-, m2⟩, ⟨-, m3⟩, ⟨-, m4⟩, ⟨-, m5⟩, -⟩ := M
  unfold BigJ at h
  omega
def Alike (p r : PStep) : Prop := p = r ∨ p.s.2 = true ∧ (r.s.2 = true ∨ BigJ r.j)
def Alike1 (p r : PStep) : Prop := p = r ∨ p.s.2 = true ∧ (r.s.2 = true ∨ r.j.pol = 1099511627776 ∨ r.j.gr = 1099511627776)
theorem alike_B (b : List UInt8) (p : PStep) : Alike1 (stB b p) (rtB b p) := by
  unfold stB rtB Alike1
  simp only
  rcases numS_small b p.s with h | ⟨h1, h2⟩
  · rw [h]
    rcases numS_small b (capS b p.s).2 with h' | ⟨h1, h2⟩
    · left; rw [h']
    · right; exact ⟨h1, .inr (.inr (by rw [h2]; rfl))⟩
  · right
    exact ⟨numS_stay b _ _ h1, .inr (.inl (by rw [h2]; rfl))⟩
theorem alike_C (b : List UInt8) {p r : PStep} (h : Alike1 p r) : Alike (stC b p) (rtC b r) := by
  rcases h with rfl | ⟨h1, h2⟩
  · unfold stC rtC Alike
    simp only
    rcases numS_small b p.s with h | ⟨h1, h2⟩
    · rw [h]
      rcases numS_small b (capS b p.s).2 with h | ⟨h1, h2⟩
      · rw [h]
        rcases numS_small b (capS b (capS b p.s).2).2 with h | ⟨h1, h2⟩
        · left; rw [h]
        · right; exact ⟨h1, .inr (.inr (.inr (.inr (.inr (by rw [h2]; rfl)))))⟩
      · right; exact ⟨numS_stay b _ _ h1, .inr (.inr (.inr (.inr (.inl (by rw [h2]; rfl)))))⟩
    · right; exact ⟨numS_stay b _ _ (numS_stay b _ _ h1), .inr (.inr (.inr (.inl (by rw [h2]; rfl))))⟩
  · refine .inr ⟨numS_stay b _ _ (numS_stay b _ _ (numS_stay b _ _ h1)), ?_⟩
    rcases h2 with h2 | h2 | h2
    · exact .inl (capS_stay b _ (capS_stay b _ (capS_stay b _ h2)))
    · exact .inr (.inl h2)
    · exact .inr (.inr (.inl h2))
theorem alike_D (b : List UInt8) {p r : PStep} (h : Alike p r) : Alike (stD b p) (rtD b r) := by
  rcases h with rfl | ⟨h1, h2⟩
  · unfold stD rtD
    simp only
    rcases numS_most b (m := 8) (by omega) p.s with ⟨h, h1⟩ | ⟨h, h1⟩
    · have e : capS b p.s = numS b 8 p.s := by
        unfold capS
        rw [h] at h1 ⊢
        rw [Nat.min_eq_left (by omega)]
      rw [e]
      have e2 : ((numS b 8 p.s).2.1, (numS b 8 p.s).2.2 || decide (8 < (numS b 8 p.s).1)) = (numS b 8 p.s).2 := by
        rw [decide_eq_false (by omega), Bool.or_false]
      rw [e2]
      rcases depsT_eq b (numS b 8 p.s).1 (numS b 8 p.s).2 with h3 | ⟨h3, h4⟩
      · left; rw [h3]
      · right; exact ⟨h3, .inl h4⟩
    · right
      refine ⟨depsS_stay b _ _ (by rw [h]), .inl (depsT_stay b _ _ ?_)⟩
      have : 8 < (capS b p.s).1 := by unfold capS; simp only; omega
      simp [this]
  · refine .inr ⟨depsS_stay b _ _ (numS_stay b _ _ h1), ?_⟩
    rcases h2 with h2 | h2
    · left
      exact depsT_stay b _ _ (by simp [capS_stay b _ h2])
    · exact .inr h2
theorem alike_E (b : List UInt8) {p r : PStep} (h : Alike p r) : Alike (stE b p) (rtE b r) := by
  rcases h with rfl | ⟨h1, h2⟩
  · unfold stE rtE
    simp only
    rcases numS_most b (m := 1) (by omega) p.s with ⟨h, h1⟩ | ⟨h, h1⟩
    · rw [← h]
      have e2 : ((numS b 1 p.s).2.1, (numS b 1 p.s).2.2 || decide (1 < (numS b 1 p.s).1)) = (numS b 1 p.s).2 := by
        rw [decide_eq_false (by omega), Bool.or_false]
      rw [e2]
      exact .inl rfl
    · right
      exact ⟨numS_stay b _ _ (by rw [h]), .inl (numS_stay b _ _ (by simp [h1]))⟩
  · refine .inr ⟨numS_stay b _ _ (numS_stay b _ _ h1), ?_⟩
    rcases h2 with h2 | h2
    · left
      exact numS_stay b _ _ (by simp [numS_stay b _ _ h2])
    · exact .inr h2
theorem parseT_eq (b : List UInt8) (a : Nat) : parseT b a = parseJ b a := by
  unfold parseT parseJ takeJ stF
  simp only
  have hA : stA b a = ⟨{ jb0 with id := (numS b 18446744073709551615 (a, false)).1, name := (txtS b (numS b 18446744073709551615 (a, false)).2).1, ex := (txtS b (txtS b (numS b 18446744073709551615 (a, false)).2).2).1 }, (txtS b (txtS b (numS b 18446744073709551615 (a, false)).2).2).2⟩ := rfl
  rw [← hA]
  have h := alike_E b (alike_D b (alike_C b (alike_B b (stA b a))))
  generalize stE b (stD b (stC b (stB b (stA b a)))) = p at h ⊢
  generalize rtE b (rtD b (rtC b (rtB b (stA b a)))) = r at h ⊢
  rcases h with rfl | ⟨h1, h2⟩
  · by_cases h : p.s.2 = true
    · have hi : intS b p.s = (0, p.s.1, true) := by unfold intS; rw [if_pos (.inl h)]
      rw [hi, if_pos (.inl rfl), if_pos (.inl h)]
    · by_cases h3 : (takeK b p.s.1).2.2 = 0
      · have hi : intS b p.s = (unzig (takeK b p.s.1).1, (takeK b p.s.1).2.1, false) := by
          unfold intS
          rw [if_neg (by rintro (h5 | h5); exact h h5; exact h5 h3)]
        rw [hi]
        simp only
        generalize mayJ _ = m
        by_cases h4 : m = 0
        · rw [if_neg (by rintro (h5 | h5); cases h5; exact h5 h4), if_neg (by rintro (h5 | h5 | h5); exact h h5; exact h5 h3; exact h5 h4)]
        · rw [if_pos (.inr h4), if_pos (.inr (.inr h4))]
      · have hi : intS b p.s = (0, p.s.1, true) := by unfold intS; rw [if_pos (.inr h3)]
        rw [hi, if_pos (.inl rfl), if_pos (.inr (.inl h3))]
  · have hn : (if p.s.2 = true ∨ (takeK b p.s.1).2.2 ≠ 0 ∨ mayJ { p.j with seen := unzig (takeK b p.s.1).1 } ≠ 0 then none else some ({ p.j with seen := unzig (takeK b p.s.1).1 }, (takeK b p.s.1).2.1)) = (none : Option (Jb × Nat)) := if_pos (.inl h1)
    refine Eq.trans (if_pos ?_) hn.symm
    rcases h2 with h2 | h2
    · left
      unfold intS
      rw [if_pos (.inl h2)]
    · exact .inr (big_may h2)
end Go.Proofs.YtghlkjkdejebnaaGreatDoor
namespace Go.Proofs.YtghlkjkdejebnaaGreatDoor
open Rg Go
theorem numS_inv {b : List UInt8} {m : Nat} {s : Nat × Bool} (h : (numS b m s).2.2 = false) : s.2 = false ∧ b.drop s.1 = putB (numS b m s).1 ++ b.drop (numS b m s).2.1 ∧ (numS b m s).1 < 18446744073709551616 ∧ (numS b m s).1 ≤ m := by
  unfold numS at h ⊢
  split at h
  · cases h
  · rename_i hc
    rw [if_neg hc]
    simp only [not_or, Decidable.not_not, Nat.not_lt] at hc
    refine ⟨by simpa using hc.1, ?_, takeK_lt b s.1, hc.2.2⟩
    exact (takeK_inv hc.2.1).1
theorem takeTextK_inv {b : List UInt8} {a : Nat} (h : (takeTextK b a).2.2 = 0) : b.drop a = putTextB (takeTextK b a).1 ++ b.drop (takeTextK b a).2.1 ∧ (takeTextK b a).1.length ≤ 4096 := by
  unfold takeTextK at h ⊢
  split at h
  · rename_i hc
    exact absurd h hc
  · rename_i hc
    rw [if_neg hc]
    split at h
    · cases h
    · rename_i hd
      rw [if_neg hd]
      have h1 := (takeK_inv (b := b) (a := a) (by simpa using hc)).1
      simp only [not_or, Nat.not_lt] at hd
      have hl : ((b.drop (takeK b a).2.1).take (takeK b a).1).length = (takeK b a).1 := by
        rw [List.length_take, List.length_drop]
        omega
      simp only
      refine ⟨?_, by rw [hl]; exact hd.1⟩
      unfold putTextB
      rw [hl, List.append_assoc, ← List.drop_drop, List.take_append_drop]
      exact h1
theorem txtS_inv {b : List UInt8} {s : Nat × Bool} (h : (txtS b s).2.2 = false) : s.2 = false ∧ b.drop s.1 = putTextB (txtS b s).1 ++ b.drop (txtS b s).2.1 ∧ (txtS b s).1.length ≤ 4096 := by
  unfold txtS at h ⊢
  split at h
  · cases h
  · rename_i hc
    rw [if_neg hc]
    simp only [not_or, Decidable.not_not] at hc
    exact ⟨by simpa using hc.1, takeTextK_inv hc.2⟩
theorem depsS_inv {b : List UInt8} : ∀ (k : Nat) {s : Nat × Bool}, (depsS b k s).2.2 = false → s.2 = false ∧ b.drop s.1 = numsB (depsS b k s).1 ++ b.drop (depsS b k s).2.1 ∧ ∀ n ∈ (depsS b k s).1, n < 18446744073709551616
  | 0, s, h => ⟨h, by simp [depsS, numsB], by simp [depsS]⟩
  | k + 1, s, h => by
    unfold depsS at h ⊢
    obtain ⟨a1, a2, a3⟩ := depsS_inv k h
    obtain ⟨b1, b2, b3, -⟩ := numS_inv a1
    refine ⟨b1, ?_, fun n hn => ?_⟩
    · rw [numsB_cons, List.append_assoc, ← a2]
      exact b2
    · rcases List.mem_cons.1 hn with rfl | hn
      · exact b3
      · exact a3 n hn
theorem zig_unzig {x : Nat} : zig (unzig x) = x := by
  unfold unzig zig
  split <;> split <;> omega
theorem numS_inv' {b : List UInt8} {m n : Nat} {s s' : Nat × Bool} (e : numS b m s = (n, s')) (h : s'.2 = false) : s.2 = false ∧ b.drop s.1 = putB n ++ b.drop s'.1 ∧ n < 18446744073709551616 ∧ n ≤ m := by
  have := numS_inv (b := b) (m := m) (s := s) (by rw [e]; exact h)
  rw [e] at this
  exact this
theorem txtS_inv' {b x : List UInt8} {s s' : Nat × Bool} (e : txtS b s = (x, s')) (h : s'.2 = false) : s.2 = false ∧ b.drop s.1 = putTextB x ++ b.drop s'.1 ∧ x.length ≤ 4096 := by
  have := txtS_inv (b := b) (s := s) (by rw [e]; exact h)
  rw [e] at this
  exact this
theorem depsS_inv' {b : List UInt8} {k : Nat} {L : List Nat} {s s' : Nat × Bool} (e : depsS b k s = (L, s')) (h : s'.2 = false) : s.2 = false ∧ b.drop s.1 = numsB L ++ b.drop s'.1 ∧ (∀ n ∈ L, n < 18446744073709551616) ∧ L.length = k := by
  have := depsS_inv (b := b) k (s := s) (by rw [e]; exact h)
  have hl := depsS_len b k s
  rw [e] at this hl
  exact ⟨this.1, this.2.1, this.2.2, hl⟩
theorem parse_inv {b : List UInt8} {a e : Nat} {j : Jb} (h : parseJ b a = some (j, e)) : b.drop a = putJ j ++ b.drop e ∧ JbOk j ∧ mayJ j = 0 ∧ j.ex.length ≤ 4096 := by
  obtain ⟨n1, s1, d1⟩ : ∃ n s, numS b 18446744073709551615 (a, false) = (n, s) := ⟨_, _, rfl⟩
  obtain ⟨x2, s2, d2⟩ : ∃ n s, txtS b s1 = (n, s) := ⟨_, _, rfl⟩
  obtain ⟨x3, s3, d3⟩ : ∃ n s, txtS b s2 = (n, s) := ⟨_, _, rfl⟩
  obtain ⟨n4, s4, d4⟩ : ∃ n s, numS b 1099511627776 s3 = (n, s) := ⟨_, _, rfl⟩
  obtain ⟨n5, s5, d5⟩ : ∃ n s, numS b 1099511627776 s4 = (n, s) := ⟨_, _, rfl⟩
  obtain ⟨n6, s6, d6⟩ : ∃ n s, numS b 1099511627776 s5 = (n, s) := ⟨_, _, rfl⟩
  obtain ⟨n7, s7, d7⟩ : ∃ n s, numS b 1099511627776 s6 = (n, s) := ⟨_, _, rfl⟩
  obtain ⟨n8, s8, d8⟩ : ∃ n s, numS b 1099511627776 s7 = (n, s) := ⟨_, _, rfl⟩
  obtain ⟨n9, s9, d9⟩ : ∃ n s, numS b 8 s8 = (n, s) := ⟨_, _, rfl⟩
  obtain ⟨L, s10, d10⟩ : ∃ n s, depsS b n9 s9 = (n, s) := ⟨_, _, rfl⟩
  obtain ⟨n11, s11, d11⟩ : ∃ n s, numS b 1 s10 = (n, s) := ⟨_, _, rfl⟩
  obtain ⟨n12, s12, d12⟩ : ∃ n s, numS b 18446744073709551615 s11 = (n, s) := ⟨_, _, rfl⟩
  simp only [parseJ, stA, stB, stC, stD, stE, stF, d1, d2, d3, d4, d5, d6, d7, d8, d9, d10, d11, d12] at h
  split at h
  · cases h
  · rename_i hc
    simp only [not_or, Decidable.not_not, Bool.not_eq_true] at hc
    obtain ⟨h12, h13, hm⟩ := hc
    injection h with h
    injection h with hj he
    rw [hj] at hm
    have M := JbMay.of hm
    obtain ⟨h11, f12, l12, -⟩ := numS_inv' d12 h12
    obtain ⟨h10, f11, -, m11⟩ := numS_inv' d11 h11
    obtain ⟨h9, f10, l10, k10⟩ := depsS_inv' d10 h10
    obtain ⟨h8, f9, -, -⟩ := numS_inv' d9 h9
    obtain ⟨h7, f8, -, -⟩ := numS_inv' d8 h8
    obtain ⟨h6, f7, -, -⟩ := numS_inv' d7 h7
    obtain ⟨h5, f6, -, -⟩ := numS_inv' d6 h6
    obtain ⟨h4, f5, -, -⟩ := numS_inv' d5 h5
    obtain ⟨h3, f4, -, -⟩ := numS_inv' d4 h4
    obtain ⟨h2, f3, l3⟩ := txtS_inv' d3 h3
    obtain ⟨h1, f2, l2⟩ := txtS_inv' d2 h2
    obtain ⟨-, f1, l1, -⟩ := numS_inv' d1 h1
    have f13 := (takeK_inv h13).1
    subst hj
    subst he
    refine ⟨?_, ⟨l1, l12, l10⟩, hm, l3⟩
    have hp : (if decide (n11 = 1) = true then 1 else 0) = n11 := by
      rcases Nat.lt_or_ge n11 1 with h | h
      · have : n11 = 0 := by omega
        subst this; rfl
      · have : n11 = 1 := by omega
        subst this; rfl
    simp only [putJ, hp, numsB_cons, List.append_assoc, zig_unzig, k10, Int.toNat_natCast]
    simp only [numsB, List.flatMap_nil, List.nil_append] at f10 ⊢
    rw [← f13, ← f12, ← f11, ← f10, ← f9, ← f8, ← f7, ← f6, ← f5, ← f4, ← f3, ← f2, ← f1]
end Go.Proofs.YtghlkjkdejebnaaGreatDoor
namespace Go.Proofs.YtghlkjkdejebnaaGreatDoor
open Rg Go
variable {H : Heap}
end Go.Proofs.YtghlkjkdejebnaaGreatDoor
namespace Go.Proofs.YtghlkjkdejebnaaGreatDoor
open Rg Go
variable {H : Heap}
def sameJ (a b : Jb) : Bool := decide (a.id = b.id) && (a.name == b.name) && (a.ex == b.ex) && decide (a.pol = b.pol) && decide (a.gr = b.gr) && decide (a.lim = b.lim) && decide (a.ret = b.ret) && decide (a.tim = b.tim) && decide (a.deps = b.deps) && (a.pau == b.pau) && decide (a.ver = b.ver) && decide (a.seen = b.seen)
theorem sameJ_iff {a b : Jb} : sameJ a b = true ↔ a = b := by
  simp only [sameJ, Bool.and_eq_true, decide_eq_true_eq, beq_iff_eq]
  constructor
  · rintro ⟨⟨⟨⟨⟨⟨⟨⟨⟨⟨⟨h1, h2⟩, h3⟩, h4⟩, h5⟩, h6⟩, h7⟩, h8⟩, h9⟩, h10⟩, h11⟩, h12⟩
    cases a; cases b; simp_all
  · rintro rfl
    simp
theorem ne_beq {a b : Bool} : (a == b) = decide (a = b) := by cases a <;> cases b <;> rfl
end Go.Proofs.YtghlkjkdejebnaaGreatDoor
namespace Go.Proofs.YtghlkjkdejebnaaGreatDoor
open Rg Go
structure Cm where
  kind : Int
  cl : Nat
  sq : Nat
  id : Nat
  at_ : Int
  tk : Nat
  wk : Nat
  job : Jb
abbrev cm0 : Cm := ⟨0, 0, 0, 0, 0, 0, 0, jb0⟩
def bearsC (k : Int) : Bool := decide (k = 2) || decide (k = 3)
def mayM (c : Cm) : Int := if c.kind < 1 ∨ 10 < c.kind ∨ c.at_ < 0 ∨ 13569465600 ≤ c.at_ then 2 else if bearsC c.kind = true then mayJ c.job else 0
def numC (b : List UInt8) (most : Nat) (s : Nat × Bool) : Nat × Nat × Bool :=
  ((takeK b s.1).1, max s.1 (takeK b s.1).2.1, s.2 || decide ((takeK b s.1).2.2 ≠ 0) || decide (most < (takeK b s.1).1))
def any64 : Nat := 18446744073709551615
theorem numC_step (b : List UInt8) {m : Nat} (hm : m ≤ any64) (s : Nat × Bool) : numC b m s = numS b any64 s ∧ (numS b any64 s).1 ≤ m ∨ (numC b m s).2.2 = true ∧ ((numS b any64 s).2.2 = true ∨ m < (numS b any64 s).1) := by
  have h64 := takeK_lt b s.1
  unfold any64 at hm ⊢
  by_cases h : s.2 = true ∨ (takeK b s.1).2.2 ≠ 0
  · right
    unfold numC numS
    rw [if_pos (by rcases h with h | h <;> simp [h])]
    exact ⟨by rcases h with h | h <;> simp [h], .inl rfl⟩
  · have hn : ¬ (s.2 = true ∨ (takeK b s.1).2.2 ≠ 0 ∨ 18446744073709551615 < (takeK b s.1).1) := by
      rintro (h3 | h3 | h3)
      · exact h (.inl h3)
      · exact h (.inr h3)
      · omega
    simp only [not_or, Bool.not_eq_true, Decidable.not_not] at h
    have hle := (takeK_inv h.2).2
    unfold numC numS
    rw [if_neg hn]
    by_cases h2 : m < (takeK b s.1).1
    · exact .inr ⟨by simp [h2], .inr h2⟩
    · refine .inl ⟨?_, by simp only; omega⟩
      rw [h.1, h.2, decide_eq_false h2, Nat.max_eq_right (by omega)]
      rfl
theorem numC_stay (b : List UInt8) (m : Nat) (s : Nat × Bool) (h : s.2 = true) : (numC b m s).2.2 = true := by
  unfold numC
  simp [h]
theorem numC_any (b : List UInt8) (s : Nat × Bool) : numC b any64 s = numS b any64 s ∨ (numC b any64 s).2.2 = true ∧ (numS b any64 s).2.2 = true := by
  rcases numC_step b (Nat.le_refl any64) s with ⟨h, -⟩ | ⟨h1, h2 | h2⟩
  · exact .inl h
  · exact .inr ⟨h1, h2⟩
  · exfalso
    have h64 := takeK_lt b s.1
    unfold any64 at h2
    unfold numS at h2
    split at h2
    · simp at h2
    · simp only at h2
      omega
end Go.Proofs.YtghlkjkdejebnaaGreatDoor
namespace Go.Proofs.YtghlkjkdejebnaaGreatDoor
open Rg Go
structure MM (c : Cm) : Prop where
  kind : 1 ≤ c.kind ∧ c.kind ≤ 10
  at_ : 0 ≤ c.at_ ∧ c.at_ < 13569465600
  job : bearsC c.kind = true → mayJ c.job = 0
theorem MM.of {c : Cm} (h : mayM c = 0) : MM c := by
  unfold mayM at h
  split at h
  · cases h
  · rename_i hc
    simp only [not_or, Int.not_lt, Int.not_le] at hc
    refine ⟨⟨by omega, by omega⟩, ⟨by omega, by omega⟩, fun hb => ?_⟩
    rw [if_pos hb] at h
    exact h
theorem parseJ_le {b : List UInt8} {a e : Nat} {j : Jb} (ha : a ≤ b.length) (h : parseJ b a = some (j, e)) : e = a + (putJ j).length ∧ e ≤ b.length := by
  obtain ⟨h1, h2, h3, h4⟩ := parse_inv h
  have h5 := parse_put h1 h2 h3 h4
  rw [h] at h5
  injection h5 with h5
  injection h5 with _ h5
  refine ⟨h5, ?_⟩
  have := congrArg List.length h1
  simp only [List.length_drop, List.length_append] at this
  by_cases hz : e ≤ b.length
  · exact hz
  · omega
end Go.Proofs.YtghlkjkdejebnaaGreatDoor
