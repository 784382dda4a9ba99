/- A state's parts as bytes: what the document's Parse gives. Regions that draw their order, walked by hand: a value that hangs on no cell may be put first at any time; guards. -/
import Derived.Test.YtghlkjkdejebnaaGreatDoorP22
import Derived.Test.YtghlkjkdejebnaaGreatDoorP09
set_option linter.unusedSimpArgs false
set_option linter.unusedVariables false
set_option linter.unnecessarySimpa false
namespace Go.Proofs.YtghlkjkdejebnaaGreatDoor
open Rg Go
variable {H : Heap}
theorem intS_num (b : List UInt8) (s : Nat × Bool) : intS b s = (unzig (numS b 18446744073709551615 s).1, (numS b 18446744073709551615 s).2) := by
  have := takeK_lt b s.1
  unfold intS numS
  by_cases h : s.2 = true ∨ (takeK b s.1).2.2 ≠ 0
  · rw [if_pos h, if_pos (by rcases h with h | h; exact .inl h; exact .inr (.inl h))]
    simp [unzig]
  · rw [if_neg h, if_neg (by rintro (h1 | h1 | h1); exact h (.inl h1); exact h (.inr h1); omega)]
theorem c_tIntN {b : List UInt8} {t : Rg.Tok} {p : Nat} {K : Heap} {s : Nat × Bool} (h : K p = some (tkO b t s)) (hs : s.1 ≤ b.length) (hb : b.length ≤ 1000000) :
    AOk Tryz.prog 71 [.sc (.pointer (some ⟨p, 0, none⟩))] K (.sc (.int .i64 (unzig (numS b 18446744073709551615 s).1))) (K.set p (tkO b t (numS b 18446744073709551615 s).2)) := by
  have := c_tInt h hs hb
  rw [intS_num] at this
  exact this
structure UInv (sz : Nat) (e : TypeId) (B : Heap) (b : List UInt8) (p pc n : Nat) (F : Rg.Tok → List AV) (s : Nat × Bool) (t0 : Rg.Tok) (K : Heap) : Prop where
  tk : K p = some (tkO b .no s)
  row : RowZ sz e 44 B pc n F K
  cell : K pc = some (.cells (F t0) 44)
  p0 : B p = none
  np : p ≠ pc
  le : s.1 ≤ b.length
section
variable {sz : Nat} {e : TypeId} {B : Heap} {b : List UInt8} {p pc n : Nat} {F F' : Rg.Tok → List AV} {s : Nat × Bool} {t0 : Rg.Tok} {K : Heap}
theorem UInv.upd (h : UInv sz e B b p pc n F s t0 K) {s' : Nat × Bool} (hs : s'.1 ≤ b.length) : UInv sz e B b p pc n F s' t0 (K.set p (tkO b .no s')) :=
  ⟨by simp [Heap.set], h.row.setO h.p0 h.np h.tk (fun _ _ _ _ h => by cases h), by simp [Heap.set, Ne.symm h.np, h.cell], h.p0, h.np, hs⟩
theorem UInv.new (h : UInv sz e B b p pc n F s t0 K) {q : Nat} {o : AObj} (hq : K q = none) : UInv sz e B b p pc n F s t0 (K.set q o) := by
  have h1 : p ≠ q := by rintro rfl; rw [h.tk] at hq; cases hq
  have h2 : pc ≠ q := by rintro rfl; rw [h.cell] at hq; cases hq
  exact ⟨by simp [Heap.set, h1, h.tk], h.row.new hq, by simp [Heap.set, h2, h.cell], h.p0, h.np, h.le⟩
theorem UInv.loc (h : UInv sz e B b p pc n F s t0 K) {q : Nat} {cs ds : List AV} {T : TypeId} (hq : K q = some (.cells cs T)) (h0 : B q = none) (n1 : q ≠ p) (n2 : q ≠ pc) : UInv sz e B b p pc n F s t0 (K.set q (.cells ds T)) :=
  ⟨by simp [Heap.set, Ne.symm n1, h.tk], h.row.setO h0 n2 hq (fun _ _ _ _ h => by cases h), by simp [Heap.set, Ne.symm n2, h.cell], h.p0, h.np, h.le⟩
theorem UInv.put (h : UInv sz e B b p pc n F s t0 K) (hF : ∀ t, F t = F t0 → t = t0) : UInv sz e B b p pc n F' s t0 (K.set pc (.cells (F' t0) 44)) :=
  ⟨by simp [Heap.set, h.np, h.tk], h.row.cell h.cell (fun t' ht => by rw [hF t' ht.symm]), by simp [Heap.set], h.p0, h.np, h.le⟩
theorem UInv.next (h : UInv sz e B b p pc n F s t0 K) {sz' : Nat} {e' : TypeId} (hF : F' .nil = F t0) : UInv sz' e' B b p pc 0 F' s .nil K :=
  ⟨h.tk, ⟨h.row.le, h.row.no, .nil, by rw [hF]; exact h.cell, .inl ⟨rfl, rfl⟩⟩, by rw [hF]; exact h.cell, h.p0, h.np, h.le⟩
theorem UInv.app {xs : List AV} (h : UInv sz e B b p pc xs.length F s t0 K) (hF : ∀ t, F t = F t0 → t = t0) (y : AV) : ∃ G0 G, Grows G0 xs sz e t0 G ∧ HLe G K ∧ ∀ t' K' Hn, Grows G0 (xs ++ [y]) sz e t' K' → HLe K' Hn →
    Hn pc = some (.cells (F t0) 44) ∧ ∀ F' : Rg.Tok → List AV, UInv sz e B b p pc (xs ++ [y]).length F' s t' (Hn.set pc (.cells (F' t') 44)) := by
  obtain ⟨t1, G0, G, c1, hg, hl, hl0, c2, hp⟩ := h.row.grows
  rw [h.cell] at c1
  simp only [Option.some.injEq, AObj.cells.injEq] at c1
  obtain rfl := hF t1 c1.1.symm
  refine ⟨G0, G, hg, hl, fun t' K' Hn hg' hl' => ?_⟩
  have keep : ∀ p cs T', K p = some (.cells cs T') → Hn p = some (.cells cs T') := fun p cs T' hh => hl' p _ (hg'.le p _ (hp p cs T' hh))
  exact ⟨keep _ _ _ h.cell, fun F' => ⟨by simp [Heap.set, h.np, keep _ _ _ h.tk], RowZ.stored hl0 h.row.no c2 hg' hl', by simp [Heap.set], h.p0, h.np, h.le⟩⟩
end
abbrev pt0 : Pt := ⟨[], 0, [], [], 0, 0⟩
def imgAV : Option Pt → AV
  | some p => .tup [ptAV p, .sc (.int .i64 0)]
  | none => .tup [ptAV pt0, .sc (.int .i64 4)]
theorem pt1_inj {p : Pt} {tf tt t t' : Rg.Tok} (h : ptC p t' tf tt = ptC p t tf tt) : t' = t := by
  simp only [ptC, List.cons.injEq, AV.sl.injEq] at h
  exact h.1.2
theorem pt2_inj {p : Pt} {tj tt t t' : Rg.Tok} (h : ptC p tj t' tt = ptC p tj t tt) : t' = t := by
  simp only [ptC, List.cons.injEq, AV.sl.injEq] at h
  exact h.2.2.1.2
theorem pt3_inj {p : Pt} {tj tf t t' : Rg.Tok} (h : ptC p tj tf t' = ptC p tj tf t) : t' = t := by
  simp only [ptC, List.cons.injEq, AV.sl.injEq] at h
  exact h.2.2.2.1.2
theorem jobsH_halt (f : Nat × Bool → PStep) (k : Nat) (s : Nat × Bool) (h : s.2 = true) : jobsH f k s = ([], s) := by
  cases k with
  | zero => rfl
  | succ k => unfold jobsH; rw [if_pos h]
theorem jobsH_step (f : Nat × Bool → PStep) (k : Nat) (s : Nat × Bool) (h : s.2 = false) : jobsH f (k + 1) s = ((f s).j :: (jobsH f k (f s).s).1, (jobsH f k (f s).s).2) := by
  conv => lhs; unfold jobsH
  rw [if_neg (by simp [h])]
theorem rowsT_halt (b : List UInt8) (w k : Nat) (s : Nat × Bool) (h : s.2 = true) : rowsT b w k s = ([], s) := by
  cases k with
  | zero => rfl
  | succ k => unfold rowsT; rw [if_pos h]
theorem rowsT_step (b : List UInt8) (w k : Nat) (s : Nat × Bool) (h : s.2 = false) : rowsT b w (k + 1) s = ((depsS b w s).1 :: (rowsT b w k (depsS b w s).2).1, (rowsT b w k (depsS b w s).2).2) := by
  conv => lhs; unfold rowsT
  rw [if_neg (by simp [h])]
theorem takeJ_le (b : List UInt8) (s : Nat × Bool) (h : s.1 ≤ b.length) : (takeJ b s).s.1 ≤ b.length := by
  have c := fun s h => capS_le b s h
  have n := fun m s h => (numS_le b m s h).1
  have t := fun s h => txtS_le b s h
  have d := fun k s h => depsT_le b k s h
  unfold takeJ rtB rtC rtD rtE
  exact intS_le b _ (n _ _ (n _ _ (d _ _ (c _ (c _ (c _ (c _ (c _ (c _ (t _ (t _ (n _ _ h))))))))))))
theorem putIR_len {p : Pt} (ho : PtOk p) : (putIR p).length ≤ 500000 := by
  unfold putIR
  split
  · rename_i h
    obtain ⟨h1, h2, h3, h4⟩ := mayI_parts h
    have a1 := numsB_len [zig p.now, p.tokens, p.last, p.jobs.length]
    have a2 := flat_len (l := p.jobs) (f := putJ) (n := 4500) fun x hx => putJ_len (ho.jobs x hx).1 (h4 x hx) (ho.jobs x hx).2
    have a3 := numsB_len [p.fires.length]
    have a4 := flat_len (l := p.fires) (f := fun f => numsB (frN f)) (n := 70) fun x _ => by have := numsB_len (frN x); simp only [frN, List.length_cons, List.length_nil] at this; exact this
    have a5 := numsB_len [p.talks.length]
    have a6 := flat_len (l := p.talks) (f := fun f => numsB (tlN f)) (n := 40) fun x _ => by have := numsB_len (tlN x); simp only [tlN, List.length_cons, List.length_nil] at this; exact this
    simp only [putI, List.length_append, List.length_cons, List.length_nil] at *
    omega
  · simp
set_option maxHeartbeats 4000000 in
theorem c_ref21Parse (b : List UInt8) (hb : b.length ≤ 1000000) : AOk Tryz.prog 23 [.sl (u8s b) .no] H (imgAV (parseI b)) H := by
  rw [← parseI_eq]
  obtain ⟨res, hres⟩ : ∃ res, parseIT b = res := ⟨_, rfl⟩
  rw [hres]
  refine ACalls.into Tryz.func23 rfl Tryz.ntmps23 Tryz.results23 (by simp) ?_
  simp -implicitDefEqProofs
  refine AAlloc.intro fun pr hpr => ?_
  simp -implicitDefEqProofs
  refine AAlloc.intro fun p hp => ?_
  simp -implicitDefEqProofs
  refine AAlloc.intro fun pc hpc => ?_
  have e1 : pr ≠ p := by rintro rfl; simp [Heap.set] at hp
  have e2 : p ≠ pc := by rintro rfl; simp [Heap.set] at hpc
  have e3 : pr ≠ pc := by rintro rfl; simp [Heap.set, e1] at hpc
  have hp0 : H p = none := by simpa [Heap.set, Ne.symm e1] using hp
  have hc0 : H pc = none := by simpa [Heap.set, Ne.symm e2, Ne.symm e3] using hpc
  simp -implicitDefEqProofs [e1, e2, e3]
  obtain ⟨B, hB⟩ : ∃ B, H.set pr (.cells (ptC pt0 .nil .nil .nil) 44) = B := ⟨_, rfl⟩
  have bp : B p = none := by rw [← hB]; simp [Heap.set, Ne.symm e1, hp0]
  have bc : B pc = none := by rw [← hB]; simp [Heap.set, Ne.symm e3, hc0]
  have br : B pr = some (.cells (ptC pt0 .nil .nil .nil) 44) := by rw [← hB]; simp [Heap.set]
  have bl : HLe H B := by rw [← hB]; exact HLe.set_fresh hpr
  generalize hK : Heap.set _ pc _ = K0
  have P0 : UInv 12 25 B b p pc 0 (fun t => ptC pt0 t .nil .nil) (0, false) .nil K0 := by
    rw [← hK]
    refine ⟨by simp [Heap.set, e2, tkO, tkC, tkAt_ok], ⟨?_, bc, .nil, by simp [Heap.set], .inl ⟨rfl, rfl⟩⟩, by simp [Heap.set], bp, e2, Nat.zero_le _⟩
    rw [← hB]
    exact HLe.set_new (HLe.set_new (HLe.refl _) (by simp [Heap.set, Ne.symm e1, hp0])) (by simp [Heap.set, Ne.symm e3, hc0])
  clear hK hp hpc hB
  refine ACall.eq (c_tIntN P0.tk P0.le hb) ?_
  obtain ⟨r1, hr1⟩ : ∃ r, numS b 18446744073709551615 (0, false) = r := ⟨_, rfl⟩
  have P1 := P0.upd (s' := r1.2) (by rw [← hr1]; exact (numS_le b _ _ P0.le).1)
  rw [hr1]
  generalize Heap.set K0 p _ = K1 at *
  simp -implicitDefEqProofs [P1.cell]
  generalize hU : K1.set pc _ = K2
  have P2 : UInv 12 25 B b p pc 0 (fun t => ptC ⟨[], 0, [], [], unzig r1.1, 0⟩ t .nil .nil) r1.2 .nil K2 := by rw [← hU]; exact P1.put (fun t h => pt1_inj h)
  clear hU
  refine ACall.eq (c_tNum P2.tk P2.le hb) ?_
  obtain ⟨r2, hr2⟩ : ∃ r, numS b 18446744073709551615 r1.2 = r := ⟨_, rfl⟩
  have P3 := P2.upd (s' := r2.2) (by rw [← hr2]; exact (numS_le b _ _ P2.le).1)
  rw [hr2]
  generalize Heap.set K2 p _ = K3 at *
  simp -implicitDefEqProofs [P3.cell]
  generalize hU : K3.set pc _ = K4
  have P4 : UInv 12 25 B b p pc 0 (fun t => ptC ⟨[], 0, [], [], unzig r1.1, r2.1⟩ t .nil .nil) r2.2 .nil K4 := by rw [← hU]; exact P3.put (fun t h => pt1_inj h)
  clear hU
  refine ACall.eq (c_tNum P4.tk P4.le hb) ?_
  obtain ⟨r3, hr3⟩ : ∃ r, numS b 18446744073709551615 r2.2 = r := ⟨_, rfl⟩
  have P5 := P4.upd (s' := r3.2) (by rw [← hr3]; exact (numS_le b _ _ P4.le).1)
  rw [hr3]
  generalize Heap.set K4 p _ = K5 at *
  simp -implicitDefEqProofs [P5.cell]
  generalize hU : K5.set pc _ = K6
  have P6 : UInv 12 25 B b p pc 0 (fun t => ptC ⟨[], r3.1, [], [], unzig r1.1, r2.1⟩ t .nil .nil) r3.2 .nil K6 := by rw [← hU]; exact P5.put (fun t h => pt1_inj h)
  clear hU
  refine ACall.eq (c_tNum P6.tk P6.le hb) ?_
  obtain ⟨n1, hn1⟩ : ∃ r, numS b 18446744073709551615 r3.2 = r := ⟨_, rfl⟩
  have P7 := P6.upd (s' := n1.2) (by rw [← hn1]; exact (numS_le b _ _ P6.le).1)
  rw [hn1]
  generalize Heap.set K6 p _ = K7 at *
  simp -implicitDefEqProofs
  have hd3 : depsS b 3 (0, false) = ([r1.1, r2.1, r3.1], r3.2) := by simp only [depsS, hr1, hr2, hr3]
  obtain ⟨js, hjs⟩ : ∃ r, jobsH (takeJ b) (upTo 64 n1.1) n1.2 = r := ⟨_, rfl⟩
  obtain ⟨sn1, hsn1⟩ : ∃ s, n1.2 = s := ⟨_, rfl⟩
  rw [hsn1] at hjs P7
  refine AGo.joinLoop (fun ρ K => ∃ t0, ρ 0 = .sl (u8s b) .no ∧ ρ 2 = .sc (.pointer (some ⟨pr, 0, none⟩)) ∧ ρ 4 = .sc (.pointer (some ⟨p, 0, none⟩)) ∧ ρ 5 = .sc (.pointer (some ⟨pc, 0, none⟩)) ∧ UInv 12 25 B b p pc (jbsAV js.1).length (fun t => ptC ⟨js.1, r3.1, [], [], unzig r1.1, r2.1⟩ t .nil .nil) js.2 t0 K) (fun k' hk => ?_) ?_
  · refine AGo.rounds (fun m ρ K => ∃ i s' L t0, m = upTo 64 n1.1 - i ∧ i ≤ upTo 64 n1.1 ∧ js = (L ++ (jobsH (takeJ b) (upTo 64 n1.1 - i) s').1, (jobsH (takeJ b) (upTo 64 n1.1 - i) s').2) ∧ L.length = i ∧ ρ 7 = .sc (.int .u64 (i : Int)) ∧ ρ 6 = .sc (.int .u64 (n1.1 : Int)) ∧ ρ 0 = .sl (u8s b) .no ∧ ρ 2 = .sc (.pointer (some ⟨pr, 0, none⟩)) ∧ ρ 4 = .sc (.pointer (some ⟨p, 0, none⟩)) ∧ ρ 5 = .sc (.pointer (some ⟨pc, 0, none⟩)) ∧
      UInv 12 25 B b p pc (jbsAV L).length (fun t => ptC ⟨L, r3.1, [], [], unzig r1.1, r2.1⟩ t .nil .nil) s' t0 K) ?_ (m := upTo 64 n1.1) (HLe.refl _)
      ⟨0, sn1, [], .nil, rfl, Nat.zero_le _, by simp [hjs], rfl, by simp, by simp, by simp, by simp, by simp, by simp, P7⟩
    clear P0 P1 P2 P3 P4 P5 P6 P7
    rintro m ρ K ih ⟨i, s', L, t0, rfl, hi, hd, hLl, q7, q6, q0, q2, q4, q5, P⟩
    by_cases hlt : i < n1.1
    · have hlt' : (i : Int) < (n1.1 : Int) := by omega
      by_cases hmost : n1.1 ≤ 64
      · have hmost' : (n1.1 : Int) ≤ 64 := by omega
        by_cases hbad : s'.2 = true
        · have hneg : tkAt s' < 0 := by rw [tkAt_neg]; exact hbad
          have hneg' : ¬ 0 ≤ tkAt s' := by omega
          rw [jobsH_halt _ _ s' hbad, List.append_nil] at hd
          simp -implicitDefEqProofs [q7, q6, q0, q2, q4, q5, hlt, hlt', hmost, hmost', P.tk, hneg, hneg']
          subst hd
          exact hk _ _ ⟨t0, by simp [q0], by simp [q2], by simp [q4], by simp [q5], P⟩
        · have hbad' : s'.2 = false := by simpa using hbad
          have hneg : ¬ tkAt s' < 0 := by rw [tkAt_neg]; exact hbad
          have hneg' : 0 ≤ tkAt s' := by omega
          have hu : upTo 64 n1.1 = n1.1 := upTo_le hmost
          have hw1 : IntKind.u64.wrap ((i : Int) + 1) = (i : Int) + 1 := wrap_u64 (by omega) (by omega)
          obtain ⟨⟨rj, rs⟩, hr⟩ : ∃ r, takeJ b s' = r := ⟨_, rfl⟩
          have hle' := takeJ_le b s' P.le
          have hnext : js = (L ++ [rj] ++ (jobsH (takeJ b) (upTo 64 n1.1 - (i + 1)) rs).1, (jobsH (takeJ b) (upTo 64 n1.1 - (i + 1)) rs).2) := by
            rw [hd, show upTo 64 n1.1 - i = (upTo 64 n1.1 - (i + 1)) + 1 by omega, jobsH_step _ _ s' hbad', hr]
            simp
          rw [hr] at hle'
          have Pu := P.upd (s' := rs) hle'
          have hcall := c_tTake P.tk P.le hb
          rw [hr] at hcall
          simp only at hcall
          obtain ⟨G0, G, hg, hl, hst⟩ := Pu.app (fun t h => pt1_inj h) (jbAV rj .no)
          generalize hKu : Heap.set K p _ = Ku at hcall Pu hl hst
          have hzx := szs_jbs L
          have hzy : szs 12 [jbAV rj .no] = true := by simp [szs, AV.cells]
          have hll : (jbsAV L).length = i := by rw [List.length_map]; exact hLl
          have ej : jbsAV L ++ [jbAV rj .no] = jbsAV (L ++ [rj]) := by simp
          have ejl : (jbsAV L ++ [jbAV rj .no]).length = (jbsAV (L ++ [rj])).length := by rw [ej]
          have cK : K pc = some (.cells (ptC ⟨L, r3.1, [], [], unzig r1.1, r2.1⟩ t0 .nil .nil) 44) := P.cell
          have cKu : Ku pc = some (.cells (ptC ⟨L, r3.1, [], [], unzig r1.1, r2.1⟩ t0 .nil .nil) 44) := Pu.cell
          simp -implicitDefEqProofs [q7, q6, q0, q2, q4, q5, hlt, hlt', hmost, hmost', P.tk, hneg, hneg']
          refine go_draw3 [0, 2] (fun _ => none) f_mixed (by decide +kernel) HC.nothing ?_
          simp -implicitDefEqProofs
          refine aq3_op ?_
          simp -implicitDefEqProofs [q5]
          refine aq3_op ?_
          simp -implicitDefEqProofs [q4]
          refine AWK.two 1 3 (by decide +kernel) ?_ ?_
          · refine AWE.op rfl ?_
            simp -implicitDefEqProofs [cK]
            refine AWK.one 3 (by decide +kernel) ?_
            refine AWE.op rfl ?_
            simp -implicitDefEqProofs [q4]
            refine ⟨_, hcall, ?_⟩
            rintro v Kx ⟨rfl, rfl⟩
            refine ⟨fun _ _ h => (by cases h), ?_⟩
            refine AWK.one 4 (by decide +kernel) ?_
            refine AWE.op rfl ?_
            simp -implicitDefEqProofs
            refine AWK.one 5 (by decide +kernel) ?_
            refine AWE.op rfl ?_
            simp -implicitDefEqProofs
            refine AWS.grows0 el_40 hg hl hzx hzy (by rw [hll]; simp only [List.length_cons, List.length_nil]; omega) (by rw [hll]; simp only [List.length_cons, List.length_nil, maxLen]; omega) fun t' K' Hn hg' hl' _ => ?_
            obtain ⟨hpj2, Pn⟩ := hst t' K' Hn hg' hl'
            have Pn2 := Pn (fun t => ptC ⟨L ++ [rj], r3.1, [], [], unzig r1.1, r2.1⟩ t .nil .nil)
            rw [ejl] at Pn2
            rw [ej]
            refine AWK.one 6 (by decide +kernel) ?_
            refine AWE.op rfl ?_
            simp -implicitDefEqProofs [q5]
            refine AWK.one 7 (by decide +kernel) ?_
            refine AWE.op rfl ?_
            simp -implicitDefEqProofs [hpj2]
            refine AWS.store hpj2 (fun _ _ h => by cases h) ?_
            refine AWK.fin (by decide +kernel) ?_
            simp -implicitDefEqProofs [q7, hw1]
            refine AGo.again ih (m' := upTo 64 n1.1 - (i + 1)) (by omega) (HLe.refl _) ⟨i + 1, rs, L ++ [rj], t', rfl, by omega, hnext, by simp [hLl], by simp, by simp [q6], by simp [q0], by simp [q2], by simp [q4], by simp [q5], ?_⟩
            simpa only [ptC, jbsAV, List.map_append, List.map_cons, List.map_nil] using Pn2
          · refine AWE.op rfl ?_
            simp -implicitDefEqProofs [q4]
            refine ⟨_, hcall, ?_⟩
            rintro v Kx ⟨rfl, rfl⟩
            refine ⟨fun _ _ h => (by cases h), ?_⟩
            refine AWK.two 1 4 (by decide +kernel) ?_ ?_
            · refine AWE.op rfl ?_
              simp -implicitDefEqProofs [cKu]
              refine AWK.one 4 (by decide +kernel) ?_
              refine AWE.op rfl ?_
              simp -implicitDefEqProofs
              refine AWK.one 5 (by decide +kernel) ?_
              refine AWE.op rfl ?_
              simp -implicitDefEqProofs
              refine AWS.grows0 el_40 hg hl hzx hzy (by rw [hll]; simp only [List.length_cons, List.length_nil]; omega) (by rw [hll]; simp only [List.length_cons, List.length_nil, maxLen]; omega) fun t' K' Hn hg' hl' _ => ?_
              obtain ⟨hpj2, Pn⟩ := hst t' K' Hn hg' hl'
              have Pn2 := Pn (fun t => ptC ⟨L ++ [rj], r3.1, [], [], unzig r1.1, r2.1⟩ t .nil .nil)
              rw [ejl] at Pn2
              rw [ej]
              refine AWK.one 6 (by decide +kernel) ?_
              refine AWE.op rfl ?_
              simp -implicitDefEqProofs [q5]
              refine AWK.one 7 (by decide +kernel) ?_
              refine AWE.op rfl ?_
              simp -implicitDefEqProofs [hpj2]
              refine AWS.store hpj2 (fun _ _ h => by cases h) ?_
              refine AWK.fin (by decide +kernel) ?_
              simp -implicitDefEqProofs [q7, hw1]
              refine AGo.again ih (m' := upTo 64 n1.1 - (i + 1)) (by omega) (HLe.refl _) ⟨i + 1, rs, L ++ [rj], t', rfl, by omega, hnext, by simp [hLl], by simp, by simp [q6], by simp [q0], by simp [q2], by simp [q4], by simp [q5], ?_⟩
              simpa only [ptC, jbsAV, List.map_append, List.map_cons, List.map_nil] using Pn2
            · refine AWE.op rfl ?_
              simp -implicitDefEqProofs
              refine AWK.one 1 (by decide +kernel) ?_
              refine AWE.op rfl ?_
              simp -implicitDefEqProofs [cKu]
              refine AWK.one 5 (by decide +kernel) ?_
              refine AWE.op rfl ?_
              simp -implicitDefEqProofs
              refine AWS.grows0 el_40 hg hl hzx hzy (by rw [hll]; simp only [List.length_cons, List.length_nil]; omega) (by rw [hll]; simp only [List.length_cons, List.length_nil, maxLen]; omega) fun t' K' Hn hg' hl' _ => ?_
              obtain ⟨hpj2, Pn⟩ := hst t' K' Hn hg' hl'
              have Pn2 := Pn (fun t => ptC ⟨L ++ [rj], r3.1, [], [], unzig r1.1, r2.1⟩ t .nil .nil)
              rw [ejl] at Pn2
              rw [ej]
              refine AWK.one 6 (by decide +kernel) ?_
              refine AWE.op rfl ?_
              simp -implicitDefEqProofs [q5]
              refine AWK.one 7 (by decide +kernel) ?_
              refine AWE.op rfl ?_
              simp -implicitDefEqProofs [hpj2]
              refine AWS.store hpj2 (fun _ _ h => by cases h) ?_
              refine AWK.fin (by decide +kernel) ?_
              simp -implicitDefEqProofs [q7, hw1]
              refine AGo.again ih (m' := upTo 64 n1.1 - (i + 1)) (by omega) (HLe.refl _) ⟨i + 1, rs, L ++ [rj], t', rfl, by omega, hnext, by simp [hLl], by simp, by simp [q6], by simp [q0], by simp [q2], by simp [q4], by simp [q5], ?_⟩
              simpa only [ptC, jbsAV, List.map_append, List.map_cons, List.map_nil] using Pn2
      · have hmost' : ¬ (n1.1 : Int) ≤ 64 := by omega
        have hu : upTo 64 n1.1 = 0 := if_neg hmost
        rw [hu, Nat.zero_sub] at hd
        simp only [jobsH, List.append_nil] at hd
        simp -implicitDefEqProofs [q7, q6, q0, q2, q4, q5, hlt, hlt', hmost, hmost']
        subst hd
        exact hk _ _ ⟨t0, by simp [q0], by simp [q2], by simp [q4], by simp [q5], P⟩
    · have hn : ¬ (i : Int) < (n1.1 : Int) := by omega
      have hu : upTo 64 n1.1 - i = 0 := by unfold upTo; split <;> omega
      rw [hu] at hd
      simp only [jobsH, List.append_nil] at hd
      simp -implicitDefEqProofs [q7, q6, q0, q2, q4, q5, hn]
      subst hd
      exact hk _ _ ⟨t0, by simp [q0], by simp [q2], by simp [q4], by simp [q5], P⟩
  clear P0 P1 P2 P3 P4 P5 P6 P7
  rintro ρ K0 ⟨tj, q0, q2, q4, q5, PJ⟩
  have P0 : UInv 7 100 B b p pc 0 (fun t => ptC ⟨js.1, r3.1, [], [], unzig r1.1, r2.1⟩ tj t .nil) js.2 .nil K0 := PJ.next rfl
  simp -implicitDefEqProofs [q0, q2, q4, q5]
  refine ACall.eq (c_tNum P0.tk P0.le hb) ?_
  obtain ⟨n2, hn2⟩ : ∃ r, numS b 18446744073709551615 js.2 = r := ⟨_, rfl⟩
  have P1 := P0.upd (s' := n2.2) (by rw [← hn2]; exact (numS_le b _ _ P0.le).1)
  rw [hn2]
  generalize Heap.set K0 p _ = K1 at *
  simp -implicitDefEqProofs [q0, q2, q4, q5]
  obtain ⟨sn2, hsn2⟩ : ∃ s, n2.2 = s := ⟨_, rfl⟩
  rw [hsn2] at P1
  obtain ⟨fs, hfs⟩ : ∃ r, rowsT b 7 (upTo 2000 n2.1) sn2 = r := ⟨_, rfl⟩
  refine AGo.joinLoop (fun ρ K => ∃ M t0, fs.1.map frOf = M ∧ ρ 0 = .sl (u8s b) .no ∧ ρ 2 = .sc (.pointer (some ⟨pr, 0, none⟩)) ∧ ρ 4 = .sc (.pointer (some ⟨p, 0, none⟩)) ∧ ρ 5 = .sc (.pointer (some ⟨pc, 0, none⟩)) ∧ UInv 7 100 B b p pc (frsAV (M)).length (fun t => ptC ⟨js.1, r3.1, M, [], unzig r1.1, r2.1⟩ tj t .nil) fs.2 t0 K) (fun k' hk => ?_) ?_
  · refine AGo.rounds (fun m ρ K => ∃ i s' L M t0, m = upTo 2000 n2.1 - i ∧ i ≤ upTo 2000 n2.1 ∧ L.map frOf = M ∧ fs = (L ++ (rowsT b 7 (upTo 2000 n2.1 - i) s').1, (rowsT b 7 (upTo 2000 n2.1 - i) s').2) ∧ L.length = i ∧ ρ 8 = .sc (.int .u64 (i : Int)) ∧ ρ 6 = .sc (.int .u64 (n2.1 : Int)) ∧ ρ 0 = .sl (u8s b) .no ∧ ρ 2 = .sc (.pointer (some ⟨pr, 0, none⟩)) ∧ ρ 4 = .sc (.pointer (some ⟨p, 0, none⟩)) ∧ ρ 5 = .sc (.pointer (some ⟨pc, 0, none⟩)) ∧
      UInv 7 100 B b p pc (frsAV (M)).length (fun t => ptC ⟨js.1, r3.1, M, [], unzig r1.1, r2.1⟩ tj t .nil) s' t0 K) ?_ (m := upTo 2000 n2.1) (HLe.refl _)
      ⟨0, sn2, [], [], .nil, rfl, Nat.zero_le _, rfl, by simp [hfs], rfl, by simp, by simp, by simp [q0], by simp [q2], by simp [q4], by simp [q5], P1⟩
    clear P0 P1 q0 q2 q4 q5
    rintro m ρ K ih ⟨i, s', L, M, t0, rfl, hi, hM, hd, hLl, qc, q6, q0, q2, q4, q5, P0⟩
    by_cases hlt : i < n2.1
    · have hlt' : (i : Int) < (n2.1 : Int) := by omega
      by_cases hmost : n2.1 ≤ 2000
      · have hmost' : (n2.1 : Int) ≤ 2000 := by omega
        by_cases hbad : s'.2 = true
        · have hneg : tkAt s' < 0 := by rw [tkAt_neg]; exact hbad
          have hneg' : ¬ 0 ≤ tkAt s' := by omega
          rw [rowsT_halt _ _ _ s' hbad, List.append_nil] at hd
          simp -implicitDefEqProofs [qc, q6, q0, q2, q4, q5, hlt, hlt', hmost, hmost', P0.tk, hneg, hneg']
          subst hd
          exact hk _ _ ⟨M, t0, hM, by simp [q0], by simp [q2], by simp [q4], by simp [q5], P0⟩
        · have hbad' : s'.2 = false := by simpa using hbad
          have hneg : ¬ tkAt s' < 0 := by rw [tkAt_neg]; exact hbad
          have hneg' : 0 ≤ tkAt s' := by omega
          have hu : upTo 2000 n2.1 = n2.1 := upTo_le hmost
          have hw1 : IntKind.u64.wrap ((i : Int) + 1) = (i : Int) + 1 := wrap_u64 (by omega) (by omega)
          simp -implicitDefEqProofs [qc, q6, q0, q2, q4, q5, hlt, hlt', hmost, hmost', P0.tk, hneg, hneg']
          refine AAlloc.intro fun p9 h9 => ?_
          have n9 : p9 ≠ p := by rintro rfl; rw [P0.tk] at h9; cases h9
          have n9c : p9 ≠ pc := by rintro rfl; rw [P0.cell] at h9; cases h9
          have b9 : B p9 = none := P0.row.le.none h9
          have PA := P0.new h9 (o := .cells (frC ⟨0, 0, 0, 0, 0, 0, 0⟩) 100)
          have x1 : (K.set p9 (.cells (frC ⟨0, 0, 0, 0, 0, 0, 0⟩) 100)) p9 = some (.cells (frC ⟨0, 0, 0, 0, 0, 0, 0⟩) 100) := by simp [Heap.set]
          simp -implicitDefEqProofs [q4]
          generalize Heap.set K p9 _ = K1 at PA x1 ⊢
          have P1 := PA
          clear PA
          refine ACall.eq (c_tNum P1.tk P1.le hb) ?_
          obtain ⟨f0, hf0⟩ : ∃ r, numS b 18446744073709551615 s' = r := ⟨_, rfl⟩
          have P2 := P1.upd (s' := f0.2) (by rw [← hf0]; exact (numS_le b _ _ P1.le).1)
          have x2 : (K1.set p (tkO b .no f0.2)) p9 = some (.cells (frC (⟨0, 0, 0, 0, 0, 0, 0⟩)) 100) := by simp [Heap.set, n9, x1]
          rw [hf0]
          generalize Heap.set K1 p _ = K2 at P2 x2 ⊢
          simp -implicitDefEqProofs [q4, x2]
          have P3 := P2.loc x2 b9 n9 n9c (ds := frC (⟨f0.1, 0, 0, 0, 0, 0, 0⟩))
          have x3 : (K2.set p9 (.cells (frC (⟨f0.1, 0, 0, 0, 0, 0, 0⟩)) 100)) p9 = some (.cells (frC (⟨f0.1, 0, 0, 0, 0, 0, 0⟩)) 100) := by simp [Heap.set]
          generalize Heap.set K2 p9 _ = K3 at P3 x3 ⊢
          refine ACall.eq (c_tIntN P3.tk P3.le hb) ?_
          obtain ⟨f1, hf1⟩ : ∃ r, numS b 18446744073709551615 f0.2 = r := ⟨_, rfl⟩
          have P4 := P3.upd (s' := f1.2) (by rw [← hf1]; exact (numS_le b _ _ P3.le).1)
          have x4 : (K3.set p (tkO b .no f1.2)) p9 = some (.cells (frC (⟨f0.1, 0, 0, 0, 0, 0, 0⟩)) 100) := by simp [Heap.set, n9, x3]
          rw [hf1]
          generalize Heap.set K3 p _ = K4 at P4 x4 ⊢
          simp -implicitDefEqProofs [q4, x4]
          have P5 := P4.loc x4 b9 n9 n9c (ds := frC (⟨f0.1, (unzig f1.1), 0, 0, 0, 0, 0⟩))
          have x5 : (K4.set p9 (.cells (frC (⟨f0.1, (unzig f1.1), 0, 0, 0, 0, 0⟩)) 100)) p9 = some (.cells (frC (⟨f0.1, (unzig f1.1), 0, 0, 0, 0, 0⟩)) 100) := by simp [Heap.set]
          generalize Heap.set K4 p9 _ = K5 at P5 x5 ⊢
          refine ACall.eq (c_tIntN P5.tk P5.le hb) ?_
          obtain ⟨f2, hf2⟩ : ∃ r, numS b 18446744073709551615 f1.2 = r := ⟨_, rfl⟩
          have P6 := P5.upd (s' := f2.2) (by rw [← hf2]; exact (numS_le b _ _ P5.le).1)
          have x6 : (K5.set p (tkO b .no f2.2)) p9 = some (.cells (frC (⟨f0.1, (unzig f1.1), 0, 0, 0, 0, 0⟩)) 100) := by simp [Heap.set, n9, x5]
          rw [hf2]
          generalize Heap.set K5 p _ = K6 at P6 x6 ⊢
          simp -implicitDefEqProofs [q4, x6]
          have P7 := P6.loc x6 b9 n9 n9c (ds := frC (⟨f0.1, (unzig f1.1), (unzig f2.1), 0, 0, 0, 0⟩))
          have x7 : (K6.set p9 (.cells (frC (⟨f0.1, (unzig f1.1), (unzig f2.1), 0, 0, 0, 0⟩)) 100)) p9 = some (.cells (frC (⟨f0.1, (unzig f1.1), (unzig f2.1), 0, 0, 0, 0⟩)) 100) := by simp [Heap.set]
          generalize Heap.set K6 p9 _ = K7 at P7 x7 ⊢
          refine ACall.eq (c_tIntN P7.tk P7.le hb) ?_
          obtain ⟨f3, hf3⟩ : ∃ r, numS b 18446744073709551615 f2.2 = r := ⟨_, rfl⟩
          have P8 := P7.upd (s' := f3.2) (by rw [← hf3]; exact (numS_le b _ _ P7.le).1)
          have x8 : (K7.set p (tkO b .no f3.2)) p9 = some (.cells (frC (⟨f0.1, (unzig f1.1), (unzig f2.1), 0, 0, 0, 0⟩)) 100) := by simp [Heap.set, n9, x7]
          rw [hf3]
          generalize Heap.set K7 p _ = K8 at P8 x8 ⊢
          simp -implicitDefEqProofs [q4, x8]
          have P9 := P8.loc x8 b9 n9 n9c (ds := frC (⟨f0.1, (unzig f1.1), (unzig f2.1), (unzig f3.1), 0, 0, 0⟩))
          have x9 : (K8.set p9 (.cells (frC (⟨f0.1, (unzig f1.1), (unzig f2.1), (unzig f3.1), 0, 0, 0⟩)) 100)) p9 = some (.cells (frC (⟨f0.1, (unzig f1.1), (unzig f2.1), (unzig f3.1), 0, 0, 0⟩)) 100) := by simp [Heap.set]
          generalize Heap.set K8 p9 _ = K9 at P9 x9 ⊢
          refine ACall.eq (c_tNum P9.tk P9.le hb) ?_
          obtain ⟨f4, hf4⟩ : ∃ r, numS b 18446744073709551615 f3.2 = r := ⟨_, rfl⟩
          have P10 := P9.upd (s' := f4.2) (by rw [← hf4]; exact (numS_le b _ _ P9.le).1)
          have x10 : (K9.set p (tkO b .no f4.2)) p9 = some (.cells (frC (⟨f0.1, (unzig f1.1), (unzig f2.1), (unzig f3.1), 0, 0, 0⟩)) 100) := by simp [Heap.set, n9, x9]
          rw [hf4]
          generalize Heap.set K9 p _ = K10 at P10 x10 ⊢
          simp -implicitDefEqProofs [q4, x10]
          have P11 := P10.loc x10 b9 n9 n9c (ds := frC (⟨f0.1, (unzig f1.1), (unzig f2.1), (unzig f3.1), f4.1, 0, 0⟩))
          have x11 : (K10.set p9 (.cells (frC (⟨f0.1, (unzig f1.1), (unzig f2.1), (unzig f3.1), f4.1, 0, 0⟩)) 100)) p9 = some (.cells (frC (⟨f0.1, (unzig f1.1), (unzig f2.1), (unzig f3.1), f4.1, 0, 0⟩)) 100) := by simp [Heap.set]
          generalize Heap.set K10 p9 _ = K11 at P11 x11 ⊢
          refine ACall.eq (c_tNum P11.tk P11.le hb) ?_
          obtain ⟨f5, hf5⟩ : ∃ r, numS b 18446744073709551615 f4.2 = r := ⟨_, rfl⟩
          have P12 := P11.upd (s' := f5.2) (by rw [← hf5]; exact (numS_le b _ _ P11.le).1)
          have x12 : (K11.set p (tkO b .no f5.2)) p9 = some (.cells (frC (⟨f0.1, (unzig f1.1), (unzig f2.1), (unzig f3.1), f4.1, 0, 0⟩)) 100) := by simp [Heap.set, n9, x11]
          rw [hf5]
          generalize Heap.set K11 p _ = K12 at P12 x12 ⊢
          simp -implicitDefEqProofs [q4, x12]
          have P13 := P12.loc x12 b9 n9 n9c (ds := frC (⟨f0.1, (unzig f1.1), (unzig f2.1), (unzig f3.1), f4.1, f5.1, 0⟩))
          have x13 : (K12.set p9 (.cells (frC (⟨f0.1, (unzig f1.1), (unzig f2.1), (unzig f3.1), f4.1, f5.1, 0⟩)) 100)) p9 = some (.cells (frC (⟨f0.1, (unzig f1.1), (unzig f2.1), (unzig f3.1), f4.1, f5.1, 0⟩)) 100) := by simp [Heap.set]
          generalize Heap.set K12 p9 _ = K13 at P13 x13 ⊢
          refine ACall.eq (c_tIntN P13.tk P13.le hb) ?_
          obtain ⟨f6, hf6⟩ : ∃ r, numS b 18446744073709551615 f5.2 = r := ⟨_, rfl⟩
          have P14 := P13.upd (s' := f6.2) (by rw [← hf6]; exact (numS_le b _ _ P13.le).1)
          have x14 : (K13.set p (tkO b .no f6.2)) p9 = some (.cells (frC (⟨f0.1, (unzig f1.1), (unzig f2.1), (unzig f3.1), f4.1, f5.1, 0⟩)) 100) := by simp [Heap.set, n9, x13]
          rw [hf6]
          generalize Heap.set K13 p _ = K14 at P14 x14 ⊢
          simp -implicitDefEqProofs [q4, x14]
          have P15 := P14.loc x14 b9 n9 n9c (ds := frC (⟨f0.1, (unzig f1.1), (unzig f2.1), (unzig f3.1), f4.1, f5.1, (unzig f6.1)⟩))
          have x15 : (K14.set p9 (.cells (frC (⟨f0.1, (unzig f1.1), (unzig f2.1), (unzig f3.1), f4.1, f5.1, (unzig f6.1)⟩)) 100)) p9 = some (.cells (frC (⟨f0.1, (unzig f1.1), (unzig f2.1), (unzig f3.1), f4.1, f5.1, (unzig f6.1)⟩)) 100) := by simp [Heap.set]
          generalize Heap.set K14 p9 _ = K15 at P15 x15 ⊢
          have hdw : depsS b 7 s' = ([f0.1, f1.1, f2.1, f3.1, f4.1, f5.1, f6.1], f6.2) := by simp only [depsS, hf0, hf1, hf2, hf3, hf4, hf5, hf6]
          have hnext : fs = (L ++ [[f0.1, f1.1, f2.1, f3.1, f4.1, f5.1, f6.1]] ++ (rowsT b 7 (upTo 2000 n2.1 - (i + 1)) f6.2).1, (rowsT b 7 (upTo 2000 n2.1 - (i + 1)) f6.2).2) := by
            rw [hd, show upTo 2000 n2.1 - i = (upTo 2000 n2.1 - (i + 1)) + 1 by omega, rowsT_step _ _ _ s' hbad', hdw]
            simp
          obtain ⟨G0, G, hg, hl, hst⟩ := P15.app (fun t h => pt2_inj h) (.agg (frC (⟨f0.1, (unzig f1.1), (unzig f2.1), (unzig f3.1), f4.1, f5.1, (unzig f6.1)⟩)))
          have hzx := szs_frs M
          have hzy : szs 7 [.agg (frC (⟨f0.1, (unzig f1.1), (unzig f2.1), (unzig f3.1), f4.1, f5.1, (unzig f6.1)⟩))] = true := by simp [szs, AV.cells]
          have hll : (frsAV (M)).length = i := by rw [List.length_map, ← hM, List.length_map]; exact hLl
          obtain ⟨M2, hM2⟩ : ∃ M2, M ++ [frOf [f0.1, f1.1, f2.1, f3.1, f4.1, f5.1, f6.1]] = M2 := ⟨_, rfl⟩
          have ej : frsAV (M) ++ [(.agg (frC (⟨f0.1, (unzig f1.1), (unzig f2.1), (unzig f3.1), f4.1, f5.1, (unzig f6.1)⟩)) : AV)] = frsAV (M2) := by rw [← hM2]; simp only [frsAV, tlsAV, List.map_append]; rfl
          have ejl : (frsAV (M) ++ [(.agg (frC (⟨f0.1, (unzig f1.1), (unzig f2.1), (unzig f3.1), f4.1, f5.1, (unzig f6.1)⟩)) : AV)]).length = (frsAV (M2)).length := by rw [ej]
          have cK := P15.cell
          simp -implicitDefEqProofs [q4, q5, cK, x15]
          refine AApp.grows0 el_41 hg hl hzx hzy (by rw [hll]; simp only [List.length_cons, List.length_nil]; omega) (by rw [hll]; simp only [List.length_cons, List.length_nil, maxLen]; omega) fun t' K' Hn hg' hl' => ?_
          obtain ⟨hpj2, Pn⟩ := hst t' K' Hn hg' hl'
          have Pn2 := Pn (fun t => ptC ⟨js.1, r3.1, M2, [], unzig r1.1, r2.1⟩ tj t .nil)
          rw [ejl] at Pn2
          rw [ej]
          simp -implicitDefEqProofs [q5, hpj2, qc, hw1]
          refine AGo.again ih (m' := upTo 2000 n2.1 - (i + 1)) (by omega) (HLe.refl _) ⟨i + 1, f6.2, L ++ [[f0.1, f1.1, f2.1, f3.1, f4.1, f5.1, f6.1]], M2, t', rfl, by omega, by rw [List.map_append, hM, ← hM2]; rfl, hnext, by simp [hLl], by simp, by simp [q6], by simp [q0], by simp [q2], by simp [q4], by simp [q5], ?_⟩
          exact Pn2
      · have hmost' : ¬ (n2.1 : Int) ≤ 2000 := by omega
        have hu : upTo 2000 n2.1 = 0 := if_neg hmost
        rw [hu, Nat.zero_sub] at hd
        simp only [rowsT, List.append_nil] at hd
        simp -implicitDefEqProofs [qc, q6, q0, q2, q4, q5, hlt, hlt', hmost, hmost']
        subst hd
        exact hk _ _ ⟨M, t0, hM, by simp [q0], by simp [q2], by simp [q4], by simp [q5], P0⟩
    · have hn : ¬ (i : Int) < (n2.1 : Int) := by omega
      have hu : upTo 2000 n2.1 - i = 0 := by unfold upTo; split <;> omega
      rw [hu] at hd
      simp only [rowsT, List.append_nil] at hd
      simp -implicitDefEqProofs [qc, q6, q0, q2, q4, q5, hn]
      subst hd
      exact hk _ _ ⟨M, t0, hM, by simp [q0], by simp [q2], by simp [q4], by simp [q5], P0⟩
  clear P0 P1 q0 q2 q4 q5
  rintro ρ K0 ⟨mf, tfs, hmf, q0, q2, q4, q5, PJ⟩
  have P0 : UInv 4 104 B b p pc 0 (fun t => ptC ⟨js.1, r3.1, mf, [], unzig r1.1, r2.1⟩ tj tfs t) fs.2 .nil K0 := PJ.next rfl
  simp -implicitDefEqProofs [q0, q2, q4, q5]
  refine ACall.eq (c_tNum P0.tk P0.le hb) ?_
  obtain ⟨n3, hn3⟩ : ∃ r, numS b 18446744073709551615 fs.2 = r := ⟨_, rfl⟩
  have P1 := P0.upd (s' := n3.2) (by rw [← hn3]; exact (numS_le b _ _ P0.le).1)
  rw [hn3]
  generalize Heap.set K0 p _ = K1 at *
  simp -implicitDefEqProofs [q0, q2, q4, q5]
  obtain ⟨sn3, hsn3⟩ : ∃ s, n3.2 = s := ⟨_, rfl⟩
  rw [hsn3] at P1
  obtain ⟨ts, hts⟩ : ∃ r, rowsT b 4 (upTo 64 n3.1) sn3 = r := ⟨_, rfl⟩
  refine AGo.joinLoop (fun ρ K => ∃ M t0, ts.1.map tlOf = M ∧ ρ 0 = .sl (u8s b) .no ∧ ρ 2 = .sc (.pointer (some ⟨pr, 0, none⟩)) ∧ ρ 4 = .sc (.pointer (some ⟨p, 0, none⟩)) ∧ ρ 5 = .sc (.pointer (some ⟨pc, 0, none⟩)) ∧ UInv 4 104 B b p pc (tlsAV (M)).length (fun t => ptC ⟨js.1, r3.1, mf, M, unzig r1.1, r2.1⟩ tj tfs t) ts.2 t0 K) (fun k' hk => ?_) ?_
  · refine AGo.rounds (fun m ρ K => ∃ i s' L M t0, m = upTo 64 n3.1 - i ∧ i ≤ upTo 64 n3.1 ∧ L.map tlOf = M ∧ ts = (L ++ (rowsT b 4 (upTo 64 n3.1 - i) s').1, (rowsT b 4 (upTo 64 n3.1 - i) s').2) ∧ L.length = i ∧ ρ 10 = .sc (.int .u64 (i : Int)) ∧ ρ 6 = .sc (.int .u64 (n3.1 : Int)) ∧ ρ 0 = .sl (u8s b) .no ∧ ρ 2 = .sc (.pointer (some ⟨pr, 0, none⟩)) ∧ ρ 4 = .sc (.pointer (some ⟨p, 0, none⟩)) ∧ ρ 5 = .sc (.pointer (some ⟨pc, 0, none⟩)) ∧
      UInv 4 104 B b p pc (tlsAV (M)).length (fun t => ptC ⟨js.1, r3.1, mf, M, unzig r1.1, r2.1⟩ tj tfs t) s' t0 K) ?_ (m := upTo 64 n3.1) (HLe.refl _)
      ⟨0, sn3, [], [], .nil, rfl, Nat.zero_le _, rfl, by simp [hts], rfl, by simp, by simp, by simp [q0], by simp [q2], by simp [q4], by simp [q5], P1⟩
    clear P0 P1 q0 q2 q4 q5
    rintro m ρ K ih ⟨i, s', L, M, t0, rfl, hi, hM, hd, hLl, qc, q6, q0, q2, q4, q5, P0⟩
    by_cases hlt : i < n3.1
    · have hlt' : (i : Int) < (n3.1 : Int) := by omega
      by_cases hmost : n3.1 ≤ 64
      · have hmost' : (n3.1 : Int) ≤ 64 := by omega
        by_cases hbad : s'.2 = true
        · have hneg : tkAt s' < 0 := by rw [tkAt_neg]; exact hbad
          have hneg' : ¬ 0 ≤ tkAt s' := by omega
          rw [rowsT_halt _ _ _ s' hbad, List.append_nil] at hd
          simp -implicitDefEqProofs [qc, q6, q0, q2, q4, q5, hlt, hlt', hmost, hmost', P0.tk, hneg, hneg']
          subst hd
          exact hk _ _ ⟨M, t0, hM, by simp [q0], by simp [q2], by simp [q4], by simp [q5], P0⟩
        · have hbad' : s'.2 = false := by simpa using hbad
          have hneg : ¬ tkAt s' < 0 := by rw [tkAt_neg]; exact hbad
          have hneg' : 0 ≤ tkAt s' := by omega
          have hu : upTo 64 n3.1 = n3.1 := upTo_le hmost
          have hw1 : IntKind.u64.wrap ((i : Int) + 1) = (i : Int) + 1 := wrap_u64 (by omega) (by omega)
          simp -implicitDefEqProofs [qc, q6, q0, q2, q4, q5, hlt, hlt', hmost, hmost', P0.tk, hneg, hneg']
          refine AAlloc.intro fun p9 h9 => ?_
          have n9 : p9 ≠ p := by rintro rfl; rw [P0.tk] at h9; cases h9
          have n9c : p9 ≠ pc := by rintro rfl; rw [P0.cell] at h9; cases h9
          have b9 : B p9 = none := P0.row.le.none h9
          have PA := P0.new h9 (o := .cells (tlC ⟨0, 0, 0, 0⟩) 104)
          have x1 : (K.set p9 (.cells (tlC ⟨0, 0, 0, 0⟩) 104)) p9 = some (.cells (tlC ⟨0, 0, 0, 0⟩) 104) := by simp [Heap.set]
          simp -implicitDefEqProofs [q4]
          generalize Heap.set K p9 _ = K1 at PA x1 ⊢
          have P1 := PA
          clear PA
          refine ACall.eq (c_tNum P1.tk P1.le hb) ?_
          obtain ⟨f0, hf0⟩ : ∃ r, numS b 18446744073709551615 s' = r := ⟨_, rfl⟩
          have P2 := P1.upd (s' := f0.2) (by rw [← hf0]; exact (numS_le b _ _ P1.le).1)
          have x2 : (K1.set p (tkO b .no f0.2)) p9 = some (.cells (tlC (⟨0, 0, 0, 0⟩)) 104) := by simp [Heap.set, n9, x1]
          rw [hf0]
          generalize Heap.set K1 p _ = K2 at P2 x2 ⊢
          simp -implicitDefEqProofs [q4, x2]
          have P3 := P2.loc x2 b9 n9 n9c (ds := tlC (⟨f0.1, 0, 0, 0⟩))
          have x3 : (K2.set p9 (.cells (tlC (⟨f0.1, 0, 0, 0⟩)) 104)) p9 = some (.cells (tlC (⟨f0.1, 0, 0, 0⟩)) 104) := by simp [Heap.set]
          generalize Heap.set K2 p9 _ = K3 at P3 x3 ⊢
          refine ACall.eq (c_tNum P3.tk P3.le hb) ?_
          obtain ⟨f1, hf1⟩ : ∃ r, numS b 18446744073709551615 f0.2 = r := ⟨_, rfl⟩
          have P4 := P3.upd (s' := f1.2) (by rw [← hf1]; exact (numS_le b _ _ P3.le).1)
          have x4 : (K3.set p (tkO b .no f1.2)) p9 = some (.cells (tlC (⟨f0.1, 0, 0, 0⟩)) 104) := by simp [Heap.set, n9, x3]
          rw [hf1]
          generalize Heap.set K3 p _ = K4 at P4 x4 ⊢
          simp -implicitDefEqProofs [q4, x4]
          have P5 := P4.loc x4 b9 n9 n9c (ds := tlC (⟨f0.1, f1.1, 0, 0⟩))
          have x5 : (K4.set p9 (.cells (tlC (⟨f0.1, f1.1, 0, 0⟩)) 104)) p9 = some (.cells (tlC (⟨f0.1, f1.1, 0, 0⟩)) 104) := by simp [Heap.set]
          generalize Heap.set K4 p9 _ = K5 at P5 x5 ⊢
          refine ACall.eq (c_tIntN P5.tk P5.le hb) ?_
          obtain ⟨f2, hf2⟩ : ∃ r, numS b 18446744073709551615 f1.2 = r := ⟨_, rfl⟩
          have P6 := P5.upd (s' := f2.2) (by rw [← hf2]; exact (numS_le b _ _ P5.le).1)
          have x6 : (K5.set p (tkO b .no f2.2)) p9 = some (.cells (tlC (⟨f0.1, f1.1, 0, 0⟩)) 104) := by simp [Heap.set, n9, x5]
          rw [hf2]
          generalize Heap.set K5 p _ = K6 at P6 x6 ⊢
          simp -implicitDefEqProofs [q4, x6]
          have P7 := P6.loc x6 b9 n9 n9c (ds := tlC (⟨f0.1, f1.1, (unzig f2.1), 0⟩))
          have x7 : (K6.set p9 (.cells (tlC (⟨f0.1, f1.1, (unzig f2.1), 0⟩)) 104)) p9 = some (.cells (tlC (⟨f0.1, f1.1, (unzig f2.1), 0⟩)) 104) := by simp [Heap.set]
          generalize Heap.set K6 p9 _ = K7 at P7 x7 ⊢
          refine ACall.eq (c_tNum P7.tk P7.le hb) ?_
          obtain ⟨f3, hf3⟩ : ∃ r, numS b 18446744073709551615 f2.2 = r := ⟨_, rfl⟩
          have P8 := P7.upd (s' := f3.2) (by rw [← hf3]; exact (numS_le b _ _ P7.le).1)
          have x8 : (K7.set p (tkO b .no f3.2)) p9 = some (.cells (tlC (⟨f0.1, f1.1, (unzig f2.1), 0⟩)) 104) := by simp [Heap.set, n9, x7]
          rw [hf3]
          generalize Heap.set K7 p _ = K8 at P8 x8 ⊢
          simp -implicitDefEqProofs [q4, x8]
          have P9 := P8.loc x8 b9 n9 n9c (ds := tlC (⟨f0.1, f1.1, (unzig f2.1), f3.1⟩))
          have x9 : (K8.set p9 (.cells (tlC (⟨f0.1, f1.1, (unzig f2.1), f3.1⟩)) 104)) p9 = some (.cells (tlC (⟨f0.1, f1.1, (unzig f2.1), f3.1⟩)) 104) := by simp [Heap.set]
          generalize Heap.set K8 p9 _ = K9 at P9 x9 ⊢
          have hdw : depsS b 4 s' = ([f0.1, f1.1, f2.1, f3.1], f3.2) := by simp only [depsS, hf0, hf1, hf2, hf3]
          have hnext : ts = (L ++ [[f0.1, f1.1, f2.1, f3.1]] ++ (rowsT b 4 (upTo 64 n3.1 - (i + 1)) f3.2).1, (rowsT b 4 (upTo 64 n3.1 - (i + 1)) f3.2).2) := by
            rw [hd, show upTo 64 n3.1 - i = (upTo 64 n3.1 - (i + 1)) + 1 by omega, rowsT_step _ _ _ s' hbad', hdw]
            simp
          obtain ⟨G0, G, hg, hl, hst⟩ := P9.app (fun t h => pt3_inj h) (.agg (tlC (⟨f0.1, f1.1, (unzig f2.1), f3.1⟩)))
          have hzx := szs_tls M
          have hzy : szs 4 [.agg (tlC (⟨f0.1, f1.1, (unzig f2.1), f3.1⟩))] = true := by simp [szs, AV.cells]
          have hll : (tlsAV (M)).length = i := by rw [List.length_map, ← hM, List.length_map]; exact hLl
          obtain ⟨M2, hM2⟩ : ∃ M2, M ++ [tlOf [f0.1, f1.1, f2.1, f3.1]] = M2 := ⟨_, rfl⟩
          have ej : tlsAV (M) ++ [(.agg (tlC (⟨f0.1, f1.1, (unzig f2.1), f3.1⟩)) : AV)] = tlsAV (M2) := by rw [← hM2]; simp only [frsAV, tlsAV, List.map_append]; rfl
          have ejl : (tlsAV (M) ++ [(.agg (tlC (⟨f0.1, f1.1, (unzig f2.1), f3.1⟩)) : AV)]).length = (tlsAV (M2)).length := by rw [ej]
          have cK := P9.cell
          simp -implicitDefEqProofs [q4, q5, cK, x9]
          refine AApp.grows0 el_42 hg hl hzx hzy (by rw [hll]; simp only [List.length_cons, List.length_nil]; omega) (by rw [hll]; simp only [List.length_cons, List.length_nil, maxLen]; omega) fun t' K' Hn hg' hl' => ?_
          obtain ⟨hpj2, Pn⟩ := hst t' K' Hn hg' hl'
          have Pn2 := Pn (fun t => ptC ⟨js.1, r3.1, mf, M2, unzig r1.1, r2.1⟩ tj tfs t)
          rw [ejl] at Pn2
          rw [ej]
          simp -implicitDefEqProofs [q5, hpj2, qc, hw1]
          refine AGo.again ih (m' := upTo 64 n3.1 - (i + 1)) (by omega) (HLe.refl _) ⟨i + 1, f3.2, L ++ [[f0.1, f1.1, f2.1, f3.1]], M2, t', rfl, by omega, by rw [List.map_append, hM, ← hM2]; rfl, hnext, by simp [hLl], by simp, by simp [q6], by simp [q0], by simp [q2], by simp [q4], by simp [q5], ?_⟩
          exact Pn2
      · have hmost' : ¬ (n3.1 : Int) ≤ 64 := by omega
        have hu : upTo 64 n3.1 = 0 := if_neg hmost
        rw [hu, Nat.zero_sub] at hd
        simp only [rowsT, List.append_nil] at hd
        simp -implicitDefEqProofs [qc, q6, q0, q2, q4, q5, hlt, hlt', hmost, hmost']
        subst hd
        exact hk _ _ ⟨M, t0, hM, by simp [q0], by simp [q2], by simp [q4], by simp [q5], P0⟩
    · have hn : ¬ (i : Int) < (n3.1 : Int) := by omega
      have hu : upTo 64 n3.1 - i = 0 := by unfold upTo; split <;> omega
      rw [hu] at hd
      simp only [rowsT, List.append_nil] at hd
      simp -implicitDefEqProofs [qc, q6, q0, q2, q4, q5, hn]
      subst hd
      exact hk _ _ ⟨M, t0, hM, by simp [q0], by simp [q2], by simp [q4], by simp [q5], P0⟩
  clear P0 P1 q0 q2 q4 q5
  rintro ρ K0 ⟨mt, tts, hmt, q0, q2, q4, q5, PJ⟩
  have hI : takeI b = (⟨js.1, r3.1, mf, mt, unzig r1.1, r2.1⟩, ts.2) := by
    rw [← hmf, ← hmt]
    simp only [takeI, hd3, any64, hn1, hsn1, hjs, hn2, hsn2, hfs, hn3, hsn3, hts]
    rfl
  have hok := takeI_ok b
  rw [hI] at hok
  simp only at hok
  unfold parseIT at hres
  rw [hI] at hres
  simp only at hres
  have cK := PJ.cell
  have rK : K0 pr = some (.cells (ptC pt0 .nil .nil .nil) 44) := PJ.row.le _ _ br
  have lK : HLe H K0 := bl.trans PJ.row.le
  by_cases hbad : ts.2.2 = true
  · have hneg : tkAt ts.2 < 0 := by rw [tkAt_neg]; exact hbad
    rw [if_pos hbad] at hres
    subst hres
    simp -implicitDefEqProofs [q2, q4, PJ.tk, hneg, rK, imgAV]
    exact (HLe.set_new lK hpr).wk
  · have hneg : ¬ tkAt ts.2 < 0 := by rw [tkAt_neg]; exact hbad
    rw [if_neg hbad] at hres
    have hput := c_ref21Put (H := K0) ⟨js.1, r3.1, mf, mt, unzig r1.1, r2.1⟩ tj tfs tts hok
    have hlen : (putIR ⟨js.1, r3.1, mf, mt, unzig r1.1, r2.1⟩).length ≤ 500000 := putIR_len hok
    unfold putIR at hput hlen
    obtain ⟨em, hem⟩ : ∃ e, mayI ⟨js.1, r3.1, mf, mt, unzig r1.1, r2.1⟩ = e := ⟨_, rfl⟩
    obtain ⟨pq, hpq⟩ : ∃ q, putI ⟨js.1, r3.1, mf, mt, unzig r1.1, r2.1⟩ = q := ⟨_, rfl⟩
    rw [hem, hpq] at hput hres hlen
    by_cases hm : em = 0
    · rw [if_pos hm] at hput hlen
      have m1 : pq.length ≤ maxLen := by simp only [maxLen]; omega
      have m2 : b.length ≤ maxLen := by simp only [maxLen]; omega
      simp -implicitDefEqProofs [q5, q4, PJ.tk, hneg, cK]
      refine ACall.eq hput ?_
      by_cases he : pq = b
      · have hbe : (pq == b) = true := by simp [he]
        rw [if_neg (by rintro (h | h); exact h hm; exact h he)] at hres
        subst hres
        simp -implicitDefEqProofs [hm, aconv, abytes_u8s pq, abytes_u8s b, m1, m2, hbe, q0, q2, q5, cK, rK, imgAV]
        exact (HLe.set_new lK hpr).wk
      · have hbe : (pq == b) = false := by simpa using he
        rw [if_pos (.inr he)] at hres
        subst hres
        simp -implicitDefEqProofs [hm, aconv, abytes_u8s pq, abytes_u8s b, m1, m2, hbe, q0, q2, q5, cK, rK, imgAV]
        exact (HLe.set_new lK hpr).wk
    · rw [if_neg hm] at hput
      rw [if_pos (.inl hm)] at hres
      subst hres
      simp -implicitDefEqProofs [q5, q4, PJ.tk, hneg, cK]
      refine ACall.eq hput ?_
      simp -implicitDefEqProofs [hm, q2, rK, imgAV]
      exact (HLe.set_new lK hpr).wk
end Go.Proofs.YtghlkjkdejebnaaGreatDoor
namespace Rg
open Go Go.RowKit
variable {P : Program} {n : Nat} {Q : Post} {ρ : Nat → AV} {k : List AItem} {H H0 : Heap}
def pathB (full : Array Oper) : List Nat → Array Bool → Bool
  | [], _ => true
  | i :: r, l => (Region.ready .any full l).contains i && decide (i < full.size) && pathB full r (l.setIfInBounds i true)
theorem path_inv {full : Array Oper} : ∀ (d : List Nat) (l : Array Bool), pathB full d l = true → HeadInv .any full full.size l → HeadInv .any full full.size (d.foldl (fun a i => a.setIfInBounds i true) l)
  | [], l, _, h => h
  | i :: r, l, hp, h => by
    simp only [pathB, Bool.and_eq_true, decide_eq_true_eq] at hp
    obtain ⟨⟨h1, h2⟩, h3⟩ := hp
    exact path_inv r _ h3 (h.set (by simpa using h1) h2)
def pureB (full : Array Oper) (d : List Nat) (i : Nat) : Bool :=
  pathB full d (Array.replicate full.size false) && (Region.ready .any full (markL full.size d)).contains i && Region.free .any full (markL full.size d) i && decide (i < full.size) && decide (d.length < full.size)
theorem AWK.pure {l0 : List Oper} {J : (Nat → AV) → Heap → Prop} {d : List Nat} (i : Nat) (hb : pureB l0.toArray d i = true) (h : AQ3 P n H0 l0.toArray (fun r => AWK P n H0 J l0.toArray (d ++ [i]) r H) ((l0[i]?).toList) ρ) : AWK P n H0 J l0.toArray d ρ H := by
  simp only [pureB, Bool.and_eq_true, decide_eq_true_eq] at hb
  obtain ⟨⟨⟨⟨h1, h2⟩, h3⟩, h4⟩, h5⟩ := hb
  have inv0 : HeadInv .any l0.toArray l0.toArray.size (Array.replicate l0.toArray.size false) :=
    ⟨by simp, fun j oj _ hl => (by rw [getD_replicate_false] at hl; cases hl), fun t _ ht => getD_in (by simpa using ht) (getD_replicate_false _ _)⟩
  have inv := path_inv d _ h1 inv0
  have hi : l0[i]? = some (l0[i]'(by simpa using h4)) := List.getElem?_eq_getElem (by simpa using h4)
  rw [hi] at h
  obtain ⟨v, hy, hK⟩ := h
  have hoi : l0.toArray[i]? = some (l0[i]'(by simpa using h4)) := by rw [List.getElem?_toArray, hi]
  unfold AWK
  rw [show l0.toArray.size - d.length = (l0.toArray.size - (d.length + 1)) + 1 by omega]
  refine wAny_first hoi (waits_all l0.toArray) h4 (fun listed' r H' hL j hj => by rw [hL.1] at hj; cases hj) _ (markL l0.toArray.size d) ρ H inv (Region.free_spec hoi h3) (by simpa using h2) hy ?_
  have hK' : AWK P n H0 J l0.toArray (d ++ [i]) (aput n (l0[i]'(by simpa using h4)).dst v ρ) H := hK
  unfold AWK at hK'
  rw [markL_snoc, List.length_append, List.length_singleton] at hK'
  exact hK'
section
variable {full : Array Oper} {K : (Nat → AV) → Prop} {l : List Oper} {dst : Option Tmp}
theorem aq3_skip {op : Op} {ty : TypeId} {pos : String} {after : Array Edge} {g : Nat × Bool} (hg : aguard full ρ n (some g) = false) (h : AQ3 P n H0 full K l (aput n dst (.sc undef) ρ)) : AQ3 P n H0 full K (⟨dst, op, ty, pos, after, some g⟩ :: l) ρ :=
  ⟨.sc undef, fun _ _ => .inr ⟨hg, rfl⟩, h⟩
theorem aq3_take {op : Op} {ty : TypeId} {pos : String} {after : Array Edge} {g : Nat × Bool} (hg : aguard full ρ n (some g) = true) (h : AQ3S P n H0 full K dst l ρ (astepV P op (evA ρ) H0)) : AQ3 P n H0 full K (⟨dst, op, ty, pos, after, some g⟩ :: l) ρ := by
  cases hv : astepV P op (evA ρ) H0 with
  | val v => rw [hv] at h; exact ⟨v, fun _ hc => .inl ⟨hg, .inl (astepV_HC hv hc)⟩, h⟩
  | call f args => rw [hv] at h; obtain ⟨v, h1, h2⟩ := h; exact ⟨v, fun H' hc => .inl ⟨hg, .inr (.inl ⟨f, args, astepV_other hv (.inl ⟨_, _, rfl⟩), h1 H' hc⟩)⟩, h2⟩
  | app T e xs t ys => rw [hv] at h; exact h.elim
  | alloc cs T => rw [hv] at h; exact h.elim
  | store b off ds => rw [hv] at h; exact h.elim
  | stuck => rw [hv] at h; exact h.elim
  | lits e sz xs => rw [hv] at h; exact h.elim
  | freeze g v => rw [hv] at h; exact h.elim
  | unarr b v => rw [hv] at h; exact h.elim
end
end Rg
