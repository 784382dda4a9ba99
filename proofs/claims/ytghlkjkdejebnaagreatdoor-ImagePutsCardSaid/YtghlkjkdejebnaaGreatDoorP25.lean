/- A state's parts as bytes: what image.Parse gives. -/
import Derived.Test.YtghlkjkdejebnaaGreatDoorP24
set_option linter.unusedSimpArgs false
set_option linter.unusedVariables false
set_option linter.unnecessarySimpa false
namespace Go.Proofs.YtghlkjkdejebnaaGreatDoor
open Rg Go
variable {H : Heap}
abbrev imgFn (pb pa pd : Nat) : AV := .sc (.func (.func 67) #[] #[.pointer (some ⟨pb, 0, none⟩), .pointer (some ⟨pa, 0, none⟩), .pointer (some ⟨pd, 0, none⟩)])
abbrev fnO (pb pa pd : Nat) : AObj := .cells [imgFn pb pa pd] 69
theorem tag_fn : tagg Tryz.prog 69 = some false := by kernel_rfl
theorem size_fn : tsize Tryz.prog 69 = some 1 := by kernel_rfl
theorem zero_fn : tzero Tryz.prog 69 = some .nilFunc := by kernel_rfl
theorem upd3_again {pa pd : Nat} (h : pa ≠ pd) (s : Nat × Bool) (z : Bool) (K : Heap) : (upd3 pa pd s K).set pd (.cells [.sc (.bool z)] 4) = upd3 pa pd (s.1, z) K := by
  funext q
  by_cases h1 : q = pd
  · subst h1; simp [Heap.set, Ne.symm h]
  · by_cases h2 : q = pa
    · subst h2; simp [Heap.set, h]
    · simp [Heap.set, h1, h2]
theorem manyC_le (b : List UInt8) (m : Nat) (s : Nat × Bool) (h : s.1 ≤ b.length) : (manyC b m s).2.1 ≤ b.length ∧ (manyC b m s).1 ≤ m := by
  have := numC_le b any64 s h
  unfold manyC
  split
  · exact ⟨this, Nat.zero_le _⟩
  · rename_i hc
    simp only [not_or, Nat.not_lt] at hc
    exact ⟨this, hc.2⟩
theorem manyC_pos {b : List UInt8} {m : Nat} {s : Nat × Bool} (h : (manyC b m s).1 ≠ 0) : (manyC b m s).2.2 = false := by
  unfold manyC at h ⊢
  split
  · rename_i hc
    rw [if_pos hc] at h
    exact absurd rfl h
  · rename_i hc
    simp only [not_or, Bool.not_eq_true] at hc
    exact hc.1
set_option maxHeartbeats 1000000 in
theorem c_imgMany {b : List UInt8} {t : Rg.Tok} {pb pa pd p6 : Nat} {s : Nat × Bool} {K : Heap} (h : Three b t pb pa pd s K) (h6 : K p6 = some (fnO pb pa pd)) (hs : s.1 ≤ b.length) (hb : b.length ≤ 1000000) (most : Nat) :
    AOk Tryz.prog 70 [.sc (.int .u64 (most : Int)), .sc (.pointer (some ⟨p6, 0, none⟩)), .sc (.pointer (some ⟨pd, 0, none⟩))] K (.sc (.int .u64 ((manyC b most s).1 : Int))) (upd3 pa pd (manyC b most s).2 K) := by
  obtain ⟨m1, m2, m3⟩ := h.ne
  have hc := c_imgNum h hs hb
  have hu := h.upd (s' := (numC b 18446744073709551615 s).2)
  unfold manyC
  simp only [any64]
  obtain ⟨n, s1, bad, hp⟩ : ∃ n s1 bad, numC b 18446744073709551615 s = (n, s1, bad) := ⟨_, _, _, rfl⟩
  simp only [hp] at hc hu ⊢
  have hd := hu.d
  have ha := upd3_again m3 (s1, bad) (z := true) K
  have ha2 := upd3_again m3 (s1, bad) (z := false) K
  simp only at ha ha2
  generalize upd3 pa pd (s1, bad) K = K1 at *
  refine ACalls.into Tryz.func70 rfl Tryz.ntmps70 Tryz.results70 (by simp) ?_
  simp -implicitDefEqProofs [h6, tag_fn, size_fn]
  refine ACall.eq hc ?_
  cases bad with
  | true =>
    rw [if_pos (.inl rfl)]
    simp -implicitDefEqProofs [hd, ha, m3, Ne.symm m3]
  | false =>
    by_cases hm : most < n
    · have hm' : (most : Int) < (n : Int) := by omega
      rw [if_pos (.inr hm)]
      simp -implicitDefEqProofs [hd, hm, hm', ha, m3, Ne.symm m3]
    · have hm' : ¬ (most : Int) < (n : Int) := by omega
      rw [if_neg (by simp [hm])]
      simp -implicitDefEqProofs [hd, hm, hm', ha2, m3, Ne.symm m3]
structure WInv (B : Heap) (b : List UInt8) (t : Rg.Tok) (pb pa pd p6 : Nat) (s : Nat × Bool) (K : Heap) : Prop where
  three : Three b t pb pa pd s K
  B6 : B p6 = some (fnO pb pa pd)
  L : HLe B K
  a0 : B pa = none
  d0 : B pd = none
  le : s.1 ≤ b.length
structure VInv (sz : Nat) (e : TypeId) (B : Heap) (b : List UInt8) (t : Rg.Tok) (pb pa pd p6 p9 n : Nat) (F : Rg.Tok → List AV) (s : Nat × Bool) (t0 : Rg.Tok) (K : Heap) : Prop where
  three : Three b t pb pa pd s K
  B6 : B p6 = some (fnO pb pa pd)
  row : RowZ sz e 44 B p9 n F K
  cell : K p9 = some (.cells (F t0) 44)
  a0 : B pa = none
  d0 : B pd = none
  na : pa ≠ p9
  nd : pd ≠ p9
  nb : pb ≠ p9
  le : s.1 ≤ b.length
section
variable {sz : Nat} {e : TypeId} {B : Heap} {b : List UInt8} {t : Rg.Tok} {pb pa pd p6 p9 n : Nat} {F F' : Rg.Tok → List AV} {s s' : Nat × Bool} {t0 : Rg.Tok} {K : Heap}
theorem WInv.upd (h : WInv B b t pb pa pd p6 s K) (hs : s'.1 ≤ b.length) : WInv B b t pb pa pd p6 s' (upd3 pa pd s' K) :=
  ⟨h.three.upd, h.B6, HLe.set_new (HLe.set_new h.L h.d0) h.a0, h.a0, h.d0, hs⟩
theorem WInv.fn (h : WInv B b t pb pa pd p6 s K) : K p6 = some (fnO pb pa pd) := h.L _ _ h.B6
theorem VInv.fn (h : VInv sz e B b t pb pa pd p6 p9 n F s t0 K) : K p6 = some (fnO pb pa pd) := h.row.le _ _ h.B6
theorem VInv.upd (h : VInv sz e B b t pb pa pd p6 p9 n F s t0 K) (hs : s'.1 ≤ b.length) : VInv sz e B b t pb pa pd p6 p9 n F s' t0 (upd3 pa pd s' K) := by
  obtain ⟨m1, m2, m3⟩ := h.three.ne
  exact ⟨h.three.upd, h.B6, (h.row.setO h.d0 h.nd h.three.d (fun _ _ _ _ h => by cases h)).setO h.a0 h.na (o := .cells [.sc (.int .i64 (s.1 : Int))] 3) (by simp [Heap.set, m3, h.three.a]) (fun _ _ _ _ h => by cases h), by simp [Heap.set, Ne.symm h.na, Ne.symm h.nd, h.cell], h.a0, h.d0, h.na, h.nd, h.nb, hs⟩
theorem VInv.bad (h : VInv sz e B b t pb pa pd p6 p9 n F s t0 K) (z : Bool) : VInv sz e B b t pb pa pd p6 p9 n F (s.1, z) t0 (K.set pd (.cells [.sc (.bool z)] 4)) := by
  obtain ⟨m1, m2, m3⟩ := h.three.ne
  exact ⟨⟨by simp [Heap.set, m2, h.three.b], by simp [Heap.set, m3, h.three.a], by simp [Heap.set]⟩, h.B6, h.row.setO h.d0 h.nd h.three.d (fun _ _ _ _ h => by cases h), by simp [Heap.set, Ne.symm h.nd, h.cell], h.a0, h.d0, h.na, h.nd, h.nb, h.le⟩
theorem VInv.at (h : VInv sz e B b t pb pa pd p6 p9 n F s t0 K) {q : Nat} (hq : q ≤ b.length) : VInv sz e B b t pb pa pd p6 p9 n F (q, s.2) t0 (K.set pa (.cells [.sc (.int .i64 (q : Int))] 3)) := by
  obtain ⟨m1, m2, m3⟩ := h.three.ne
  exact ⟨⟨by simp [Heap.set, m1, h.three.b], by simp [Heap.set], by simp [Heap.set, Ne.symm m3, h.three.d]⟩, h.B6, h.row.setO h.a0 h.na h.three.a (fun _ _ _ _ h => by cases h), by simp [Heap.set, Ne.symm h.na, h.cell], h.a0, h.d0, h.na, h.nd, h.nb, hq⟩
theorem VInv.new (h : VInv sz e B b t pb pa pd p6 p9 n F s t0 K) {q : Nat} {o : AObj} (hq : K q = none) : VInv sz e B b t pb pa pd p6 p9 n F s t0 (K.set q o) := by
  have h1 : pb ≠ q := by rintro rfl; rw [h.three.b] at hq; cases hq
  have h2 : pa ≠ q := by rintro rfl; rw [h.three.a] at hq; cases hq
  have h3 : pd ≠ q := by rintro rfl; rw [h.three.d] at hq; cases hq
  have h4 : p9 ≠ q := by rintro rfl; rw [h.cell] at hq; cases hq
  exact ⟨h.three.of h1 h2 h3, h.B6, h.row.new hq, by simp [Heap.set, h4, h.cell], h.a0, h.d0, h.na, h.nd, h.nb, h.le⟩
theorem VInv.put (h : VInv sz e B b t pb pa pd p6 p9 n F s t0 K) (hF : ∀ t, F t = F t0 → t = t0) : VInv sz e B b t pb pa pd p6 p9 n F' s t0 (K.set p9 (.cells (F' t0) 44)) :=
  ⟨h.three.of h.nb h.na h.nd, h.B6, h.row.cell h.cell (fun t' ht => by rw [hF t' ht.symm]), by simp [Heap.set], h.a0, h.d0, h.na, h.nd, h.nb, h.le⟩
theorem VInv.next (h : VInv sz e B b t pb pa pd p6 p9 n F s t0 K) {sz' : Nat} {e' : TypeId} (hF : F' .nil = F t0) : VInv sz' e' B b t pb pa pd p6 p9 0 F' s .nil K :=
  ⟨h.three, h.B6, ⟨h.row.le, h.row.no, .nil, by rw [hF]; exact h.cell, .inl ⟨rfl, rfl⟩⟩, by rw [hF]; exact h.cell, h.a0, h.d0, h.na, h.nd, h.nb, h.le⟩
theorem VInv.app {xs : List AV} (h : VInv sz e B b t pb pa pd p6 p9 xs.length F s t0 K) (hF : ∀ t, F t = F t0 → t = t0) (y : AV) : ∃ G0 G, Grows G0 xs sz e t0 G ∧ HLe G K ∧ ∀ t' K' Hn, Grows G0 (xs ++ [y]) sz e t' K' → HLe K' Hn →
    Hn p9 = some (.cells (F t0) 44) ∧ Three b t pb pa pd s Hn ∧ ∀ F' : Rg.Tok → List AV, VInv sz e B b t pb pa pd p6 p9 (xs ++ [y]).length F' s t' (Hn.set p9 (.cells (F' t') 44)) := by
  obtain ⟨t1, G0, G, c1, hg, hl, hl0, c2, hp⟩ := h.row.grows
  rw [h.cell] at c1
  simp only [Option.some.injEq, AObj.cells.injEq] at c1
  obtain rfl := hF t1 c1.1.symm
  refine ⟨G0, G, hg, hl, fun t' K' Hn hg' hl' => ?_⟩
  have keep : ∀ p cs T', K p = some (.cells cs T') → Hn p = some (.cells cs T') := fun p cs T' hh => hl' p _ (hg'.le p _ (hp p cs T' hh))
  have th : Three b t pb pa pd s Hn := ⟨keep _ _ _ h.three.b, keep _ _ _ h.three.a, keep _ _ _ h.three.d⟩
  exact ⟨keep _ _ _ h.cell, th, fun F' => ⟨th.of h.nb h.na h.nd, h.B6, RowZ.stored hl0 h.row.no c2 hg' hl', by simp [Heap.set], h.a0, h.d0, h.na, h.nd, h.nb, h.le⟩⟩
theorem WInv.alloc (h : WInv B b t pb pa pd p6 s K) (h9 : K p9 = none) (sz : Nat) (e : TypeId) : VInv sz e B b t pb pa pd p6 p9 0 (fun t => ptC pt0 t .nil .nil) s .nil (K.set p9 (.cells (ptC pt0 .nil .nil .nil) 44)) := by
  have h1 : pb ≠ p9 := by rintro rfl; rw [h.three.b] at h9; cases h9
  have h2 : pa ≠ p9 := by rintro rfl; rw [h.three.a] at h9; cases h9
  have h3 : pd ≠ p9 := by rintro rfl; rw [h.three.d] at h9; cases h9
  exact ⟨h.three.of h1 h2 h3, h.B6, ⟨h.L.trans (HLe.set_fresh h9), h.L.none h9, .nil, by simp [Heap.set], .inl ⟨rfl, rfl⟩⟩, by simp [Heap.set], h.a0, h.d0, h2, h3, h1, h.le⟩
end
theorem jobsG_step {f : Nat → Option (Jb × Nat)} {k : Nat} {s : Nat × Bool} {j : Jb} {e : Nat} (h : s.2 = false) (hf : f s.1 = some (j, e)) : jobsG f (k + 1) s = (j :: (jobsG f k (e, false)).1, (jobsG f k (e, false)).2) := by
  rw [jobsG, if_neg (by simp [h]), hf]
theorem jobsG_none {f : Nat → Option (Jb × Nat)} {k : Nat} {s : Nat × Bool} (h : s.2 = false) (hf : f s.1 = none) : jobsG f (k + 1) s = ([], (s.1, true)) := by
  rw [jobsG, if_neg (by simp [h]), hf]
set_option maxHeartbeats 8000000 in
theorem c_imgParse (hG : Glob H) (b : List UInt8) (t : Rg.Tok) (hb : b.length ≤ 1000000) : AOk Tryz.prog 22 [.sl (u8s b) t] H (imgAV (parseI b)) H := by
  obtain ⟨res, hres⟩ : ∃ res, parseI b = res := ⟨_, rfl⟩
  rw [hres]
  refine ACalls.into Tryz.func22 rfl Tryz.ntmps22 Tryz.results22 (by simp) ?_
  simp -implicitDefEqProofs
  refine AAlloc.intro fun pb hpb => ?_
  simp -implicitDefEqProofs
  refine AAlloc.intro fun pr hpr => ?_
  simp -implicitDefEqProofs
  refine AAlloc.intro fun pa hpa => ?_
  simp -implicitDefEqProofs
  refine AAlloc.intro fun pd hpd => ?_
  have e1 : pb ≠ pr := by rintro rfl; simp [Heap.set] at hpr
  have e2 : pb ≠ pa := by rintro rfl; simp [Heap.set, e1] at hpa
  have e3 : pr ≠ pa := by rintro rfl; simp [Heap.set] at hpa
  have e4 : pb ≠ pd := by rintro rfl; simp [Heap.set, e1, e2] at hpd
  have e5 : pr ≠ pd := by rintro rfl; simp [Heap.set, e3] at hpd
  have e6 : pa ≠ pd := by rintro rfl; simp [Heap.set] at hpd
  simp -implicitDefEqProofs [e1, e2, e3, e4, e5, e6, Ne.symm e1, Ne.symm e2, Ne.symm e3, Ne.symm e4, Ne.symm e5, Ne.symm e6, tag_fn, size_fn, zero_fn]
  refine AAlloc.intro fun p6 hp6 => ?_
  have hr0 : H pr = none := by simpa [Heap.set, Ne.symm e1] using hpr
  have ha0 : H pa = none := by simpa [Heap.set, Ne.symm e2, Ne.symm e3] using hpa
  have hd0 : H pd = none := by simpa [Heap.set, Ne.symm e4, Ne.symm e5, Ne.symm e6] using hpd
  have g1 : pb ≠ p6 := by rintro rfl; simp [Heap.set, e1, e2, e4] at hp6
  have g2 : pr ≠ p6 := by rintro rfl; simp [Heap.set, e3, e5] at hp6
  have g3 : pa ≠ p6 := by rintro rfl; simp [Heap.set, e6] at hp6
  have g4 : pd ≠ p6 := by rintro rfl; simp [Heap.set] at hp6
  have h60 : H p6 = none := by simpa [Heap.set, Ne.symm g1, Ne.symm g2, Ne.symm g3, Ne.symm g4] using hp6
  simp -implicitDefEqProofs [g1, g2, g3, g4, tag_fn, size_fn]
  obtain ⟨B, hB⟩ : ∃ B, ((H.set pb (.cells [.sl (u8s b) t] 28)).set pr (.cells (ptC pt0 .nil .nil .nil) 44)).set p6 (fnO pb pa pd) = B := ⟨_, rfl⟩
  have Ba : B pa = none := by rw [← hB]; simp [Heap.set, g3, Ne.symm e3, Ne.symm e2, ha0]
  have Bd : B pd = none := by rw [← hB]; simp [Heap.set, g4, Ne.symm e5, Ne.symm e4, hd0]
  have Br : B pr = some (.cells (ptC pt0 .nil .nil .nil) 44) := by rw [← hB]; simp [Heap.set, g2]
  have B6 : B p6 = some (fnO pb pa pd) := by rw [← hB]; simp [Heap.set]
  have BL : HLe H B := by rw [← hB]; exact HLe.set_new (HLe.set_new (HLe.set_fresh hpb) hr0) h60
  generalize hK : Heap.set _ p6 _ = K0
  have W0 : WInv B b t pb pa pd p6 (0, false) K0 := by
    rw [← hK]
    refine ⟨⟨by simp [Heap.set, g1, e4, e2, e1], by simp [Heap.set, g3, e6], by simp [Heap.set, g4]⟩, B6, fun q o hq => ?_, Ba, Bd, Nat.zero_le _⟩
    have qa : q ≠ pa := by rintro rfl; rw [Ba] at hq; cases hq
    have qd : q ≠ pd := by rintro rfl; rw [Bd] at hq; cases hq
    have hqB := hq
    rw [← hB] at hq
    by_cases q6 : q = p6
    · subst q6; simpa [Heap.set] using hq
    · by_cases qr : q = pr
      · subst qr; rw [Br] at hqB; cases hqB; simp [Heap.set, g2, e3, e5]
      · simpa [Heap.set, q6, qd, qa, qr] using hq
  clear hK hB hpb hpr hpa hpd hp6
  have hwh : ∀ {s K}, WInv B b t pb pa pd p6 s K → AOk Tryz.prog 68 [.sc (.pointer (some ⟨pb, 0, none⟩)), .sc (.pointer (some ⟨pa, 0, none⟩)), .sc (.pointer (some ⟨pd, 0, none⟩))] K (.sc (.int .i64 (unzig (numC b 18446744073709551615 s).1))) (upd3 pa pd (numC b 18446744073709551615 s).2 K) := fun h => c_imgWhole h.three h.le hb
  have hnu : ∀ {s K}, WInv B b t pb pa pd p6 s K → AOk Tryz.prog 67 [.sc (.pointer (some ⟨pb, 0, none⟩)), .sc (.pointer (some ⟨pa, 0, none⟩)), .sc (.pointer (some ⟨pd, 0, none⟩))] K (.sc (.int .u64 ((numC b 18446744073709551615 s).1 : Int))) (upd3 pa pd (numC b 18446744073709551615 s).2 K) := fun h => c_imgNum h.three h.le hb
  have vwh : ∀ {sz e p9 n F s t0 K}, VInv sz e B b t pb pa pd p6 p9 n F s t0 K → AOk Tryz.prog 68 [.sc (.pointer (some ⟨pb, 0, none⟩)), .sc (.pointer (some ⟨pa, 0, none⟩)), .sc (.pointer (some ⟨pd, 0, none⟩))] K (.sc (.int .i64 (unzig (numC b 18446744073709551615 s).1))) (upd3 pa pd (numC b 18446744073709551615 s).2 K) := fun h => c_imgWhole h.three h.le hb
  have vnu : ∀ {sz e p9 n F s t0 K}, VInv sz e B b t pb pa pd p6 p9 n F s t0 K → AOk Tryz.prog 67 [.sc (.pointer (some ⟨pb, 0, none⟩)), .sc (.pointer (some ⟨pa, 0, none⟩)), .sc (.pointer (some ⟨pd, 0, none⟩))] K (.sc (.int .u64 ((numC b 18446744073709551615 s).1 : Int))) (upd3 pa pd (numC b 18446744073709551615 s).2 K) := fun h => c_imgNum h.three h.le hb
  have vma : ∀ {sz e p9 n F s t0 K} (m : Nat), VInv sz e B b t pb pa pd p6 p9 n F s t0 K → AOk Tryz.prog 70 [.sc (.int .u64 (m : Int)), .sc (.pointer (some ⟨p6, 0, none⟩)), .sc (.pointer (some ⟨pd, 0, none⟩))] K (.sc (.int .u64 ((manyC b m s).1 : Int))) (upd3 pa pd (manyC b m s).2 K) := fun m h => c_imgMany h.three h.fn h.le hb m
  obtain ⟨r1, hr1⟩ : ∃ r, numC b 18446744073709551615 (0, false) = r := ⟨_, rfl⟩
  obtain ⟨r2, hr2⟩ : ∃ r, numC b 18446744073709551615 r1.2 = r := ⟨_, rfl⟩
  obtain ⟨r3, hr3⟩ : ∃ r, numC b 18446744073709551615 r2.2 = r := ⟨_, rfl⟩
  have k1 : r1.2.1 ≤ b.length := by rw [← hr1]; exact numC_le b _ _ (Nat.zero_le _)
  have k2 : r2.2.1 ≤ b.length := by rw [← hr2]; exact numC_le b _ _ k1
  have k3 : r3.2.1 ≤ b.length := by rw [← hr3]; exact numC_le b _ _ k2
  obtain ⟨J, hJ⟩ : ∃ J : (Nat → AV) → Heap → Prop, J = fun ρ K => ∃ p9, ρ 1 = .sc (.pointer (some ⟨pb, 0, none⟩)) ∧ ρ 2 = .sc (.pointer (some ⟨pr, 0, none⟩)) ∧ ρ 4 = .sc (.pointer (some ⟨pa, 0, none⟩)) ∧ ρ 5 = .sc (.pointer (some ⟨pd, 0, none⟩)) ∧ ρ 6 = .sc (.pointer (some ⟨p6, 0, none⟩)) ∧ ρ 7 = .sc (.func (.func 68) #[] #[.pointer (some ⟨pb, 0, none⟩), .pointer (some ⟨pa, 0, none⟩), .pointer (some ⟨pd, 0, none⟩)]) ∧ ρ 8 = .sc (.func (.func 70) #[] #[.pointer (some ⟨p6, 0, none⟩), .pointer (some ⟨pd, 0, none⟩)]) ∧ ρ 9 = .sc (.pointer (some ⟨p9, 0, none⟩)) ∧ VInv 12 25 B b t pb pa pd p6 p9 0 (fun t => ptC ⟨[], r3.1, [], [], unzig r1.1, r2.1⟩ t .nil .nil) r3.2 .nil K := ⟨_, rfl⟩
  refine go_draw3J J [0, 2, 4] B f_mixed (by decide +kernel) (HLe.hc W0.L) ?_ ?_
  · simp -implicitDefEqProofs
    refine aq3_op ?_
    simp -implicitDefEqProofs
    refine aq3_op ?_
    simp -implicitDefEqProofs [B6, tag_fn, size_fn]
    refine aq3_op ?_
    simp -implicitDefEqProofs [B6, tag_fn, size_fn]
    refine AWK.two 1 7 (by decide +kernel) ?_ ?_
    · skip
      refine AWE.op rfl ?_
      simp -implicitDefEqProofs
      refine ⟨_, hwh W0, ?_⟩
      rw [hr1]
      rintro v Kx ⟨rfl, rfl⟩
      have W1 := W0.upd (s' := r1.2) k1
      refine ⟨HLe.hc W1.L, ?_⟩
      generalize upd3 pa pd r1.2 _ = K1 at *
      refine AWK.two 3 7 (by decide +kernel) ?_ ?_
      · skip
        refine AWE.op rfl ?_
        simp -implicitDefEqProofs
        refine ⟨_, hnu W1, ?_⟩
        rw [hr2]
        rintro v Kx ⟨rfl, rfl⟩
        have W2 := W1.upd (s' := r2.2) k2
        refine ⟨HLe.hc W2.L, ?_⟩
        generalize upd3 pa pd r2.2 _ = K2 at *
        refine AWK.two 5 7 (by decide +kernel) ?_ ?_
        · skip
          refine AWE.op rfl ?_
          simp -implicitDefEqProofs
          refine ⟨_, hnu W2, ?_⟩
          rw [hr3]
          rintro v Kx ⟨rfl, rfl⟩
          have W3 := W2.upd (s' := r3.2) k3
          refine ⟨HLe.hc W3.L, ?_⟩
          generalize upd3 pa pd r3.2 _ = K3 at *
          refine AWK.two 6 7 (by decide +kernel) ?_ ?_
          · refine AWE.op rfl ?_
            simp -implicitDefEqProofs
            refine AWK.one 7 (by decide +kernel) ?_
            refine AWE.op rfl ?_
            simp -implicitDefEqProofs
            refine AWS.alloc fun p9 h9 => ?_
            generalize hKa : Heap.set _ p9 _ = Ka
            have V3 : VInv 12 25 B b t pb pa pd p6 p9 0 (fun t => ptC pt0 t .nil .nil) r3.2 .nil Ka := by rw [← hKa]; exact W3.alloc h9 12 25
            clear hKa
            refine AWK.one 8 (by decide +kernel) ?_
            refine AWE.op rfl ?_
            simp -implicitDefEqProofs [V3.cell]
            refine AWS.store V3.cell (HLe.hc (HLe.set_new V3.row.le V3.row.no)) ?_
            refine AWK.fin (by decide +kernel) ?_
            rw [hJ]
            exact ⟨p9, by simp, by simp, by simp, by simp, by simp, by simp, by simp, by simp, V3.put (fun t h => pt1_inj h)⟩
          · skip
            refine AWE.op rfl ?_
            simp -implicitDefEqProofs
            refine AWS.alloc fun p9 h9 => ?_
            generalize hKa : Heap.set _ p9 _ = Ka
            have V3 : VInv 12 25 B b t pb pa pd p6 p9 0 (fun t => ptC pt0 t .nil .nil) r3.2 .nil Ka := by rw [← hKa]; exact W3.alloc h9 12 25
            clear hKa
            refine AWK.one 6 (by decide +kernel) ?_
            refine AWE.op rfl ?_
            simp -implicitDefEqProofs
            refine AWK.one 8 (by decide +kernel) ?_
            refine AWE.op rfl ?_
            simp -implicitDefEqProofs [V3.cell]
            refine AWS.store V3.cell (HLe.hc (HLe.set_new V3.row.le V3.row.no)) ?_
            refine AWK.fin (by decide +kernel) ?_
            rw [hJ]
            exact ⟨p9, by simp, by simp, by simp, by simp, by simp, by simp, by simp, by simp, V3.put (fun t h => pt1_inj h)⟩
        · skip
          refine AWE.op rfl ?_
          simp -implicitDefEqProofs
          refine AWS.alloc fun p9 h9 => ?_
          generalize hKa : Heap.set _ p9 _ = Ka
          have V2 : VInv 12 25 B b t pb pa pd p6 p9 0 (fun t => ptC pt0 t .nil .nil) r2.2 .nil Ka := by rw [← hKa]; exact W2.alloc h9 12 25
          clear hKa
          refine AWK.one 5 (by decide +kernel) ?_
          refine AWE.op rfl ?_
          simp -implicitDefEqProofs
          refine ⟨_, vnu V2, ?_⟩
          rw [hr3]
          rintro v Kx ⟨rfl, rfl⟩
          have V3 := V2.upd (s' := r3.2) k3
          refine ⟨HLe.hc V3.row.le, ?_⟩
          generalize upd3 pa pd r3.2 _ = K3 at *
          refine AWK.one 6 (by decide +kernel) ?_
          refine AWE.op rfl ?_
          simp -implicitDefEqProofs
          refine AWK.one 8 (by decide +kernel) ?_
          refine AWE.op rfl ?_
          simp -implicitDefEqProofs [V3.cell]
          refine AWS.store V3.cell (HLe.hc (HLe.set_new V3.row.le V3.row.no)) ?_
          refine AWK.fin (by decide +kernel) ?_
          rw [hJ]
          exact ⟨p9, by simp, by simp, by simp, by simp, by simp, by simp, by simp, by simp, V3.put (fun t h => pt1_inj h)⟩
      · skip
        refine AWE.op rfl ?_
        simp -implicitDefEqProofs
        refine AWS.alloc fun p9 h9 => ?_
        generalize hKa : Heap.set _ p9 _ = Ka
        have V1 : VInv 12 25 B b t pb pa pd p6 p9 0 (fun t => ptC pt0 t .nil .nil) r1.2 .nil Ka := by rw [← hKa]; exact W1.alloc h9 12 25
        clear hKa
        refine AWK.one 3 (by decide +kernel) ?_
        refine AWE.op rfl ?_
        simp -implicitDefEqProofs
        refine ⟨_, vnu V1, ?_⟩
        rw [hr2]
        rintro v Kx ⟨rfl, rfl⟩
        have V2 := V1.upd (s' := r2.2) k2
        refine ⟨HLe.hc V2.row.le, ?_⟩
        generalize upd3 pa pd r2.2 _ = K2 at *
        refine AWK.one 5 (by decide +kernel) ?_
        refine AWE.op rfl ?_
        simp -implicitDefEqProofs
        refine ⟨_, vnu V2, ?_⟩
        rw [hr3]
        rintro v Kx ⟨rfl, rfl⟩
        have V3 := V2.upd (s' := r3.2) k3
        refine ⟨HLe.hc V3.row.le, ?_⟩
        generalize upd3 pa pd r3.2 _ = K3 at *
        refine AWK.one 6 (by decide +kernel) ?_
        refine AWE.op rfl ?_
        simp -implicitDefEqProofs
        refine AWK.one 8 (by decide +kernel) ?_
        refine AWE.op rfl ?_
        simp -implicitDefEqProofs [V3.cell]
        refine AWS.store V3.cell (HLe.hc (HLe.set_new V3.row.le V3.row.no)) ?_
        refine AWK.fin (by decide +kernel) ?_
        rw [hJ]
        exact ⟨p9, by simp, by simp, by simp, by simp, by simp, by simp, by simp, by simp, V3.put (fun t h => pt1_inj h)⟩
    · skip
      refine AWE.op rfl ?_
      simp -implicitDefEqProofs
      refine AWS.alloc fun p9 h9 => ?_
      generalize hKa : Heap.set _ p9 _ = Ka
      have V0 : VInv 12 25 B b t pb pa pd p6 p9 0 (fun t => ptC pt0 t .nil .nil) (0, false) .nil Ka := by rw [← hKa]; exact W0.alloc h9 12 25
      clear hKa
      refine AWK.one 1 (by decide +kernel) ?_
      refine AWE.op rfl ?_
      simp -implicitDefEqProofs
      refine ⟨_, vwh V0, ?_⟩
      rw [hr1]
      rintro v Kx ⟨rfl, rfl⟩
      have V1 := V0.upd (s' := r1.2) k1
      refine ⟨HLe.hc V1.row.le, ?_⟩
      generalize upd3 pa pd r1.2 _ = K1 at *
      refine AWK.one 3 (by decide +kernel) ?_
      refine AWE.op rfl ?_
      simp -implicitDefEqProofs
      refine ⟨_, vnu V1, ?_⟩
      rw [hr2]
      rintro v Kx ⟨rfl, rfl⟩
      have V2 := V1.upd (s' := r2.2) k2
      refine ⟨HLe.hc V2.row.le, ?_⟩
      generalize upd3 pa pd r2.2 _ = K2 at *
      refine AWK.one 5 (by decide +kernel) ?_
      refine AWE.op rfl ?_
      simp -implicitDefEqProofs
      refine ⟨_, vnu V2, ?_⟩
      rw [hr3]
      rintro v Kx ⟨rfl, rfl⟩
      have V3 := V2.upd (s' := r3.2) k3
      refine ⟨HLe.hc V3.row.le, ?_⟩
      generalize upd3 pa pd r3.2 _ = K3 at *
      refine AWK.one 6 (by decide +kernel) ?_
      refine AWE.op rfl ?_
      simp -implicitDefEqProofs
      refine AWK.one 8 (by decide +kernel) ?_
      refine AWE.op rfl ?_
      simp -implicitDefEqProofs [V3.cell]
      refine AWS.store V3.cell (HLe.hc (HLe.set_new V3.row.le V3.row.no)) ?_
      refine AWK.fin (by decide +kernel) ?_
      rw [hJ]
      exact ⟨p9, by simp, by simp, by simp, by simp, by simp, by simp, by simp, by simp, V3.put (fun t h => pt1_inj h)⟩
  rw [hJ]
  clear hJ J W0
  rintro ρ K0 ⟨p9, q1, q2, q4, q5, q6, q7, q8, q9, V0⟩
  simp -implicitDefEqProofs [q1, q2, q4, q5, q6, q7, q8, q9]
  refine ACall.eq (vma 64 V0) ?_
  obtain ⟨n1, hn1⟩ : ∃ r, manyC b 64 r3.2 = r := ⟨_, rfl⟩
  have hl1 := manyC_le b 64 r3.2 k3
  rw [hn1] at hl1
  have V1 := V0.upd (s' := n1.2) hl1.1
  have hpos1 : n1.1 ≠ 0 → n1.2.2 = false := fun h => by rw [← hn1] at h ⊢; exact manyC_pos h
  rw [hn1]
  generalize upd3 pa pd n1.2 K0 = K1 at *
  simp -implicitDefEqProofs
  obtain ⟨js, hjs⟩ : ∃ r, jobsG (parseJ b) n1.1 n1.2 = r := ⟨_, rfl⟩
  refine AGo.joinLoop (fun ρ K => ∃ L t0, js.1 = L ∧ ρ 1 = .sc (.pointer (some ⟨pb, 0, none⟩)) ∧ ρ 2 = .sc (.pointer (some ⟨pr, 0, none⟩)) ∧ ρ 4 = .sc (.pointer (some ⟨pa, 0, none⟩)) ∧ ρ 5 = .sc (.pointer (some ⟨pd, 0, none⟩)) ∧ ρ 6 = .sc (.pointer (some ⟨p6, 0, none⟩)) ∧ ρ 7 = .sc (.func (.func 68) #[] #[.pointer (some ⟨pb, 0, none⟩), .pointer (some ⟨pa, 0, none⟩), .pointer (some ⟨pd, 0, none⟩)]) ∧ ρ 8 = .sc (.func (.func 70) #[] #[.pointer (some ⟨p6, 0, none⟩), .pointer (some ⟨pd, 0, none⟩)]) ∧ ρ 9 = .sc (.pointer (some ⟨p9, 0, none⟩)) ∧ VInv 12 25 B b t pb pa pd p6 p9 (jbsAV L).length (fun t => ptC ⟨L, r3.1, [], [], unzig r1.1, r2.1⟩ t .nil .nil) js.2 t0 K) (fun k' hk => ?_) ?_
  · refine AGo.rounds (fun m ρ K => ∃ i s' L t0, m = n1.1 - i ∧ i ≤ n1.1 ∧ (i < n1.1 → s'.2 = false) ∧ js = (L ++ (jobsG (parseJ b) (n1.1 - i) s').1, (jobsG (parseJ b) (n1.1 - i) s').2) ∧ L.length = i ∧ ρ 25 = .sc (.int .u64 (i : Int)) ∧ ρ 24 = .sc (.int .u64 (n1.1 : Int)) ∧ ρ 1 = .sc (.pointer (some ⟨pb, 0, none⟩)) ∧ ρ 2 = .sc (.pointer (some ⟨pr, 0, none⟩)) ∧ ρ 4 = .sc (.pointer (some ⟨pa, 0, none⟩)) ∧ ρ 5 = .sc (.pointer (some ⟨pd, 0, none⟩)) ∧ ρ 6 = .sc (.pointer (some ⟨p6, 0, none⟩)) ∧ ρ 7 = .sc (.func (.func 68) #[] #[.pointer (some ⟨pb, 0, none⟩), .pointer (some ⟨pa, 0, none⟩), .pointer (some ⟨pd, 0, none⟩)]) ∧ ρ 8 = .sc (.func (.func 70) #[] #[.pointer (some ⟨p6, 0, none⟩), .pointer (some ⟨pd, 0, none⟩)]) ∧ ρ 9 = .sc (.pointer (some ⟨p9, 0, none⟩)) ∧
      VInv 12 25 B b t pb pa pd p6 p9 (jbsAV L).length (fun t => ptC ⟨L, r3.1, [], [], unzig r1.1, r2.1⟩ t .nil .nil) s' t0 K) ?_ (m := n1.1) (HLe.refl _)
      ⟨0, n1.2, [], .nil, rfl, by omega, fun h => hpos1 (by omega), by simp [hjs], rfl, by simp, by simp, by simp [q1], by simp [q2], by simp [q4], by simp [q5], by simp [q6], by simp [q7], by simp [q8], by simp [q9], V1⟩
    clear V0 V1 q1 q2 q4 q5 q6 q7 q8 q9
    rintro m ρ K ih ⟨i, s', L, t0, rfl, hi, hok, hd, hLl, q25, q24, q1, q2, q4, q5, q6, q7, q8, q9, V⟩
    by_cases hlt : i < n1.1
    · have hlt' : (i : Int) < (n1.1 : Int) := by omega
      have hs0 := hok hlt
      have hw1 : IntKind.u64.wrap ((i : Int) + 1) = (i : Int) + 1 := wrap_u64 (by omega) (by omega)
      have hcall := c_jobParse (hG.le (BL.trans V.row.le)) b t s'.1 V.le hb
      have m3 := V.three.ne.2.2
      have vd := V.three.d
      rw [hs0] at vd
      rw [show n1.1 - i = (n1.1 - (i + 1)) + 1 by omega] at hd
      rcases hj : parseJ b s'.1 with _ | ⟨j, e⟩
      · rw [hj] at hcall
        rw [jobsG_none hs0 hj, List.append_nil] at hd
        simp -implicitDefEqProofs [q25, q24, q1, q2, q4, q5, q6, q7, q8, q9, hlt, hlt', V.three.b, V.three.a]
        refine ACall.eq hcall ?_
        simp -implicitDefEqProofs [parseAV]
        refine AAlloc.intro fun b10 h10 => ?_
        have V2 := V.new h10 (o := .cells (jbC jb0 .no) 25)
        have V3 := V2.bad true
        have n10 : pd ≠ b10 := by rintro rfl; rw [V.three.d] at h10; cases h10
        simp -implicitDefEqProofs [q5, n10, vd]
        subst hd
        exact hk _ _ ⟨L, t0, rfl, by simp [q1], by simp [q2], by simp [q4], by simp [q5], by simp [q6], by simp [q7], by simp [q8], by simp [q9], V3⟩
      · rw [hj] at hcall
        rw [jobsG_step hs0 hj] at hd
        have hel := (parseJ_le V.le hj).2
        simp -implicitDefEqProofs [q25, q24, q1, q2, q4, q5, q6, q7, q8, q9, hlt, hlt', V.three.b, V.three.a]
        refine ACall.eq hcall ?_
        simp -implicitDefEqProofs [parseAV]
        refine AAlloc.intro fun b10 h10 => ?_
        have V2 := V.new h10 (o := .cells (jbC j .no) 25)
        have n10 : pd ≠ b10 := by rintro rfl; rw [V.three.d] at h10; cases h10
        have n910 : p9 ≠ b10 := by rintro rfl; rw [V.cell] at h10; cases h10
        have V3 := V2.bad false
        have x10 : ((K.set b10 (.cells (jbC j .no) 25)).set pd (.cells [.sc (.bool false)] 4)) b10 = some (.cells (jbC j .no) 25) := by simp [Heap.set, Ne.symm n10]
        simp -implicitDefEqProofs [q5, n10, vd]
        generalize Heap.set (Heap.set K b10 _) pd _ = K3 at V3 x10 ⊢
        obtain ⟨G0, G, hg, hl, hst⟩ := V3.app (fun t h => pt1_inj h) (jbAV j .no)
        have hzx := szs_jbs L
        have hzy : szs 12 [jbAV j .no] = true := by simp [szs, AV.cells]
        have hll : (jbsAV L).length = i := by rw [List.length_map]; exact hLl
        have ej : jbsAV L ++ [jbAV j .no] = jbsAV (L ++ [j]) := by simp
        have ejl : (jbsAV L ++ [jbAV j .no]).length = (jbsAV (L ++ [j])).length := by rw [ej]
        simp -implicitDefEqProofs [q9, V3.cell, x10]
        refine AApp.grows0 el_40 hg hl hzx hzy (by rw [hll]; simp only [List.length_cons, List.length_nil]; omega) (by rw [hll]; simp only [List.length_cons, List.length_nil, maxLen]; omega) fun t' K' Hn hg' hl' => ?_
        obtain ⟨hpj2, hBn, Pn⟩ := hst t' K' Hn hg' hl'
        have Pn2 := Pn (fun t => ptC ⟨L ++ [j], r3.1, [], [], unzig r1.1, r2.1⟩ t .nil .nil)
        have Pn3 := Pn2.at hel
        rw [ejl] at Pn3
        rw [ej]
        have an := hBn.a
        have na9 := Pn2.na
        simp -implicitDefEqProofs [q25, q4, q9, hpj2, an, hw1, na9]
        refine AGo.again ih (m' := n1.1 - (i + 1)) (by omega) (HLe.refl _) ⟨i + 1, (e, false), L ++ [j], t', rfl, by omega, fun _ => rfl, by rw [hd]; simp, by simp [hLl], by simp, by simp [q24], by simp [q1], by simp [q2], by simp [q4], by simp [q5], by simp [q6], by simp [q7], by simp [q8], by simp [q9], ?_⟩
        simpa only [ptC, jbsAV, List.map_append, List.map_cons, List.map_nil] using Pn3
    · have hn : ¬ (i : Int) < (n1.1 : Int) := by omega
      have hu : n1.1 - i = 0 := by omega
      rw [hu] at hd
      simp only [jobsG, List.append_nil] at hd
      simp -implicitDefEqProofs [q25, q24, q1, q2, q4, q5, q6, q7, q8, q9, hn]
      subst hd
      exact hk _ _ ⟨L, t0, rfl, by simp [q1], by simp [q2], by simp [q4], by simp [q5], by simp [q6], by simp [q7], by simp [q8], by simp [q9], V⟩
  clear V0 V1 q1 q2 q4 q5 q6 q7 q8 q9
  rintro ρ K0 ⟨mj, tj, hmj, q1, q2, q4, q5, q6, q7, q8, q9, VJ⟩
  simp -implicitDefEqProofs [q1, q2, q4, q5, q6, q7, q8, q9]
  have V0 : VInv 7 100 B b t pb pa pd p6 p9 0 (fun t => ptC ⟨mj, r3.1, [], [], unzig r1.1, r2.1⟩ tj t .nil) js.2 .nil K0 := VJ.next rfl
  clear VJ
  refine ACall.eq (vma 2000 V0) ?_
  obtain ⟨n2, hn2⟩ : ∃ r, manyC b 2000 js.2 = r := ⟨_, rfl⟩
  have hl1 := manyC_le b 2000 js.2 V0.le
  rw [hn2] at hl1
  have V1 := V0.upd (s' := n2.2) hl1.1
  rw [hn2]
  generalize upd3 pa pd n2.2 K0 = K1 at *
  simp -implicitDefEqProofs [q1, q2, q4, q5, q6, q7, q8, q9]
  obtain ⟨fs, hfs⟩ : ∃ r, rowsC b 7 n2.1 n2.2 = r := ⟨_, rfl⟩
  refine AGo.joinLoop (fun ρ K => ∃ M t0, fs.1.map frOf = M ∧ ρ 1 = .sc (.pointer (some ⟨pb, 0, none⟩)) ∧ ρ 2 = .sc (.pointer (some ⟨pr, 0, none⟩)) ∧ ρ 4 = .sc (.pointer (some ⟨pa, 0, none⟩)) ∧ ρ 5 = .sc (.pointer (some ⟨pd, 0, none⟩)) ∧ ρ 6 = .sc (.pointer (some ⟨p6, 0, none⟩)) ∧ ρ 7 = .sc (.func (.func 68) #[] #[.pointer (some ⟨pb, 0, none⟩), .pointer (some ⟨pa, 0, none⟩), .pointer (some ⟨pd, 0, none⟩)]) ∧ ρ 8 = .sc (.func (.func 70) #[] #[.pointer (some ⟨p6, 0, none⟩), .pointer (some ⟨pd, 0, none⟩)]) ∧ ρ 9 = .sc (.pointer (some ⟨p9, 0, none⟩)) ∧ VInv 7 100 B b t pb pa pd p6 p9 (frsAV (M)).length (fun t => ptC ⟨mj, r3.1, M, [], unzig r1.1, r2.1⟩ tj t .nil) fs.2 t0 K) (fun k' hk => ?_) ?_
  · refine AGo.rounds (fun m ρ K => ∃ i s' L M t0, m = n2.1 - i ∧ i ≤ n2.1 ∧ L.map frOf = M ∧ fs = (L ++ (rowsC b 7 (n2.1 - i) s').1, (rowsC b 7 (n2.1 - i) s').2) ∧ L.length = i ∧ ρ 50 = .sc (.int .u64 (i : Int)) ∧ ρ 49 = .sc (.int .u64 (n2.1 : Int)) ∧ ρ 1 = .sc (.pointer (some ⟨pb, 0, none⟩)) ∧ ρ 2 = .sc (.pointer (some ⟨pr, 0, none⟩)) ∧ ρ 4 = .sc (.pointer (some ⟨pa, 0, none⟩)) ∧ ρ 5 = .sc (.pointer (some ⟨pd, 0, none⟩)) ∧ ρ 6 = .sc (.pointer (some ⟨p6, 0, none⟩)) ∧ ρ 7 = .sc (.func (.func 68) #[] #[.pointer (some ⟨pb, 0, none⟩), .pointer (some ⟨pa, 0, none⟩), .pointer (some ⟨pd, 0, none⟩)]) ∧ ρ 8 = .sc (.func (.func 70) #[] #[.pointer (some ⟨p6, 0, none⟩), .pointer (some ⟨pd, 0, none⟩)]) ∧ ρ 9 = .sc (.pointer (some ⟨p9, 0, none⟩)) ∧
      VInv 7 100 B b t pb pa pd p6 p9 (frsAV (M)).length (fun t => ptC ⟨mj, r3.1, M, [], unzig r1.1, r2.1⟩ tj t .nil) s' t0 K) ?_ (m := n2.1) (HLe.refl _)
      ⟨0, n2.2, [], [], .nil, rfl, by omega, rfl, by simp [hfs], rfl, by simp, by simp, by simp [q1], by simp [q2], by simp [q4], by simp [q5], by simp [q6], by simp [q7], by simp [q8], by simp [q9], V1⟩
    clear V0 V1 q1 q2 q4 q5 q6 q7 q8 q9
    rintro m ρ K ih ⟨i, s', L, M, t0, rfl, hi, hM, hd, hLl, qc, ql, q1, q2, q4, q5, q6, q7, q8, q9, V0⟩
    by_cases hlt : i < n2.1
    · have hlt' : (i : Int) < (n2.1 : Int) := by omega
      have hw1 : IntKind.u64.wrap ((i : Int) + 1) = (i : Int) + 1 := wrap_u64 (by omega) (by omega)
      have c0 := vnu V0
      obtain ⟨f0, hf0⟩ : ∃ r, numC b 18446744073709551615 s' = r := ⟨_, rfl⟩
      have V1 := V0.upd (s' := f0.2) (by rw [← hf0]; exact numC_le b _ _ V0.le)
      rw [hf0] at c0
      generalize upd3 pa pd f0.2 K = Kf1 at c0 V1
      have hc1 := HLe.hc V1.row.le
      have c1 := vwh V1
      obtain ⟨f1, hf1⟩ : ∃ r, numC b 18446744073709551615 f0.2 = r := ⟨_, rfl⟩
      have V2 := V1.upd (s' := f1.2) (by rw [← hf1]; exact numC_le b _ _ V1.le)
      rw [hf1] at c1
      generalize upd3 pa pd f1.2 Kf1 = Kf2 at c1 V2
      have hc2 := HLe.hc V2.row.le
      have c2 := vwh V2
      obtain ⟨f2, hf2⟩ : ∃ r, numC b 18446744073709551615 f1.2 = r := ⟨_, rfl⟩
      have V3 := V2.upd (s' := f2.2) (by rw [← hf2]; exact numC_le b _ _ V2.le)
      rw [hf2] at c2
      generalize upd3 pa pd f2.2 Kf2 = Kf3 at c2 V3
      have hc3 := HLe.hc V3.row.le
      have c3 := vwh V3
      obtain ⟨f3, hf3⟩ : ∃ r, numC b 18446744073709551615 f2.2 = r := ⟨_, rfl⟩
      have V4 := V3.upd (s' := f3.2) (by rw [← hf3]; exact numC_le b _ _ V3.le)
      rw [hf3] at c3
      generalize upd3 pa pd f3.2 Kf3 = Kf4 at c3 V4
      have hc4 := HLe.hc V4.row.le
      have c4 := vnu V4
      obtain ⟨f4, hf4⟩ : ∃ r, numC b 18446744073709551615 f3.2 = r := ⟨_, rfl⟩
      have V5 := V4.upd (s' := f4.2) (by rw [← hf4]; exact numC_le b _ _ V4.le)
      rw [hf4] at c4
      generalize upd3 pa pd f4.2 Kf4 = Kf5 at c4 V5
      have hc5 := HLe.hc V5.row.le
      have c5 := vnu V5
      obtain ⟨f5, hf5⟩ : ∃ r, numC b 18446744073709551615 f4.2 = r := ⟨_, rfl⟩
      have V6 := V5.upd (s' := f5.2) (by rw [← hf5]; exact numC_le b _ _ V5.le)
      rw [hf5] at c5
      generalize upd3 pa pd f5.2 Kf5 = Kf6 at c5 V6
      have hc6 := HLe.hc V6.row.le
      have c6 := vwh V6
      obtain ⟨f6, hf6⟩ : ∃ r, numC b 18446744073709551615 f5.2 = r := ⟨_, rfl⟩
      have V7 := V6.upd (s' := f6.2) (by rw [← hf6]; exact numC_le b _ _ V6.le)
      rw [hf6] at c6
      generalize upd3 pa pd f6.2 Kf6 = Kf7 at c6 V7
      have hc7 := HLe.hc V7.row.le
      have hdw : rowC b 7 s' = ([f0.1, f1.1, f2.1, f3.1, f4.1, f5.1, f6.1], f6.2) := by simp only [rowC, any64, hf0, hf1, hf2, hf3, hf4, hf5, hf6]
      have hnext : fs = (L ++ [[f0.1, f1.1, f2.1, f3.1, f4.1, f5.1, f6.1]] ++ (rowsC b 7 (n2.1 - (i + 1)) f6.2).1, (rowsC b 7 (n2.1 - (i + 1)) f6.2).2) := by
        rw [hd, show n2.1 - i = (n2.1 - (i + 1)) + 1 by omega, rowsC, hdw]
        simp
      have hll : (frsAV (M)).length = i := by rw [List.length_map, ← hM, List.length_map]; exact hLl
      obtain ⟨M2, hM2⟩ : ∃ M2, M ++ [frOf [f0.1, f1.1, f2.1, f3.1, f4.1, f5.1, f6.1]] = M2 := ⟨_, rfl⟩
      obtain ⟨G0, G, hg, hl, hst⟩ := V7.app (fun t h => pt2_inj h) (.agg (frC ⟨f0.1, (unzig f1.1), (unzig f2.1), (unzig f3.1), f4.1, f5.1, (unzig f6.1)⟩))
      have hzx := szs_frs M
      have hzy : szs 7 [.agg (frC ⟨f0.1, (unzig f1.1), (unzig f2.1), (unzig f3.1), f4.1, f5.1, (unzig f6.1)⟩)] = true := by simp [szs, AV.cells]
      have ej : frsAV (M) ++ [(.agg (frC ⟨f0.1, (unzig f1.1), (unzig f2.1), (unzig f3.1), f4.1, f5.1, (unzig f6.1)⟩) : AV)] = frsAV (M2) := by rw [← hM2]; simp only [frsAV, tlsAV, List.map_append]; rfl
      have ejl : (frsAV (M) ++ [(.agg (frC ⟨f0.1, (unzig f1.1), (unzig f2.1), (unzig f3.1), f4.1, f5.1, (unzig f6.1)⟩) : AV)]).length = (frsAV (M2)).length := by rw [ej]
      simp -implicitDefEqProofs [qc, ql, q1, q2, q4, q5, q6, q7, q8, q9, hlt, hlt']
      refine go_draw3 [0, 2, 4, 6, 8, 10, 12, 14] B f_mixed (by decide +kernel) (HLe.hc V0.row.le) ?_
      simp -implicitDefEqProofs
      refine aq3_op ?_
      simp -implicitDefEqProofs [q1, q2, q4, q5, q6, q7, q8, q9, B6, tag_fn, size_fn]
      refine aq3_op ?_
      simp -implicitDefEqProofs [q1, q2, q4, q5, q6, q7, q8, q9, B6, tag_fn, size_fn]
      refine aq3_op ?_
      simp -implicitDefEqProofs [q1, q2, q4, q5, q6, q7, q8, q9, B6, tag_fn, size_fn]
      refine aq3_op ?_
      simp -implicitDefEqProofs [q1, q2, q4, q5, q6, q7, q8, q9, B6, tag_fn, size_fn]
      refine aq3_op ?_
      simp -implicitDefEqProofs [q1, q2, q4, q5, q6, q7, q8, q9, B6, tag_fn, size_fn]
      refine aq3_op ?_
      simp -implicitDefEqProofs [q1, q2, q4, q5, q6, q7, q8, q9, B6, tag_fn, size_fn]
      refine aq3_op ?_
      simp -implicitDefEqProofs [q1, q2, q4, q5, q6, q7, q8, q9, B6, tag_fn, size_fn]
      refine aq3_op ?_
      simp -implicitDefEqProofs [q1, q2, q4, q5, q6, q7, q8, q9, B6, tag_fn, size_fn]
      refine AWK.two 1 3 (by decide +kernel) ?_ ?_
      · skip
        refine AWE.op rfl ?_
        simp -implicitDefEqProofs [V0.cell]
        refine AWK.one 3 (by decide +kernel) ?_
        refine AWE.op rfl ?_
        simp -implicitDefEqProofs
        refine ⟨_, c0, ?_⟩
        rintro v Kx ⟨rfl, rfl⟩
        refine ⟨hc1, ?_⟩
        refine AWK.one 5 (by decide +kernel) ?_
        refine AWE.op rfl ?_
        simp -implicitDefEqProofs
        refine ⟨_, c1, ?_⟩
        rintro v Kx ⟨rfl, rfl⟩
        refine ⟨hc2, ?_⟩
        refine AWK.one 7 (by decide +kernel) ?_
        refine AWE.op rfl ?_
        simp -implicitDefEqProofs
        refine ⟨_, c2, ?_⟩
        rintro v Kx ⟨rfl, rfl⟩
        refine ⟨hc3, ?_⟩
        refine AWK.one 9 (by decide +kernel) ?_
        refine AWE.op rfl ?_
        simp -implicitDefEqProofs
        refine ⟨_, c3, ?_⟩
        rintro v Kx ⟨rfl, rfl⟩
        refine ⟨hc4, ?_⟩
        refine AWK.one 11 (by decide +kernel) ?_
        refine AWE.op rfl ?_
        simp -implicitDefEqProofs
        refine ⟨_, c4, ?_⟩
        rintro v Kx ⟨rfl, rfl⟩
        refine ⟨hc5, ?_⟩
        refine AWK.one 13 (by decide +kernel) ?_
        refine AWE.op rfl ?_
        simp -implicitDefEqProofs
        refine ⟨_, c5, ?_⟩
        rintro v Kx ⟨rfl, rfl⟩
        refine ⟨hc6, ?_⟩
        refine AWK.one 15 (by decide +kernel) ?_
        refine AWE.op rfl ?_
        simp -implicitDefEqProofs
        refine ⟨_, c6, ?_⟩
        rintro v Kx ⟨rfl, rfl⟩
        refine ⟨hc7, ?_⟩
        refine AWK.one 16 (by decide +kernel) ?_
        refine AWE.op rfl ?_
        simp -implicitDefEqProofs
        refine AWK.one 17 (by decide +kernel) ?_
        refine AWE.op rfl ?_
        simp -implicitDefEqProofs
        refine AWK.one 18 (by decide +kernel) ?_
        refine AWE.op rfl ?_
        simp -implicitDefEqProofs
        refine AWS.grows0 el_41 hg hl hzx hzy (by rw [hll]; simp only [List.length_cons, List.length_nil]; omega) (by rw [hll]; simp only [List.length_cons, List.length_nil, maxLen]; omega) fun t' K' Hn hg' hl' _ => ?_
        obtain ⟨hpj2, hBn, Pn⟩ := hst t' K' Hn hg' hl'
        have Pn2 := Pn (fun t => ptC ⟨mj, r3.1, M2, [], unzig r1.1, r2.1⟩ tj t .nil)
        rw [ejl] at Pn2
        rw [ej]
        refine AWK.one 19 (by decide +kernel) ?_
        refine AWE.op rfl ?_
        simp -implicitDefEqProofs [q9]
        refine AWK.one 20 (by decide +kernel) ?_
        refine AWE.op rfl ?_
        simp -implicitDefEqProofs [hpj2]
        refine AWS.store hpj2 (HLe.hc Pn2.row.le) ?_
        refine AWK.fin (by decide +kernel) ?_
        simp -implicitDefEqProofs [qc, hw1]
        exact AGo.again ih (m' := n2.1 - (i + 1)) (by omega) (HLe.refl _) ⟨i + 1, f6.2, L ++ [[f0.1, f1.1, f2.1, f3.1, f4.1, f5.1, f6.1]], M2, t', rfl, by omega, by rw [List.map_append, hM, ← hM2]; rfl, hnext, by simp [hLl], by simp, by simp [ql], by simp [q1], by simp [q2], by simp [q4], by simp [q5], by simp [q6], by simp [q7], by simp [q8], by simp [q9], Pn2⟩
      · skip
        refine AWE.op rfl ?_
        simp -implicitDefEqProofs
        refine ⟨_, c0, ?_⟩
        rintro v Kx ⟨rfl, rfl⟩
        refine ⟨hc1, ?_⟩
        refine AWK.two 1 5 (by decide +kernel) ?_ ?_
        · skip
          refine AWE.op rfl ?_
          simp -implicitDefEqProofs [V1.cell]
          refine AWK.one 5 (by decide +kernel) ?_
          refine AWE.op rfl ?_
          simp -implicitDefEqProofs
          refine ⟨_, c1, ?_⟩
          rintro v Kx ⟨rfl, rfl⟩
          refine ⟨hc2, ?_⟩
          refine AWK.one 7 (by decide +kernel) ?_
          refine AWE.op rfl ?_
          simp -implicitDefEqProofs
          refine ⟨_, c2, ?_⟩
          rintro v Kx ⟨rfl, rfl⟩
          refine ⟨hc3, ?_⟩
          refine AWK.one 9 (by decide +kernel) ?_
          refine AWE.op rfl ?_
          simp -implicitDefEqProofs
          refine ⟨_, c3, ?_⟩
          rintro v Kx ⟨rfl, rfl⟩
          refine ⟨hc4, ?_⟩
          refine AWK.one 11 (by decide +kernel) ?_
          refine AWE.op rfl ?_
          simp -implicitDefEqProofs
          refine ⟨_, c4, ?_⟩
          rintro v Kx ⟨rfl, rfl⟩
          refine ⟨hc5, ?_⟩
          refine AWK.one 13 (by decide +kernel) ?_
          refine AWE.op rfl ?_
          simp -implicitDefEqProofs
          refine ⟨_, c5, ?_⟩
          rintro v Kx ⟨rfl, rfl⟩
          refine ⟨hc6, ?_⟩
          refine AWK.one 15 (by decide +kernel) ?_
          refine AWE.op rfl ?_
          simp -implicitDefEqProofs
          refine ⟨_, c6, ?_⟩
          rintro v Kx ⟨rfl, rfl⟩
          refine ⟨hc7, ?_⟩
          refine AWK.one 16 (by decide +kernel) ?_
          refine AWE.op rfl ?_
          simp -implicitDefEqProofs
          refine AWK.one 17 (by decide +kernel) ?_
          refine AWE.op rfl ?_
          simp -implicitDefEqProofs
          refine AWK.one 18 (by decide +kernel) ?_
          refine AWE.op rfl ?_
          simp -implicitDefEqProofs
          refine AWS.grows0 el_41 hg hl hzx hzy (by rw [hll]; simp only [List.length_cons, List.length_nil]; omega) (by rw [hll]; simp only [List.length_cons, List.length_nil, maxLen]; omega) fun t' K' Hn hg' hl' _ => ?_
          obtain ⟨hpj2, hBn, Pn⟩ := hst t' K' Hn hg' hl'
          have Pn2 := Pn (fun t => ptC ⟨mj, r3.1, M2, [], unzig r1.1, r2.1⟩ tj t .nil)
          rw [ejl] at Pn2
          rw [ej]
          refine AWK.one 19 (by decide +kernel) ?_
          refine AWE.op rfl ?_
          simp -implicitDefEqProofs [q9]
          refine AWK.one 20 (by decide +kernel) ?_
          refine AWE.op rfl ?_
          simp -implicitDefEqProofs [hpj2]
          refine AWS.store hpj2 (HLe.hc Pn2.row.le) ?_
          refine AWK.fin (by decide +kernel) ?_
          simp -implicitDefEqProofs [qc, hw1]
          exact AGo.again ih (m' := n2.1 - (i + 1)) (by omega) (HLe.refl _) ⟨i + 1, f6.2, L ++ [[f0.1, f1.1, f2.1, f3.1, f4.1, f5.1, f6.1]], M2, t', rfl, by omega, by rw [List.map_append, hM, ← hM2]; rfl, hnext, by simp [hLl], by simp, by simp [ql], by simp [q1], by simp [q2], by simp [q4], by simp [q5], by simp [q6], by simp [q7], by simp [q8], by simp [q9], Pn2⟩
        · skip
          refine AWE.op rfl ?_
          simp -implicitDefEqProofs
          refine ⟨_, c1, ?_⟩
          rintro v Kx ⟨rfl, rfl⟩
          refine ⟨hc2, ?_⟩
          refine AWK.two 1 7 (by decide +kernel) ?_ ?_
          · skip
            refine AWE.op rfl ?_
            simp -implicitDefEqProofs [V2.cell]
            refine AWK.one 7 (by decide +kernel) ?_
            refine AWE.op rfl ?_
            simp -implicitDefEqProofs
            refine ⟨_, c2, ?_⟩
            rintro v Kx ⟨rfl, rfl⟩
            refine ⟨hc3, ?_⟩
            refine AWK.one 9 (by decide +kernel) ?_
            refine AWE.op rfl ?_
            simp -implicitDefEqProofs
            refine ⟨_, c3, ?_⟩
            rintro v Kx ⟨rfl, rfl⟩
            refine ⟨hc4, ?_⟩
            refine AWK.one 11 (by decide +kernel) ?_
            refine AWE.op rfl ?_
            simp -implicitDefEqProofs
            refine ⟨_, c4, ?_⟩
            rintro v Kx ⟨rfl, rfl⟩
            refine ⟨hc5, ?_⟩
            refine AWK.one 13 (by decide +kernel) ?_
            refine AWE.op rfl ?_
            simp -implicitDefEqProofs
            refine ⟨_, c5, ?_⟩
            rintro v Kx ⟨rfl, rfl⟩
            refine ⟨hc6, ?_⟩
            refine AWK.one 15 (by decide +kernel) ?_
            refine AWE.op rfl ?_
            simp -implicitDefEqProofs
            refine ⟨_, c6, ?_⟩
            rintro v Kx ⟨rfl, rfl⟩
            refine ⟨hc7, ?_⟩
            refine AWK.one 16 (by decide +kernel) ?_
            refine AWE.op rfl ?_
            simp -implicitDefEqProofs
            refine AWK.one 17 (by decide +kernel) ?_
            refine AWE.op rfl ?_
            simp -implicitDefEqProofs
            refine AWK.one 18 (by decide +kernel) ?_
            refine AWE.op rfl ?_
            simp -implicitDefEqProofs
            refine AWS.grows0 el_41 hg hl hzx hzy (by rw [hll]; simp only [List.length_cons, List.length_nil]; omega) (by rw [hll]; simp only [List.length_cons, List.length_nil, maxLen]; omega) fun t' K' Hn hg' hl' _ => ?_
            obtain ⟨hpj2, hBn, Pn⟩ := hst t' K' Hn hg' hl'
            have Pn2 := Pn (fun t => ptC ⟨mj, r3.1, M2, [], unzig r1.1, r2.1⟩ tj t .nil)
            rw [ejl] at Pn2
            rw [ej]
            refine AWK.one 19 (by decide +kernel) ?_
            refine AWE.op rfl ?_
            simp -implicitDefEqProofs [q9]
            refine AWK.one 20 (by decide +kernel) ?_
            refine AWE.op rfl ?_
            simp -implicitDefEqProofs [hpj2]
            refine AWS.store hpj2 (HLe.hc Pn2.row.le) ?_
            refine AWK.fin (by decide +kernel) ?_
            simp -implicitDefEqProofs [qc, hw1]
            exact AGo.again ih (m' := n2.1 - (i + 1)) (by omega) (HLe.refl _) ⟨i + 1, f6.2, L ++ [[f0.1, f1.1, f2.1, f3.1, f4.1, f5.1, f6.1]], M2, t', rfl, by omega, by rw [List.map_append, hM, ← hM2]; rfl, hnext, by simp [hLl], by simp, by simp [ql], by simp [q1], by simp [q2], by simp [q4], by simp [q5], by simp [q6], by simp [q7], by simp [q8], by simp [q9], Pn2⟩
          · skip
            refine AWE.op rfl ?_
            simp -implicitDefEqProofs
            refine ⟨_, c2, ?_⟩
            rintro v Kx ⟨rfl, rfl⟩
            refine ⟨hc3, ?_⟩
            refine AWK.two 1 9 (by decide +kernel) ?_ ?_
            · skip
              refine AWE.op rfl ?_
              simp -implicitDefEqProofs [V3.cell]
              refine AWK.one 9 (by decide +kernel) ?_
              refine AWE.op rfl ?_
              simp -implicitDefEqProofs
              refine ⟨_, c3, ?_⟩
              rintro v Kx ⟨rfl, rfl⟩
              refine ⟨hc4, ?_⟩
              refine AWK.one 11 (by decide +kernel) ?_
              refine AWE.op rfl ?_
              simp -implicitDefEqProofs
              refine ⟨_, c4, ?_⟩
              rintro v Kx ⟨rfl, rfl⟩
              refine ⟨hc5, ?_⟩
              refine AWK.one 13 (by decide +kernel) ?_
              refine AWE.op rfl ?_
              simp -implicitDefEqProofs
              refine ⟨_, c5, ?_⟩
              rintro v Kx ⟨rfl, rfl⟩
              refine ⟨hc6, ?_⟩
              refine AWK.one 15 (by decide +kernel) ?_
              refine AWE.op rfl ?_
              simp -implicitDefEqProofs
              refine ⟨_, c6, ?_⟩
              rintro v Kx ⟨rfl, rfl⟩
              refine ⟨hc7, ?_⟩
              refine AWK.one 16 (by decide +kernel) ?_
              refine AWE.op rfl ?_
              simp -implicitDefEqProofs
              refine AWK.one 17 (by decide +kernel) ?_
              refine AWE.op rfl ?_
              simp -implicitDefEqProofs
              refine AWK.one 18 (by decide +kernel) ?_
              refine AWE.op rfl ?_
              simp -implicitDefEqProofs
              refine AWS.grows0 el_41 hg hl hzx hzy (by rw [hll]; simp only [List.length_cons, List.length_nil]; omega) (by rw [hll]; simp only [List.length_cons, List.length_nil, maxLen]; omega) fun t' K' Hn hg' hl' _ => ?_
              obtain ⟨hpj2, hBn, Pn⟩ := hst t' K' Hn hg' hl'
              have Pn2 := Pn (fun t => ptC ⟨mj, r3.1, M2, [], unzig r1.1, r2.1⟩ tj t .nil)
              rw [ejl] at Pn2
              rw [ej]
              refine AWK.one 19 (by decide +kernel) ?_
              refine AWE.op rfl ?_
              simp -implicitDefEqProofs [q9]
              refine AWK.one 20 (by decide +kernel) ?_
              refine AWE.op rfl ?_
              simp -implicitDefEqProofs [hpj2]
              refine AWS.store hpj2 (HLe.hc Pn2.row.le) ?_
              refine AWK.fin (by decide +kernel) ?_
              simp -implicitDefEqProofs [qc, hw1]
              exact AGo.again ih (m' := n2.1 - (i + 1)) (by omega) (HLe.refl _) ⟨i + 1, f6.2, L ++ [[f0.1, f1.1, f2.1, f3.1, f4.1, f5.1, f6.1]], M2, t', rfl, by omega, by rw [List.map_append, hM, ← hM2]; rfl, hnext, by simp [hLl], by simp, by simp [ql], by simp [q1], by simp [q2], by simp [q4], by simp [q5], by simp [q6], by simp [q7], by simp [q8], by simp [q9], Pn2⟩
            · skip
              refine AWE.op rfl ?_
              simp -implicitDefEqProofs
              refine ⟨_, c3, ?_⟩
              rintro v Kx ⟨rfl, rfl⟩
              refine ⟨hc4, ?_⟩
              refine AWK.two 1 11 (by decide +kernel) ?_ ?_
              · skip
                refine AWE.op rfl ?_
                simp -implicitDefEqProofs [V4.cell]
                refine AWK.one 11 (by decide +kernel) ?_
                refine AWE.op rfl ?_
                simp -implicitDefEqProofs
                refine ⟨_, c4, ?_⟩
                rintro v Kx ⟨rfl, rfl⟩
                refine ⟨hc5, ?_⟩
                refine AWK.one 13 (by decide +kernel) ?_
                refine AWE.op rfl ?_
                simp -implicitDefEqProofs
                refine ⟨_, c5, ?_⟩
                rintro v Kx ⟨rfl, rfl⟩
                refine ⟨hc6, ?_⟩
                refine AWK.one 15 (by decide +kernel) ?_
                refine AWE.op rfl ?_
                simp -implicitDefEqProofs
                refine ⟨_, c6, ?_⟩
                rintro v Kx ⟨rfl, rfl⟩
                refine ⟨hc7, ?_⟩
                refine AWK.one 16 (by decide +kernel) ?_
                refine AWE.op rfl ?_
                simp -implicitDefEqProofs
                refine AWK.one 17 (by decide +kernel) ?_
                refine AWE.op rfl ?_
                simp -implicitDefEqProofs
                refine AWK.one 18 (by decide +kernel) ?_
                refine AWE.op rfl ?_
                simp -implicitDefEqProofs
                refine AWS.grows0 el_41 hg hl hzx hzy (by rw [hll]; simp only [List.length_cons, List.length_nil]; omega) (by rw [hll]; simp only [List.length_cons, List.length_nil, maxLen]; omega) fun t' K' Hn hg' hl' _ => ?_
                obtain ⟨hpj2, hBn, Pn⟩ := hst t' K' Hn hg' hl'
                have Pn2 := Pn (fun t => ptC ⟨mj, r3.1, M2, [], unzig r1.1, r2.1⟩ tj t .nil)
                rw [ejl] at Pn2
                rw [ej]
                refine AWK.one 19 (by decide +kernel) ?_
                refine AWE.op rfl ?_
                simp -implicitDefEqProofs [q9]
                refine AWK.one 20 (by decide +kernel) ?_
                refine AWE.op rfl ?_
                simp -implicitDefEqProofs [hpj2]
                refine AWS.store hpj2 (HLe.hc Pn2.row.le) ?_
                refine AWK.fin (by decide +kernel) ?_
                simp -implicitDefEqProofs [qc, hw1]
                exact AGo.again ih (m' := n2.1 - (i + 1)) (by omega) (HLe.refl _) ⟨i + 1, f6.2, L ++ [[f0.1, f1.1, f2.1, f3.1, f4.1, f5.1, f6.1]], M2, t', rfl, by omega, by rw [List.map_append, hM, ← hM2]; rfl, hnext, by simp [hLl], by simp, by simp [ql], by simp [q1], by simp [q2], by simp [q4], by simp [q5], by simp [q6], by simp [q7], by simp [q8], by simp [q9], Pn2⟩
              · skip
                refine AWE.op rfl ?_
                simp -implicitDefEqProofs
                refine ⟨_, c4, ?_⟩
                rintro v Kx ⟨rfl, rfl⟩
                refine ⟨hc5, ?_⟩
                refine AWK.two 1 13 (by decide +kernel) ?_ ?_
                · skip
                  refine AWE.op rfl ?_
                  simp -implicitDefEqProofs [V5.cell]
                  refine AWK.one 13 (by decide +kernel) ?_
                  refine AWE.op rfl ?_
                  simp -implicitDefEqProofs
                  refine ⟨_, c5, ?_⟩
                  rintro v Kx ⟨rfl, rfl⟩
                  refine ⟨hc6, ?_⟩
                  refine AWK.one 15 (by decide +kernel) ?_
                  refine AWE.op rfl ?_
                  simp -implicitDefEqProofs
                  refine ⟨_, c6, ?_⟩
                  rintro v Kx ⟨rfl, rfl⟩
                  refine ⟨hc7, ?_⟩
                  refine AWK.one 16 (by decide +kernel) ?_
                  refine AWE.op rfl ?_
                  simp -implicitDefEqProofs
                  refine AWK.one 17 (by decide +kernel) ?_
                  refine AWE.op rfl ?_
                  simp -implicitDefEqProofs
                  refine AWK.one 18 (by decide +kernel) ?_
                  refine AWE.op rfl ?_
                  simp -implicitDefEqProofs
                  refine AWS.grows0 el_41 hg hl hzx hzy (by rw [hll]; simp only [List.length_cons, List.length_nil]; omega) (by rw [hll]; simp only [List.length_cons, List.length_nil, maxLen]; omega) fun t' K' Hn hg' hl' _ => ?_
                  obtain ⟨hpj2, hBn, Pn⟩ := hst t' K' Hn hg' hl'
                  have Pn2 := Pn (fun t => ptC ⟨mj, r3.1, M2, [], unzig r1.1, r2.1⟩ tj t .nil)
                  rw [ejl] at Pn2
                  rw [ej]
                  refine AWK.one 19 (by decide +kernel) ?_
                  refine AWE.op rfl ?_
                  simp -implicitDefEqProofs [q9]
                  refine AWK.one 20 (by decide +kernel) ?_
                  refine AWE.op rfl ?_
                  simp -implicitDefEqProofs [hpj2]
                  refine AWS.store hpj2 (HLe.hc Pn2.row.le) ?_
                  refine AWK.fin (by decide +kernel) ?_
                  simp -implicitDefEqProofs [qc, hw1]
                  exact AGo.again ih (m' := n2.1 - (i + 1)) (by omega) (HLe.refl _) ⟨i + 1, f6.2, L ++ [[f0.1, f1.1, f2.1, f3.1, f4.1, f5.1, f6.1]], M2, t', rfl, by omega, by rw [List.map_append, hM, ← hM2]; rfl, hnext, by simp [hLl], by simp, by simp [ql], by simp [q1], by simp [q2], by simp [q4], by simp [q5], by simp [q6], by simp [q7], by simp [q8], by simp [q9], Pn2⟩
                · skip
                  refine AWE.op rfl ?_
                  simp -implicitDefEqProofs
                  refine ⟨_, c5, ?_⟩
                  rintro v Kx ⟨rfl, rfl⟩
                  refine ⟨hc6, ?_⟩
                  refine AWK.two 1 15 (by decide +kernel) ?_ ?_
                  · skip
                    refine AWE.op rfl ?_
                    simp -implicitDefEqProofs [V6.cell]
                    refine AWK.one 15 (by decide +kernel) ?_
                    refine AWE.op rfl ?_
                    simp -implicitDefEqProofs
                    refine ⟨_, c6, ?_⟩
                    rintro v Kx ⟨rfl, rfl⟩
                    refine ⟨hc7, ?_⟩
                    refine AWK.one 16 (by decide +kernel) ?_
                    refine AWE.op rfl ?_
                    simp -implicitDefEqProofs
                    refine AWK.one 17 (by decide +kernel) ?_
                    refine AWE.op rfl ?_
                    simp -implicitDefEqProofs
                    refine AWK.one 18 (by decide +kernel) ?_
                    refine AWE.op rfl ?_
                    simp -implicitDefEqProofs
                    refine AWS.grows0 el_41 hg hl hzx hzy (by rw [hll]; simp only [List.length_cons, List.length_nil]; omega) (by rw [hll]; simp only [List.length_cons, List.length_nil, maxLen]; omega) fun t' K' Hn hg' hl' _ => ?_
                    obtain ⟨hpj2, hBn, Pn⟩ := hst t' K' Hn hg' hl'
                    have Pn2 := Pn (fun t => ptC ⟨mj, r3.1, M2, [], unzig r1.1, r2.1⟩ tj t .nil)
                    rw [ejl] at Pn2
                    rw [ej]
                    refine AWK.one 19 (by decide +kernel) ?_
                    refine AWE.op rfl ?_
                    simp -implicitDefEqProofs [q9]
                    refine AWK.one 20 (by decide +kernel) ?_
                    refine AWE.op rfl ?_
                    simp -implicitDefEqProofs [hpj2]
                    refine AWS.store hpj2 (HLe.hc Pn2.row.le) ?_
                    refine AWK.fin (by decide +kernel) ?_
                    simp -implicitDefEqProofs [qc, hw1]
                    exact AGo.again ih (m' := n2.1 - (i + 1)) (by omega) (HLe.refl _) ⟨i + 1, f6.2, L ++ [[f0.1, f1.1, f2.1, f3.1, f4.1, f5.1, f6.1]], M2, t', rfl, by omega, by rw [List.map_append, hM, ← hM2]; rfl, hnext, by simp [hLl], by simp, by simp [ql], by simp [q1], by simp [q2], by simp [q4], by simp [q5], by simp [q6], by simp [q7], by simp [q8], by simp [q9], Pn2⟩
                  · skip
                    refine AWE.op rfl ?_
                    simp -implicitDefEqProofs
                    refine ⟨_, c6, ?_⟩
                    rintro v Kx ⟨rfl, rfl⟩
                    refine ⟨hc7, ?_⟩
                    refine AWK.two 1 16 (by decide +kernel) ?_ ?_
                    · skip
                      refine AWE.op rfl ?_
                      simp -implicitDefEqProofs [V7.cell]
                      refine AWK.one 16 (by decide +kernel) ?_
                      refine AWE.op rfl ?_
                      simp -implicitDefEqProofs
                      refine AWK.one 17 (by decide +kernel) ?_
                      refine AWE.op rfl ?_
                      simp -implicitDefEqProofs
                      refine AWK.one 18 (by decide +kernel) ?_
                      refine AWE.op rfl ?_
                      simp -implicitDefEqProofs
                      refine AWS.grows0 el_41 hg hl hzx hzy (by rw [hll]; simp only [List.length_cons, List.length_nil]; omega) (by rw [hll]; simp only [List.length_cons, List.length_nil, maxLen]; omega) fun t' K' Hn hg' hl' _ => ?_
                      obtain ⟨hpj2, hBn, Pn⟩ := hst t' K' Hn hg' hl'
                      have Pn2 := Pn (fun t => ptC ⟨mj, r3.1, M2, [], unzig r1.1, r2.1⟩ tj t .nil)
                      rw [ejl] at Pn2
                      rw [ej]
                      refine AWK.one 19 (by decide +kernel) ?_
                      refine AWE.op rfl ?_
                      simp -implicitDefEqProofs [q9]
                      refine AWK.one 20 (by decide +kernel) ?_
                      refine AWE.op rfl ?_
                      simp -implicitDefEqProofs [hpj2]
                      refine AWS.store hpj2 (HLe.hc Pn2.row.le) ?_
                      refine AWK.fin (by decide +kernel) ?_
                      simp -implicitDefEqProofs [qc, hw1]
                      exact AGo.again ih (m' := n2.1 - (i + 1)) (by omega) (HLe.refl _) ⟨i + 1, f6.2, L ++ [[f0.1, f1.1, f2.1, f3.1, f4.1, f5.1, f6.1]], M2, t', rfl, by omega, by rw [List.map_append, hM, ← hM2]; rfl, hnext, by simp [hLl], by simp, by simp [ql], by simp [q1], by simp [q2], by simp [q4], by simp [q5], by simp [q6], by simp [q7], by simp [q8], by simp [q9], Pn2⟩
                    · refine AWE.op rfl ?_
                      simp -implicitDefEqProofs
                      refine AWK.two 1 17 (by decide +kernel) ?_ ?_
                      · skip
                        refine AWE.op rfl ?_
                        simp -implicitDefEqProofs [V7.cell]
                        refine AWK.one 17 (by decide +kernel) ?_
                        refine AWE.op rfl ?_
                        simp -implicitDefEqProofs
                        refine AWK.one 18 (by decide +kernel) ?_
                        refine AWE.op rfl ?_
                        simp -implicitDefEqProofs
                        refine AWS.grows0 el_41 hg hl hzx hzy (by rw [hll]; simp only [List.length_cons, List.length_nil]; omega) (by rw [hll]; simp only [List.length_cons, List.length_nil, maxLen]; omega) fun t' K' Hn hg' hl' _ => ?_
                        obtain ⟨hpj2, hBn, Pn⟩ := hst t' K' Hn hg' hl'
                        have Pn2 := Pn (fun t => ptC ⟨mj, r3.1, M2, [], unzig r1.1, r2.1⟩ tj t .nil)
                        rw [ejl] at Pn2
                        rw [ej]
                        refine AWK.one 19 (by decide +kernel) ?_
                        refine AWE.op rfl ?_
                        simp -implicitDefEqProofs [q9]
                        refine AWK.one 20 (by decide +kernel) ?_
                        refine AWE.op rfl ?_
                        simp -implicitDefEqProofs [hpj2]
                        refine AWS.store hpj2 (HLe.hc Pn2.row.le) ?_
                        refine AWK.fin (by decide +kernel) ?_
                        simp -implicitDefEqProofs [qc, hw1]
                        exact AGo.again ih (m' := n2.1 - (i + 1)) (by omega) (HLe.refl _) ⟨i + 1, f6.2, L ++ [[f0.1, f1.1, f2.1, f3.1, f4.1, f5.1, f6.1]], M2, t', rfl, by omega, by rw [List.map_append, hM, ← hM2]; rfl, hnext, by simp [hLl], by simp, by simp [ql], by simp [q1], by simp [q2], by simp [q4], by simp [q5], by simp [q6], by simp [q7], by simp [q8], by simp [q9], Pn2⟩
                      · skip
                        refine AWE.op rfl ?_
                        simp -implicitDefEqProofs
                        refine AWK.one 1 (by decide +kernel) ?_
                        refine AWE.op rfl ?_
                        simp -implicitDefEqProofs [V7.cell]
                        refine AWK.one 18 (by decide +kernel) ?_
                        refine AWE.op rfl ?_
                        simp -implicitDefEqProofs
                        refine AWS.grows0 el_41 hg hl hzx hzy (by rw [hll]; simp only [List.length_cons, List.length_nil]; omega) (by rw [hll]; simp only [List.length_cons, List.length_nil, maxLen]; omega) fun t' K' Hn hg' hl' _ => ?_
                        obtain ⟨hpj2, hBn, Pn⟩ := hst t' K' Hn hg' hl'
                        have Pn2 := Pn (fun t => ptC ⟨mj, r3.1, M2, [], unzig r1.1, r2.1⟩ tj t .nil)
                        rw [ejl] at Pn2
                        rw [ej]
                        refine AWK.one 19 (by decide +kernel) ?_
                        refine AWE.op rfl ?_
                        simp -implicitDefEqProofs [q9]
                        refine AWK.one 20 (by decide +kernel) ?_
                        refine AWE.op rfl ?_
                        simp -implicitDefEqProofs [hpj2]
                        refine AWS.store hpj2 (HLe.hc Pn2.row.le) ?_
                        refine AWK.fin (by decide +kernel) ?_
                        simp -implicitDefEqProofs [qc, hw1]
                        exact AGo.again ih (m' := n2.1 - (i + 1)) (by omega) (HLe.refl _) ⟨i + 1, f6.2, L ++ [[f0.1, f1.1, f2.1, f3.1, f4.1, f5.1, f6.1]], M2, t', rfl, by omega, by rw [List.map_append, hM, ← hM2]; rfl, hnext, by simp [hLl], by simp, by simp [ql], by simp [q1], by simp [q2], by simp [q4], by simp [q5], by simp [q6], by simp [q7], by simp [q8], by simp [q9], Pn2⟩
    · have hn : ¬ (i : Int) < (n2.1 : Int) := by omega
      have hu : n2.1 - i = 0 := by omega
      rw [hu] at hd
      simp only [rowsC, List.append_nil] at hd
      simp -implicitDefEqProofs [qc, ql, q1, q2, q4, q5, q6, q7, q8, q9, hn]
      subst hd
      exact hk _ _ ⟨M, t0, hM, by simp [q1], by simp [q2], by simp [q4], by simp [q5], by simp [q6], by simp [q7], by simp [q8], by simp [q9], V0⟩
  clear V0 V1 q1 q2 q4 q5 q6 q7 q8 q9
  rintro ρ K0 ⟨mf, tfs, hmf, q1, q2, q4, q5, q6, q7, q8, q9, VJ⟩
  have V0 : VInv 4 104 B b t pb pa pd p6 p9 0 (fun t => ptC ⟨mj, r3.1, mf, [], unzig r1.1, r2.1⟩ tj tfs t) fs.2 .nil K0 := VJ.next rfl
  clear VJ
  simp -implicitDefEqProofs [q1, q2, q4, q5, q6, q7, q8, q9]
  refine ACall.eq (vma 64 V0) ?_
  obtain ⟨n3, hn3⟩ : ∃ r, manyC b 64 fs.2 = r := ⟨_, rfl⟩
  have hl1 := manyC_le b 64 fs.2 V0.le
  rw [hn3] at hl1
  have V1 := V0.upd (s' := n3.2) hl1.1
  rw [hn3]
  generalize upd3 pa pd n3.2 K0 = K1 at *
  simp -implicitDefEqProofs [q1, q2, q4, q5, q6, q7, q8, q9]
  obtain ⟨ts, hts⟩ : ∃ r, rowsC b 4 n3.1 n3.2 = r := ⟨_, rfl⟩
  refine AGo.joinLoop (fun ρ K => ∃ M t0, ts.1.map tlOf = M ∧ ρ 1 = .sc (.pointer (some ⟨pb, 0, none⟩)) ∧ ρ 2 = .sc (.pointer (some ⟨pr, 0, none⟩)) ∧ ρ 4 = .sc (.pointer (some ⟨pa, 0, none⟩)) ∧ ρ 5 = .sc (.pointer (some ⟨pd, 0, none⟩)) ∧ ρ 6 = .sc (.pointer (some ⟨p6, 0, none⟩)) ∧ ρ 7 = .sc (.func (.func 68) #[] #[.pointer (some ⟨pb, 0, none⟩), .pointer (some ⟨pa, 0, none⟩), .pointer (some ⟨pd, 0, none⟩)]) ∧ ρ 8 = .sc (.func (.func 70) #[] #[.pointer (some ⟨p6, 0, none⟩), .pointer (some ⟨pd, 0, none⟩)]) ∧ ρ 9 = .sc (.pointer (some ⟨p9, 0, none⟩)) ∧ VInv 4 104 B b t pb pa pd p6 p9 (tlsAV (M)).length (fun t => ptC ⟨mj, r3.1, mf, M, unzig r1.1, r2.1⟩ tj tfs t) ts.2 t0 K) (fun k' hk => ?_) ?_
  · refine AGo.rounds (fun m ρ K => ∃ i s' L M t0, m = n3.1 - i ∧ i ≤ n3.1 ∧ L.map tlOf = M ∧ ts = (L ++ (rowsC b 4 (n3.1 - i) s').1, (rowsC b 4 (n3.1 - i) s').2) ∧ L.length = i ∧ ρ 75 = .sc (.int .u64 (i : Int)) ∧ ρ 74 = .sc (.int .u64 (n3.1 : Int)) ∧ ρ 1 = .sc (.pointer (some ⟨pb, 0, none⟩)) ∧ ρ 2 = .sc (.pointer (some ⟨pr, 0, none⟩)) ∧ ρ 4 = .sc (.pointer (some ⟨pa, 0, none⟩)) ∧ ρ 5 = .sc (.pointer (some ⟨pd, 0, none⟩)) ∧ ρ 6 = .sc (.pointer (some ⟨p6, 0, none⟩)) ∧ ρ 7 = .sc (.func (.func 68) #[] #[.pointer (some ⟨pb, 0, none⟩), .pointer (some ⟨pa, 0, none⟩), .pointer (some ⟨pd, 0, none⟩)]) ∧ ρ 8 = .sc (.func (.func 70) #[] #[.pointer (some ⟨p6, 0, none⟩), .pointer (some ⟨pd, 0, none⟩)]) ∧ ρ 9 = .sc (.pointer (some ⟨p9, 0, none⟩)) ∧
      VInv 4 104 B b t pb pa pd p6 p9 (tlsAV (M)).length (fun t => ptC ⟨mj, r3.1, mf, M, unzig r1.1, r2.1⟩ tj tfs t) s' t0 K) ?_ (m := n3.1) (HLe.refl _)
      ⟨0, n3.2, [], [], .nil, rfl, by omega, rfl, by simp [hts], rfl, by simp, by simp, by simp [q1], by simp [q2], by simp [q4], by simp [q5], by simp [q6], by simp [q7], by simp [q8], by simp [q9], V1⟩
    clear V0 V1 q1 q2 q4 q5 q6 q7 q8 q9
    rintro m ρ K ih ⟨i, s', L, M, t0, rfl, hi, hM, hd, hLl, qc, ql, q1, q2, q4, q5, q6, q7, q8, q9, V0⟩
    by_cases hlt : i < n3.1
    · have hlt' : (i : Int) < (n3.1 : Int) := by omega
      have hw1 : IntKind.u64.wrap ((i : Int) + 1) = (i : Int) + 1 := wrap_u64 (by omega) (by omega)
      have c0 := vnu V0
      obtain ⟨f0, hf0⟩ : ∃ r, numC b 18446744073709551615 s' = r := ⟨_, rfl⟩
      have V1 := V0.upd (s' := f0.2) (by rw [← hf0]; exact numC_le b _ _ V0.le)
      rw [hf0] at c0
      generalize upd3 pa pd f0.2 K = Kf1 at c0 V1
      have hc1 := HLe.hc V1.row.le
      have c1 := vnu V1
      obtain ⟨f1, hf1⟩ : ∃ r, numC b 18446744073709551615 f0.2 = r := ⟨_, rfl⟩
      have V2 := V1.upd (s' := f1.2) (by rw [← hf1]; exact numC_le b _ _ V1.le)
      rw [hf1] at c1
      generalize upd3 pa pd f1.2 Kf1 = Kf2 at c1 V2
      have hc2 := HLe.hc V2.row.le
      have c2 := vwh V2
      obtain ⟨f2, hf2⟩ : ∃ r, numC b 18446744073709551615 f1.2 = r := ⟨_, rfl⟩
      have V3 := V2.upd (s' := f2.2) (by rw [← hf2]; exact numC_le b _ _ V2.le)
      rw [hf2] at c2
      generalize upd3 pa pd f2.2 Kf2 = Kf3 at c2 V3
      have hc3 := HLe.hc V3.row.le
      have c3 := vnu V3
      obtain ⟨f3, hf3⟩ : ∃ r, numC b 18446744073709551615 f2.2 = r := ⟨_, rfl⟩
      have V4 := V3.upd (s' := f3.2) (by rw [← hf3]; exact numC_le b _ _ V3.le)
      rw [hf3] at c3
      generalize upd3 pa pd f3.2 Kf3 = Kf4 at c3 V4
      have hc4 := HLe.hc V4.row.le
      have hdw : rowC b 4 s' = ([f0.1, f1.1, f2.1, f3.1], f3.2) := by simp only [rowC, any64, hf0, hf1, hf2, hf3]
      have hnext : ts = (L ++ [[f0.1, f1.1, f2.1, f3.1]] ++ (rowsC b 4 (n3.1 - (i + 1)) f3.2).1, (rowsC b 4 (n3.1 - (i + 1)) f3.2).2) := by
        rw [hd, show n3.1 - i = (n3.1 - (i + 1)) + 1 by omega, rowsC, hdw]
        simp
      have hll : (tlsAV (M)).length = i := by rw [List.length_map, ← hM, List.length_map]; exact hLl
      obtain ⟨M2, hM2⟩ : ∃ M2, M ++ [tlOf [f0.1, f1.1, f2.1, f3.1]] = M2 := ⟨_, rfl⟩
      obtain ⟨G0, G, hg, hl, hst⟩ := V4.app (fun t h => pt3_inj h) (.agg (tlC ⟨f0.1, f1.1, (unzig f2.1), f3.1⟩))
      have hzx := szs_tls M
      have hzy : szs 4 [.agg (tlC ⟨f0.1, f1.1, (unzig f2.1), f3.1⟩)] = true := by simp [szs, AV.cells]
      have ej : tlsAV (M) ++ [(.agg (tlC ⟨f0.1, f1.1, (unzig f2.1), f3.1⟩) : AV)] = tlsAV (M2) := by rw [← hM2]; simp only [frsAV, tlsAV, List.map_append]; rfl
      have ejl : (tlsAV (M) ++ [(.agg (tlC ⟨f0.1, f1.1, (unzig f2.1), f3.1⟩) : AV)]).length = (tlsAV (M2)).length := by rw [ej]
      simp -implicitDefEqProofs [qc, ql, q1, q2, q4, q5, q6, q7, q8, q9, hlt, hlt']
      refine go_draw3 [0, 2, 4, 6, 8] B f_mixed (by decide +kernel) (HLe.hc V0.row.le) ?_
      simp -implicitDefEqProofs
      refine aq3_op ?_
      simp -implicitDefEqProofs [q1, q2, q4, q5, q6, q7, q8, q9, B6, tag_fn, size_fn]
      refine aq3_op ?_
      simp -implicitDefEqProofs [q1, q2, q4, q5, q6, q7, q8, q9, B6, tag_fn, size_fn]
      refine aq3_op ?_
      simp -implicitDefEqProofs [q1, q2, q4, q5, q6, q7, q8, q9, B6, tag_fn, size_fn]
      refine aq3_op ?_
      simp -implicitDefEqProofs [q1, q2, q4, q5, q6, q7, q8, q9, B6, tag_fn, size_fn]
      refine aq3_op ?_
      simp -implicitDefEqProofs [q1, q2, q4, q5, q6, q7, q8, q9, B6, tag_fn, size_fn]
      refine AWK.two 1 3 (by decide +kernel) ?_ ?_
      · skip
        refine AWE.op rfl ?_
        simp -implicitDefEqProofs [V0.cell]
        refine AWK.one 3 (by decide +kernel) ?_
        refine AWE.op rfl ?_
        simp -implicitDefEqProofs
        refine ⟨_, c0, ?_⟩
        rintro v Kx ⟨rfl, rfl⟩
        refine ⟨hc1, ?_⟩
        refine AWK.one 5 (by decide +kernel) ?_
        refine AWE.op rfl ?_
        simp -implicitDefEqProofs
        refine ⟨_, c1, ?_⟩
        rintro v Kx ⟨rfl, rfl⟩
        refine ⟨hc2, ?_⟩
        refine AWK.one 7 (by decide +kernel) ?_
        refine AWE.op rfl ?_
        simp -implicitDefEqProofs
        refine ⟨_, c2, ?_⟩
        rintro v Kx ⟨rfl, rfl⟩
        refine ⟨hc3, ?_⟩
        refine AWK.one 9 (by decide +kernel) ?_
        refine AWE.op rfl ?_
        simp -implicitDefEqProofs
        refine ⟨_, c3, ?_⟩
        rintro v Kx ⟨rfl, rfl⟩
        refine ⟨hc4, ?_⟩
        refine AWK.one 10 (by decide +kernel) ?_
        refine AWE.op rfl ?_
        simp -implicitDefEqProofs
        refine AWK.one 11 (by decide +kernel) ?_
        refine AWE.op rfl ?_
        simp -implicitDefEqProofs
        refine AWK.one 12 (by decide +kernel) ?_
        refine AWE.op rfl ?_
        simp -implicitDefEqProofs
        refine AWK.one 13 (by decide +kernel) ?_
        refine AWE.op rfl ?_
        simp -implicitDefEqProofs
        refine AWS.grows0 el_42 hg hl hzx hzy (by rw [hll]; simp only [List.length_cons, List.length_nil]; omega) (by rw [hll]; simp only [List.length_cons, List.length_nil, maxLen]; omega) fun t' K' Hn hg' hl' _ => ?_
        obtain ⟨hpj2, hBn, Pn⟩ := hst t' K' Hn hg' hl'
        have Pn2 := Pn (fun t => ptC ⟨mj, r3.1, mf, M2, unzig r1.1, r2.1⟩ tj tfs t)
        rw [ejl] at Pn2
        rw [ej]
        refine AWK.one 14 (by decide +kernel) ?_
        refine AWE.op rfl ?_
        simp -implicitDefEqProofs [q9]
        refine AWK.one 15 (by decide +kernel) ?_
        refine AWE.op rfl ?_
        simp -implicitDefEqProofs [hpj2]
        refine AWS.store hpj2 (HLe.hc Pn2.row.le) ?_
        refine AWK.fin (by decide +kernel) ?_
        simp -implicitDefEqProofs [qc, hw1]
        exact AGo.again ih (m' := n3.1 - (i + 1)) (by omega) (HLe.refl _) ⟨i + 1, f3.2, L ++ [[f0.1, f1.1, f2.1, f3.1]], M2, t', rfl, by omega, by rw [List.map_append, hM, ← hM2]; rfl, hnext, by simp [hLl], by simp, by simp [ql], by simp [q1], by simp [q2], by simp [q4], by simp [q5], by simp [q6], by simp [q7], by simp [q8], by simp [q9], Pn2⟩
      · skip
        refine AWE.op rfl ?_
        simp -implicitDefEqProofs
        refine ⟨_, c0, ?_⟩
        rintro v Kx ⟨rfl, rfl⟩
        refine ⟨hc1, ?_⟩
        refine AWK.two 1 5 (by decide +kernel) ?_ ?_
        · skip
          refine AWE.op rfl ?_
          simp -implicitDefEqProofs [V1.cell]
          refine AWK.one 5 (by decide +kernel) ?_
          refine AWE.op rfl ?_
          simp -implicitDefEqProofs
          refine ⟨_, c1, ?_⟩
          rintro v Kx ⟨rfl, rfl⟩
          refine ⟨hc2, ?_⟩
          refine AWK.one 7 (by decide +kernel) ?_
          refine AWE.op rfl ?_
          simp -implicitDefEqProofs
          refine ⟨_, c2, ?_⟩
          rintro v Kx ⟨rfl, rfl⟩
          refine ⟨hc3, ?_⟩
          refine AWK.one 9 (by decide +kernel) ?_
          refine AWE.op rfl ?_
          simp -implicitDefEqProofs
          refine ⟨_, c3, ?_⟩
          rintro v Kx ⟨rfl, rfl⟩
          refine ⟨hc4, ?_⟩
          refine AWK.one 10 (by decide +kernel) ?_
          refine AWE.op rfl ?_
          simp -implicitDefEqProofs
          refine AWK.one 11 (by decide +kernel) ?_
          refine AWE.op rfl ?_
          simp -implicitDefEqProofs
          refine AWK.one 12 (by decide +kernel) ?_
          refine AWE.op rfl ?_
          simp -implicitDefEqProofs
          refine AWK.one 13 (by decide +kernel) ?_
          refine AWE.op rfl ?_
          simp -implicitDefEqProofs
          refine AWS.grows0 el_42 hg hl hzx hzy (by rw [hll]; simp only [List.length_cons, List.length_nil]; omega) (by rw [hll]; simp only [List.length_cons, List.length_nil, maxLen]; omega) fun t' K' Hn hg' hl' _ => ?_
          obtain ⟨hpj2, hBn, Pn⟩ := hst t' K' Hn hg' hl'
          have Pn2 := Pn (fun t => ptC ⟨mj, r3.1, mf, M2, unzig r1.1, r2.1⟩ tj tfs t)
          rw [ejl] at Pn2
          rw [ej]
          refine AWK.one 14 (by decide +kernel) ?_
          refine AWE.op rfl ?_
          simp -implicitDefEqProofs [q9]
          refine AWK.one 15 (by decide +kernel) ?_
          refine AWE.op rfl ?_
          simp -implicitDefEqProofs [hpj2]
          refine AWS.store hpj2 (HLe.hc Pn2.row.le) ?_
          refine AWK.fin (by decide +kernel) ?_
          simp -implicitDefEqProofs [qc, hw1]
          exact AGo.again ih (m' := n3.1 - (i + 1)) (by omega) (HLe.refl _) ⟨i + 1, f3.2, L ++ [[f0.1, f1.1, f2.1, f3.1]], M2, t', rfl, by omega, by rw [List.map_append, hM, ← hM2]; rfl, hnext, by simp [hLl], by simp, by simp [ql], by simp [q1], by simp [q2], by simp [q4], by simp [q5], by simp [q6], by simp [q7], by simp [q8], by simp [q9], Pn2⟩
        · skip
          refine AWE.op rfl ?_
          simp -implicitDefEqProofs
          refine ⟨_, c1, ?_⟩
          rintro v Kx ⟨rfl, rfl⟩
          refine ⟨hc2, ?_⟩
          refine AWK.two 1 7 (by decide +kernel) ?_ ?_
          · skip
            refine AWE.op rfl ?_
            simp -implicitDefEqProofs [V2.cell]
            refine AWK.one 7 (by decide +kernel) ?_
            refine AWE.op rfl ?_
            simp -implicitDefEqProofs
            refine ⟨_, c2, ?_⟩
            rintro v Kx ⟨rfl, rfl⟩
            refine ⟨hc3, ?_⟩
            refine AWK.one 9 (by decide +kernel) ?_
            refine AWE.op rfl ?_
            simp -implicitDefEqProofs
            refine ⟨_, c3, ?_⟩
            rintro v Kx ⟨rfl, rfl⟩
            refine ⟨hc4, ?_⟩
            refine AWK.one 10 (by decide +kernel) ?_
            refine AWE.op rfl ?_
            simp -implicitDefEqProofs
            refine AWK.one 11 (by decide +kernel) ?_
            refine AWE.op rfl ?_
            simp -implicitDefEqProofs
            refine AWK.one 12 (by decide +kernel) ?_
            refine AWE.op rfl ?_
            simp -implicitDefEqProofs
            refine AWK.one 13 (by decide +kernel) ?_
            refine AWE.op rfl ?_
            simp -implicitDefEqProofs
            refine AWS.grows0 el_42 hg hl hzx hzy (by rw [hll]; simp only [List.length_cons, List.length_nil]; omega) (by rw [hll]; simp only [List.length_cons, List.length_nil, maxLen]; omega) fun t' K' Hn hg' hl' _ => ?_
            obtain ⟨hpj2, hBn, Pn⟩ := hst t' K' Hn hg' hl'
            have Pn2 := Pn (fun t => ptC ⟨mj, r3.1, mf, M2, unzig r1.1, r2.1⟩ tj tfs t)
            rw [ejl] at Pn2
            rw [ej]
            refine AWK.one 14 (by decide +kernel) ?_
            refine AWE.op rfl ?_
            simp -implicitDefEqProofs [q9]
            refine AWK.one 15 (by decide +kernel) ?_
            refine AWE.op rfl ?_
            simp -implicitDefEqProofs [hpj2]
            refine AWS.store hpj2 (HLe.hc Pn2.row.le) ?_
            refine AWK.fin (by decide +kernel) ?_
            simp -implicitDefEqProofs [qc, hw1]
            exact AGo.again ih (m' := n3.1 - (i + 1)) (by omega) (HLe.refl _) ⟨i + 1, f3.2, L ++ [[f0.1, f1.1, f2.1, f3.1]], M2, t', rfl, by omega, by rw [List.map_append, hM, ← hM2]; rfl, hnext, by simp [hLl], by simp, by simp [ql], by simp [q1], by simp [q2], by simp [q4], by simp [q5], by simp [q6], by simp [q7], by simp [q8], by simp [q9], Pn2⟩
          · skip
            refine AWE.op rfl ?_
            simp -implicitDefEqProofs
            refine ⟨_, c2, ?_⟩
            rintro v Kx ⟨rfl, rfl⟩
            refine ⟨hc3, ?_⟩
            refine AWK.two 1 9 (by decide +kernel) ?_ ?_
            · skip
              refine AWE.op rfl ?_
              simp -implicitDefEqProofs [V3.cell]
              refine AWK.one 9 (by decide +kernel) ?_
              refine AWE.op rfl ?_
              simp -implicitDefEqProofs
              refine ⟨_, c3, ?_⟩
              rintro v Kx ⟨rfl, rfl⟩
              refine ⟨hc4, ?_⟩
              refine AWK.one 10 (by decide +kernel) ?_
              refine AWE.op rfl ?_
              simp -implicitDefEqProofs
              refine AWK.one 11 (by decide +kernel) ?_
              refine AWE.op rfl ?_
              simp -implicitDefEqProofs
              refine AWK.one 12 (by decide +kernel) ?_
              refine AWE.op rfl ?_
              simp -implicitDefEqProofs
              refine AWK.one 13 (by decide +kernel) ?_
              refine AWE.op rfl ?_
              simp -implicitDefEqProofs
              refine AWS.grows0 el_42 hg hl hzx hzy (by rw [hll]; simp only [List.length_cons, List.length_nil]; omega) (by rw [hll]; simp only [List.length_cons, List.length_nil, maxLen]; omega) fun t' K' Hn hg' hl' _ => ?_
              obtain ⟨hpj2, hBn, Pn⟩ := hst t' K' Hn hg' hl'
              have Pn2 := Pn (fun t => ptC ⟨mj, r3.1, mf, M2, unzig r1.1, r2.1⟩ tj tfs t)
              rw [ejl] at Pn2
              rw [ej]
              refine AWK.one 14 (by decide +kernel) ?_
              refine AWE.op rfl ?_
              simp -implicitDefEqProofs [q9]
              refine AWK.one 15 (by decide +kernel) ?_
              refine AWE.op rfl ?_
              simp -implicitDefEqProofs [hpj2]
              refine AWS.store hpj2 (HLe.hc Pn2.row.le) ?_
              refine AWK.fin (by decide +kernel) ?_
              simp -implicitDefEqProofs [qc, hw1]
              exact AGo.again ih (m' := n3.1 - (i + 1)) (by omega) (HLe.refl _) ⟨i + 1, f3.2, L ++ [[f0.1, f1.1, f2.1, f3.1]], M2, t', rfl, by omega, by rw [List.map_append, hM, ← hM2]; rfl, hnext, by simp [hLl], by simp, by simp [ql], by simp [q1], by simp [q2], by simp [q4], by simp [q5], by simp [q6], by simp [q7], by simp [q8], by simp [q9], Pn2⟩
            · skip
              refine AWE.op rfl ?_
              simp -implicitDefEqProofs
              refine ⟨_, c3, ?_⟩
              rintro v Kx ⟨rfl, rfl⟩
              refine ⟨hc4, ?_⟩
              refine AWK.two 1 10 (by decide +kernel) ?_ ?_
              · skip
                refine AWE.op rfl ?_
                simp -implicitDefEqProofs [V4.cell]
                refine AWK.one 10 (by decide +kernel) ?_
                refine AWE.op rfl ?_
                simp -implicitDefEqProofs
                refine AWK.one 11 (by decide +kernel) ?_
                refine AWE.op rfl ?_
                simp -implicitDefEqProofs
                refine AWK.one 12 (by decide +kernel) ?_
                refine AWE.op rfl ?_
                simp -implicitDefEqProofs
                refine AWK.one 13 (by decide +kernel) ?_
                refine AWE.op rfl ?_
                simp -implicitDefEqProofs
                refine AWS.grows0 el_42 hg hl hzx hzy (by rw [hll]; simp only [List.length_cons, List.length_nil]; omega) (by rw [hll]; simp only [List.length_cons, List.length_nil, maxLen]; omega) fun t' K' Hn hg' hl' _ => ?_
                obtain ⟨hpj2, hBn, Pn⟩ := hst t' K' Hn hg' hl'
                have Pn2 := Pn (fun t => ptC ⟨mj, r3.1, mf, M2, unzig r1.1, r2.1⟩ tj tfs t)
                rw [ejl] at Pn2
                rw [ej]
                refine AWK.one 14 (by decide +kernel) ?_
                refine AWE.op rfl ?_
                simp -implicitDefEqProofs [q9]
                refine AWK.one 15 (by decide +kernel) ?_
                refine AWE.op rfl ?_
                simp -implicitDefEqProofs [hpj2]
                refine AWS.store hpj2 (HLe.hc Pn2.row.le) ?_
                refine AWK.fin (by decide +kernel) ?_
                simp -implicitDefEqProofs [qc, hw1]
                exact AGo.again ih (m' := n3.1 - (i + 1)) (by omega) (HLe.refl _) ⟨i + 1, f3.2, L ++ [[f0.1, f1.1, f2.1, f3.1]], M2, t', rfl, by omega, by rw [List.map_append, hM, ← hM2]; rfl, hnext, by simp [hLl], by simp, by simp [ql], by simp [q1], by simp [q2], by simp [q4], by simp [q5], by simp [q6], by simp [q7], by simp [q8], by simp [q9], Pn2⟩
              · refine AWE.op rfl ?_
                simp -implicitDefEqProofs
                refine AWK.two 1 11 (by decide +kernel) ?_ ?_
                · skip
                  refine AWE.op rfl ?_
                  simp -implicitDefEqProofs [V4.cell]
                  refine AWK.one 11 (by decide +kernel) ?_
                  refine AWE.op rfl ?_
                  simp -implicitDefEqProofs
                  refine AWK.one 12 (by decide +kernel) ?_
                  refine AWE.op rfl ?_
                  simp -implicitDefEqProofs
                  refine AWK.one 13 (by decide +kernel) ?_
                  refine AWE.op rfl ?_
                  simp -implicitDefEqProofs
                  refine AWS.grows0 el_42 hg hl hzx hzy (by rw [hll]; simp only [List.length_cons, List.length_nil]; omega) (by rw [hll]; simp only [List.length_cons, List.length_nil, maxLen]; omega) fun t' K' Hn hg' hl' _ => ?_
                  obtain ⟨hpj2, hBn, Pn⟩ := hst t' K' Hn hg' hl'
                  have Pn2 := Pn (fun t => ptC ⟨mj, r3.1, mf, M2, unzig r1.1, r2.1⟩ tj tfs t)
                  rw [ejl] at Pn2
                  rw [ej]
                  refine AWK.one 14 (by decide +kernel) ?_
                  refine AWE.op rfl ?_
                  simp -implicitDefEqProofs [q9]
                  refine AWK.one 15 (by decide +kernel) ?_
                  refine AWE.op rfl ?_
                  simp -implicitDefEqProofs [hpj2]
                  refine AWS.store hpj2 (HLe.hc Pn2.row.le) ?_
                  refine AWK.fin (by decide +kernel) ?_
                  simp -implicitDefEqProofs [qc, hw1]
                  exact AGo.again ih (m' := n3.1 - (i + 1)) (by omega) (HLe.refl _) ⟨i + 1, f3.2, L ++ [[f0.1, f1.1, f2.1, f3.1]], M2, t', rfl, by omega, by rw [List.map_append, hM, ← hM2]; rfl, hnext, by simp [hLl], by simp, by simp [ql], by simp [q1], by simp [q2], by simp [q4], by simp [q5], by simp [q6], by simp [q7], by simp [q8], by simp [q9], Pn2⟩
                · skip
                  refine AWE.op rfl ?_
                  simp -implicitDefEqProofs
                  refine AWK.two 1 12 (by decide +kernel) ?_ ?_
                  · skip
                    refine AWE.op rfl ?_
                    simp -implicitDefEqProofs [V4.cell]
                    refine AWK.one 12 (by decide +kernel) ?_
                    refine AWE.op rfl ?_
                    simp -implicitDefEqProofs
                    refine AWK.one 13 (by decide +kernel) ?_
                    refine AWE.op rfl ?_
                    simp -implicitDefEqProofs
                    refine AWS.grows0 el_42 hg hl hzx hzy (by rw [hll]; simp only [List.length_cons, List.length_nil]; omega) (by rw [hll]; simp only [List.length_cons, List.length_nil, maxLen]; omega) fun t' K' Hn hg' hl' _ => ?_
                    obtain ⟨hpj2, hBn, Pn⟩ := hst t' K' Hn hg' hl'
                    have Pn2 := Pn (fun t => ptC ⟨mj, r3.1, mf, M2, unzig r1.1, r2.1⟩ tj tfs t)
                    rw [ejl] at Pn2
                    rw [ej]
                    refine AWK.one 14 (by decide +kernel) ?_
                    refine AWE.op rfl ?_
                    simp -implicitDefEqProofs [q9]
                    refine AWK.one 15 (by decide +kernel) ?_
                    refine AWE.op rfl ?_
                    simp -implicitDefEqProofs [hpj2]
                    refine AWS.store hpj2 (HLe.hc Pn2.row.le) ?_
                    refine AWK.fin (by decide +kernel) ?_
                    simp -implicitDefEqProofs [qc, hw1]
                    exact AGo.again ih (m' := n3.1 - (i + 1)) (by omega) (HLe.refl _) ⟨i + 1, f3.2, L ++ [[f0.1, f1.1, f2.1, f3.1]], M2, t', rfl, by omega, by rw [List.map_append, hM, ← hM2]; rfl, hnext, by simp [hLl], by simp, by simp [ql], by simp [q1], by simp [q2], by simp [q4], by simp [q5], by simp [q6], by simp [q7], by simp [q8], by simp [q9], Pn2⟩
                  · skip
                    refine AWE.op rfl ?_
                    simp -implicitDefEqProofs
                    refine AWK.one 1 (by decide +kernel) ?_
                    refine AWE.op rfl ?_
                    simp -implicitDefEqProofs [V4.cell]
                    refine AWK.one 13 (by decide +kernel) ?_
                    refine AWE.op rfl ?_
                    simp -implicitDefEqProofs
                    refine AWS.grows0 el_42 hg hl hzx hzy (by rw [hll]; simp only [List.length_cons, List.length_nil]; omega) (by rw [hll]; simp only [List.length_cons, List.length_nil, maxLen]; omega) fun t' K' Hn hg' hl' _ => ?_
                    obtain ⟨hpj2, hBn, Pn⟩ := hst t' K' Hn hg' hl'
                    have Pn2 := Pn (fun t => ptC ⟨mj, r3.1, mf, M2, unzig r1.1, r2.1⟩ tj tfs t)
                    rw [ejl] at Pn2
                    rw [ej]
                    refine AWK.one 14 (by decide +kernel) ?_
                    refine AWE.op rfl ?_
                    simp -implicitDefEqProofs [q9]
                    refine AWK.one 15 (by decide +kernel) ?_
                    refine AWE.op rfl ?_
                    simp -implicitDefEqProofs [hpj2]
                    refine AWS.store hpj2 (HLe.hc Pn2.row.le) ?_
                    refine AWK.fin (by decide +kernel) ?_
                    simp -implicitDefEqProofs [qc, hw1]
                    exact AGo.again ih (m' := n3.1 - (i + 1)) (by omega) (HLe.refl _) ⟨i + 1, f3.2, L ++ [[f0.1, f1.1, f2.1, f3.1]], M2, t', rfl, by omega, by rw [List.map_append, hM, ← hM2]; rfl, hnext, by simp [hLl], by simp, by simp [ql], by simp [q1], by simp [q2], by simp [q4], by simp [q5], by simp [q6], by simp [q7], by simp [q8], by simp [q9], Pn2⟩
    · have hn : ¬ (i : Int) < (n3.1 : Int) := by omega
      have hu : n3.1 - i = 0 := by omega
      rw [hu] at hd
      simp only [rowsC, List.append_nil] at hd
      simp -implicitDefEqProofs [qc, ql, q1, q2, q4, q5, q6, q7, q8, q9, hn]
      subst hd
      exact hk _ _ ⟨M, t0, hM, by simp [q1], by simp [q2], by simp [q4], by simp [q5], by simp [q6], by simp [q7], by simp [q8], by simp [q9], V0⟩
  clear V0 V1 q1 q2 q4 q5 q6 q7 q8 q9
  rintro ρ K0 ⟨mt, tts, hmt, q1, q2, q4, q5, q6, q7, q8, q9, VJ⟩
  have hI : res = if ts.2.2 = true ∨ ts.2.1 ≠ b.length then none else some ⟨mj, r3.1, mf, mt, unzig r1.1, r2.1⟩ := by
    rw [← hres, ← hmj, ← hmf, ← hmt]
    have hrow : rowC b 3 (0, false) = ([r1.1, r2.1, r3.1], r3.2) := by simp only [rowC, any64, hr1, hr2, hr3]
    simp only [parseI, hrow, hn1, hjs, hn2, hfs, hn3, hts]
    rfl
  have cK := VJ.cell
  have rK : K0 pr = some (.cells (ptC pt0 .nil .nil .nil) 44) := VJ.row.le _ _ Br
  have lK : HLe H K0 := BL.trans VJ.row.le
  have vd := VJ.three.d
  obtain ⟨bad, hbad⟩ : ∃ z, ts.2.2 = z := ⟨_, rfl⟩
  rw [hbad] at hI vd
  cases bad with
  | true =>
    rw [if_pos (.inl rfl)] at hI
    subst hI
    simp -implicitDefEqProofs [q1, q2, q4, q5, q6, q7, q8, q9, vd, rK, imgAV]
    exact (HLe.set_new lK hr0).wk
  | false =>
    by_cases hend : ts.2.1 = b.length
    · have hend' : (ts.2.1 : Int) = (b.length : Int) := by omega
      rw [if_neg (by rintro (h | h); cases h; exact h hend)] at hI
      subst hI
      simp -implicitDefEqProofs [q1, q2, q4, q5, q6, q7, q8, q9, vd, VJ.three.a, VJ.three.b, hend, hend', rK, cK, imgAV]
      exact (HLe.set_new lK hr0).wk
    · have hend' : ¬ (ts.2.1 : Int) = (b.length : Int) := by omega
      rw [if_pos (.inr hend)] at hI
      subst hI
      simp -implicitDefEqProofs [q1, q2, q4, q5, q6, q7, q8, q9, vd, VJ.three.a, VJ.three.b, hend, hend', rK, imgAV]
      exact (HLe.set_new lK hr0).wk
end Go.Proofs.YtghlkjkdejebnaaGreatDoor
