/- The book: what it answers to the document's grant. Going over the document's facts. Counting what is found of the document's facts. A cell, one of whose places holds a row that grows. Gathering what is found of the document's facts. -/
import Derived.Test.YtghlkjkdejebnaaDoorP14
import Derived.Test.YtghlkjkdejebnaaDoorP09
set_option linter.unusedSimpArgs false
set_option linter.unusedVariables false
set_option linter.unnecessarySimpa false
namespace Go.Proofs.YtghlkjkdejebnaaDoor
open Rg Go Go.RowKit
variable {H : Heap}
def fzC : List AV := [.sc (.int .i64 0), .sc (.int .u64 0), .sc (.int .u64 0), .sc (.int .i64 0), .sc (.int .u64 0), .sc (.int .u64 0), .sc (.int .u64 0), .sc (.int .i64 0), .sc (.int .u64 0), .sc (.int .u64 0), .sc (.int .u64 0), .sc (.string ⟨#[]⟩), .sc (.string ⟨#[]⟩), .sc (.int .i64 0), .sc (.int .i64 0), .sc (.int .i64 0), .sc (.int .i64 0), .sc (.int .i64 0), .sl [] .nil, .sc (.bool false), .sc (.int .u64 0), .sc (.int .i64 0), .sc (.int .i64 0), .sc (.int .u64 0), .sc (.int .i64 0), .sc (.int .u64 0), .sc (.int .u64 0), .sc (.int .u64 0), .sc (.int .u64 0), .sc (.int .i64 0), .sc (.bool false)]
theorem lk_fact0 {m c : Nat} (h : H m = some (.map [] c)) : AOk Tryd.prog Tryd.prog.funcs.size (pa 2 71 [mp m, .sc (.int .u64 3)]) H (.tup [.agg fzC, .sc (.bool false)]) H := by
  obtain ⟨d, hd⟩ := ty_of (P := Tryd.prog) (T := 45) (by kernel_rfl)
  exact c_lookup2_no (k := .sc (.int .u64 3)) (z := .agg #[.int .i64 0, .int .u64 0, .int .u64 0, .int .i64 0, .int .u64 0, .int .u64 0, .int .u64 0, .int .i64 0, .int .u64 0, .int .u64 0, .int .u64 0, .string ⟨#[]⟩, .string ⟨#[]⟩, .int .i64 0, .int .i64 0, .int .i64 0, .int .i64 0, .int .i64 0, .slice none 0 0, .bool false, .int .u64 0, .int .i64 0, .int .i64 0, .int .u64 0, .int .i64 0, .int .u64 0, .int .u64 0, .int .u64 0, .int .u64 0, .int .i64 0, .bool false]) m_fact hd h (by kernel_rfl) (by kernel_rfl) rfl
set_option maxHeartbeats 1000000 in
theorem c_says {bk m0 m1 m2 m3 m4 : Nat} (hbk : H bk = some (.cells [mp m0, mp m1, mp m2, mp m3, mp m4] 73)) (h3 : H m3 = some (.map [] 0)) (h4 : H m4 = some (.map [] 0)) (n34 : m3 ≠ m4) :
    ACalls Tryd.prog 24 [ptr bk, .agg f0C] H (fun v K => v = .sl [] .nil ∧ HLe ((H.set m4 (.map [(.sc (.int .u64 3), .agg f0C, 0)] 1)).set m3 (.map [(tokA, .sc (.int .u64 3), 0)] 1)) K) := by
  generalize hR : (fun (v : AV) (K : Heap) => v = .sl [] .nil ∧ HLe ((H.set m4 (.map [(.sc (.int .u64 3), .agg f0C, 0)] 1)).set m3 (.map [(tokA, .sc (.int .u64 3), 0)] 1)) K) = R
  refine ACalls.into Tryd.func24 rfl Tryd.ntmps24 Tryd.results24 (by simp) ?_
  simp -implicitDefEqProofs [AV.cells, AV.lies, f0C]
  refine AAlloc.intro fun b hb => ?_
  simp -implicitDefEqProofs
  generalize hK : Heap.set _ b _ = K
  have hL : HLe H K := by rw [← hK]; exact ((HLe.refl H).set_new hb)
  have kb : K b = some (.cells f0C 63) := by rw [← hK]; simp [Heap.set, f0C]
  clear hK
  obtain ⟨J, hJ⟩ : ∃ J : (Nat → AV) → Heap → Prop, J = fun ρ K' => ∃ e, K e = none ∧ K' = K.set e (.cells fzC 63) ∧ ρ 0 = ptr bk ∧ ρ 3 = ptr b ∧ ρ 5 = .sl [] .nil ∧ ρ 7 = .sc (.bool false) := ⟨_, rfl⟩
  refine go_draw3J J [0, 1, 2, 3, 4, 5] K f_mixed (by decide +kernel) (HC.refl _) ?_ ?_
  · simp -implicitDefEqProofs
    repeat (refine aq3_op ?_; simp -implicitDefEqProofs [hL _ _ hbk, kb, f0C])
    refine AWK.two 6 10 (by decide +kernel) ?_ ?_
    · refine AWE.op rfl ?_
      simp -implicitDefEqProofs [st_lookup]
      refine ⟨_, lk_fact0 (hL _ _ h4), ?_⟩
      rintro v Kx ⟨rfl, rfl⟩
      refine ⟨HC.refl _, ?_⟩
      refine AWK.pure 7 (by decide +kernel) ?_
      simp -implicitDefEqProofs
      refine aq3_op ?_
      simp -implicitDefEqProofs
      refine AWK.pure 8 (by decide +kernel) ?_
      simp -implicitDefEqProofs
      refine aq3_op ?_
      simp -implicitDefEqProofs
      refine AWK.pure 9 (by decide +kernel) ?_
      simp -implicitDefEqProofs
      refine aq3_op ?_
      simp -implicitDefEqProofs
      refine AWK.one 10 (by decide +kernel) ?_
      refine AWE.op rfl ?_
      simp -implicitDefEqProofs [AV.cells, fzC]
      refine AWS.alloc fun e he => ?_
      refine AWK.one 11 (by decide +kernel) ?_
      refine AWE.op rfl ?_
      simp -implicitDefEqProofs
      refine AWS.store (by simp [Heap.set]; exact ⟨rfl, rfl⟩) (by simp only [lset, fzC]; repeat (first | exact HC.refl _ | refine HC.setn ?_ (by assumption))) ?_
      refine AWK.pure 12 (by decide +kernel) ?_
      simp -implicitDefEqProofs
      refine aq3_op ?_
      simp -implicitDefEqProofs
      refine AWK.fin (by decide +kernel) ?_
      rw [hJ]
      exact ⟨e, he, by simp [lset, fzC], by simp, by simp, by simp, by simp⟩
    · refine AWE.op rfl ?_
      simp -implicitDefEqProofs [AV.cells, fzC]
      refine AWS.alloc fun e he => ?_
      refine AWK.one 6 (by decide +kernel) ?_
      refine AWE.op rfl ?_
      simp -implicitDefEqProofs [st_lookup]
      refine ⟨_, lk_fact0 ((hL.trans (HLe.set_fresh he)) _ _ h4), ?_⟩
      rintro v Kx ⟨rfl, rfl⟩
      refine ⟨(by repeat (first | exact HC.refl _ | refine HC.setn ?_ (by assumption))), ?_⟩
      refine AWK.pure 7 (by decide +kernel) ?_
      simp -implicitDefEqProofs
      refine aq3_op ?_
      simp -implicitDefEqProofs
      refine AWK.pure 8 (by decide +kernel) ?_
      simp -implicitDefEqProofs
      refine aq3_op ?_
      simp -implicitDefEqProofs
      refine AWK.pure 9 (by decide +kernel) ?_
      simp -implicitDefEqProofs
      refine aq3_op ?_
      simp -implicitDefEqProofs
      refine AWK.one 11 (by decide +kernel) ?_
      refine AWE.op rfl ?_
      simp -implicitDefEqProofs
      refine AWS.store (by simp [Heap.set]; exact ⟨rfl, rfl⟩) (by simp only [lset, fzC]; repeat (first | exact HC.refl _ | refine HC.setn ?_ (by assumption))) ?_
      refine AWK.pure 12 (by decide +kernel) ?_
      simp -implicitDefEqProofs
      refine aq3_op ?_
      simp -implicitDefEqProofs
      refine AWK.fin (by decide +kernel) ?_
      rw [hJ]
      exact ⟨e, he, by simp [lset, fzC], by simp, by simp, by simp, by simp⟩
  rw [hJ]
  clear hJ J
  rintro ρ K' ⟨e, he, hKe, r0, r3, r5, r7⟩
  have hL' : HLe K K' := by rw [hKe]; exact HLe.set_fresh he
  clear hKe he
  replace hL := hL.trans hL'
  replace kb := hL' _ _ kb
  clear hL' e K
  simp -implicitDefEqProofs [r7]
  have nb4 : bk ≠ m4 := by rintro rfl; rw [hbk] at h4; cases h4
  have nbb4 : b ≠ m4 := by rintro rfl; rw [hb] at h4; cases h4
  have k4 := hL _ _ h4
  refine go_draw3 [0, 1, 2, 3, 4, 5, 6] K' f_mixed (by decide +kernel) (HC.refl _) ?_
  simp -implicitDefEqProofs
  repeat (refine aq3_op ?_; simp -implicitDefEqProofs [r0, r3, hL _ _ hbk, kb, f0C])
  refine AWK.one 7 (by decide +kernel) ?_
  refine AWE.op rfl ?_
  simp -implicitDefEqProofs [st_update]
  refine ⟨_, in_fact0 k4, ?_⟩
  rintro v Kx ⟨rfl, rfl⟩
  refine ⟨HC.setm (HC.refl _) (by rw [k4]; rfl), ?_⟩
  refine AWK.fin (by decide +kernel) ?_
  have k3 : (K'.set m4 (.map [(.sc (.int .u64 3), .agg f0C, 0)] 1)) m3 = some (.map [] 0) := by simp [Heap.set, n34, hL _ _ h3]
  have kb2 : (K'.set m4 (.map [(.sc (.int .u64 3), .agg f0C, 0)] 1)) b = some (.cells f0C 63) := by simp [Heap.set, nbb4, kb]
  have kbk2 : (K'.set m4 (.map [(.sc (.int .u64 3), .agg f0C, 0)] 1)) bk = some (.cells [mp m0, mp m1, mp m2, mp m3, mp m4] 73) := by simp [Heap.set, nb4, hL _ _ hbk]
  have hLm := (hL.set_mono (b := m4) (o := .map [(.sc (.int .u64 3), .agg f0C, 0)] 1))
  generalize hK4 : Heap.set K' m4 _ = K4 at *
  clear hK4
  have nb3 : bk ≠ m3 := by rintro rfl; rw [hbk] at h3; cases h3
  have nbb3 : b ≠ m3 := by rintro rfl; rw [hb] at h3; cases h3
  simp -implicitDefEqProofs [r3, kb2, f0C]
  refine ACall.eq c_grant0 ?_
  simp -implicitDefEqProofs
  refine AAlloc.intro fun g hg => ?_
  simp -implicitDefEqProofs
  generalize hK5 : Heap.set K4 g _ = K5
  have hL5 : HLe K4 K5 := by rw [← hK5]; exact HLe.set_fresh hg
  have kg : K5 g = some (.cells (kyA 7 1 2 60) 75) := by rw [← hK5]; simp [Heap.set]
  clear hK5
  have ng3 : g ≠ m3 := by rintro rfl; rw [k3] at hg; cases hg
  replace k3 := hL5 _ _ k3
  replace kb2 := hL5 _ _ kb2
  replace kbk2 := hL5 _ _ kbk2
  replace hLm := hLm.trans hL5
  first | refine go_draw 12 f_mixed (by decide +kernel) ?_ | refine go_draw 10 f_mixed (by decide +kernel) ?_ | refine go_draw 9 f_mixed (by decide +kernel) ?_ | refine go_draw 8 f_mixed (by decide +kernel) ?_
  simp -implicitDefEqProofs [r0, kbk2, kg, st_lookup]
  refine AQS.eq (lk_num0 k3) ?_
  simp -implicitDefEqProofs
  refine go_draw3 [0, 1, 2, 3, 4, 5, 6, 7] K5 f_mixed (by decide +kernel) (HC.refl _) ?_
  simp -implicitDefEqProofs
  repeat (refine aq3_op ?_; simp -implicitDefEqProofs [r0, r3, kbk2, kb2, kg, f0C])
  refine AWK.one 8 (by decide +kernel) ?_
  refine AWE.op rfl ?_
  simp -implicitDefEqProofs [st_update]
  refine ⟨_, in_num0 k3, ?_⟩
  rintro v Kx ⟨rfl, rfl⟩
  refine ⟨HC.setm (HC.refl _) (by rw [k3]; rfl), ?_⟩
  refine AWK.fin (by decide +kernel) ?_
  simp -implicitDefEqProofs [r5]
  subst hR
  exact AFin.intro _ _ (wk_refl _) (HWk.refl _) ⟨rfl, hLm.set_mono⟩
end Go.Proofs.YtghlkjkdejebnaaDoor
namespace Go.Proofs.YtghlkjkdejebnaaDoor
open Rg Go Go.RowKit
variable {H : Heap}
theorem f0_len : f0C.length = 31 := rfl
theorem f1_len : f1C.length = 31 := rfl
theorem f0_k : f0C[0]'(by decide) = .sc (.int .i64 1) := rfl
theorem f1_k : f1C[0]'(by decide) = .sc (.int .i64 4) := rfl
theorem f1_note : (f1C.drop 24).take 7 = noteC := rfl
theorem f0_take : f0C.take 31 = f0C := rfl
theorem f1_take : f1C.take 31 = f1C := rfl
theorem lset_app : ∀ (ds pre cs : List AV), cs.length = ds.length → lset (pre ++ cs) pre.length ds = pre ++ ds
  | [], pre, cs, h => by
    obtain rfl : cs = [] := List.length_eq_zero_iff.1 h
    simp [lset]
  | d :: ds, pre, [], h => by cases h
  | d :: ds, pre, c :: cs, h => by
    have := lset_app ds (pre ++ [d]) cs (by simpa using h)
    simp only [List.append_assoc, List.singleton_append, List.length_append, List.length_singleton] at this
    rw [lset, List.set_append_right _ _ (Nat.le_refl _), Nat.sub_self, List.set_cons_zero]
    exact this
theorem lset_full {cs ds : List AV} (h : cs.length = ds.length) : lset cs 0 ds = ds := lset_app ds [] cs h
def NotOpA (o : AObj) : Prop := ∀ n cap sz e, o ≠ .open n cap sz e
theorem NotOpA.cells {cs : List AV} {T : TypeId} : NotOpA (.cells cs T) := fun _ _ _ _ h => by cases h
theorem NotOpA.map {es : List (AV × AV × Nat)} {c : Nat} : NotOpA (.map es c) := fun _ _ _ _ h => by cases h
theorem NotOpA.lrec {r : ARec} : NotOpA (.lrec r) := fun _ _ _ _ h => by cases h
theorem NotOpA.dfr : NotOpA .dfr := fun _ _ _ _ h => by cases h
def KeepA (H K K' : Heap) : Prop := ∀ p o, H p = none → K p = some o → NotOpA o → K' p = some o
def factsA (g : Bool) (n : Nat) : List AV := (if g = true then [.agg f0C] else []) ++ List.replicate n (.agg f1C)
def offA (g : Bool) : Nat := if g = true then 1 else 0
def outK (g : Bool) (i : Nat) : List Nat := if i < offA g then [] else (if offA g < i then [1] else []) ++ (if g = true then [] else [3])
def fndA (g : Bool) : Nat → Nat → List (Nat × Nat)
  | _, 0 => []
  | a, m + 1 => (outK g a).map (·, a) ++ fndA g (a + 1) m
abbrev fiAV (z : Nat × Nat) : AV := fiA z.1 (z.2 : Int)
theorem st_make {P : Program} {T : TypeId} {ev : Operand → AV} : astepV P (.makeMap T none) ev H = .call P.funcs.size (pa 4 T []) := rfl
theorem facts_len (g : Bool) (n : Nat) : (factsA g n).length = offA g + n := by cases g <;> simp [factsA, offA]; omega
theorem facts_at {g : Bool} {n i : Nat} (h : i < offA g + n) : (factsA g n)[i]? = some (.agg (if i < offA g then f0C else f1C)) := by
  cases g
  · have h' : i < n := by simpa [offA] using h
    simp [factsA, offA, h']
  · cases i with
    | zero => simp [factsA, offA]
    | succ i =>
      have h' : i < n := by simp only [offA, if_true] at h; omega
      simp [factsA, offA, h']
structure Bk (bk m0 m1 m2 m3 m4 : Nat) (g0 seen said : Bool) (K : Heap) : Prop where
  bk : K bk = some (.cells [mp m0, mp m1, mp m2, mp m3, mp m4] 73)
  h0 : K m0 = some (.map (if g0 = true then [(lnA, .agg [], 0)] else []) (if g0 = true then 1 else 0))
  h1 : K m1 = some (.map (if seen = true then [(tokA, .agg [], 0)] else []) (if seen = true then 1 else 0))
  h2 : K m2 = some (.map (if seen = true then [(prA, .sc (.int .u64 7), 0)] else []) (if seen = true then 1 else 0))
  h3 : K m3 = some (.map (if said = true then [(tokA, .sc (.int .u64 3), 0)] else []) (if said = true then 1 else 0))
  h4 : K m4 = some (.map (if said = true then [(.sc (.int .u64 3), .agg f0C, 0)] else []) (if said = true then 1 else 0))
structure Df (m0 m1 m2 m3 m4 : Nat) : Prop where
  a01 : m0 ≠ m1
  a02 : m0 ≠ m2
  a03 : m0 ≠ m3
  a04 : m0 ≠ m4
  a12 : m1 ≠ m2
  a13 : m1 ≠ m3
  a14 : m1 ≠ m4
  a23 : m2 ≠ m3
  a24 : m2 ≠ m4
  a34 : m3 ≠ m4
section
variable {bk m0 m1 m2 m3 m4 : Nat} {g0 seen said : Bool} {K K' : Heap}
theorem Bk.le (h : Bk bk m0 m1 m2 m3 m4 g0 seen said K) (hl : HLe K K') : Bk bk m0 m1 m2 m3 m4 g0 seen said K' :=
  ⟨hl _ _ h.bk, hl _ _ h.h0, hl _ _ h.h1, hl _ _ h.h2, hl _ _ h.h3, hl _ _ h.h4⟩
theorem Bk.keep (h : Bk bk m0 m1 m2 m3 m4 g0 seen said K) (hk : KeepA H K K') (eb : H bk = none) (e0 : H m0 = none) (e1 : H m1 = none) (e2 : H m2 = none) (e3 : H m3 = none) (e4 : H m4 = none) : Bk bk m0 m1 m2 m3 m4 g0 seen said K' :=
  ⟨hk _ _ eb h.bk .cells, hk _ _ e0 h.h0 .map, hk _ _ e1 h.h1 .map, hk _ _ e2 h.h2 .map, hk _ _ e3 h.h3 .map, hk _ _ e4 h.h4 .map⟩
theorem Bk.nb (h : Bk bk m0 m1 m2 m3 m4 g0 seen said K) : bk ≠ m0 ∧ bk ≠ m1 ∧ bk ≠ m2 ∧ bk ≠ m3 ∧ bk ≠ m4 := by
  obtain ⟨h, h0, h1, h2, h3, h4⟩ := h
  refine ⟨?_, ?_, ?_, ?_, ?_⟩ <;> (rintro rfl; rw [h] at *; simp at *)
theorem Bk.grant (h : Bk bk m0 m1 m2 m3 m4 false seen said K) (d : Df m0 m1 m2 m3 m4) : Bk bk m0 m1 m2 m3 m4 true seen said (K.set m0 (.map [(lnA, .agg [], 0)] 1)) := by
  obtain ⟨b0, _, _, _, _⟩ := h.nb
  exact ⟨by simp [Heap.set, b0, h.bk], by simp [Heap.set], by simp [Heap.set, d.a01.symm, h.h1], by simp [Heap.set, d.a02.symm, h.h2], by simp [Heap.set, d.a03.symm, h.h3], by simp [Heap.set, d.a04.symm, h.h4]⟩
theorem Bk.acc (h : Bk bk m0 m1 m2 m3 m4 g0 seen said K) (d : Df m0 m1 m2 m3 m4) : Bk bk m0 m1 m2 m3 m4 g0 true said ((K.set m1 (.map [(tokA, .agg [], 0)] 1)).set m2 (.map [(prA, .sc (.int .u64 7), 0)] 1)) := by
  obtain ⟨_, b1, b2, _, _⟩ := h.nb
  exact ⟨by simp [Heap.set, b1, b2, h.bk], by simp [Heap.set, d.a01, d.a02, h.h0], by simp [Heap.set, d.a12], by simp [Heap.set], by simp [Heap.set, d.a13.symm, d.a23.symm, h.h3], by simp [Heap.set, d.a14.symm, d.a24.symm, h.h4]⟩
theorem Bk.say (h : Bk bk m0 m1 m2 m3 m4 g0 seen false K) (d : Df m0 m1 m2 m3 m4) : Bk bk m0 m1 m2 m3 m4 g0 seen true ((K.set m4 (.map [(.sc (.int .u64 3), .agg f0C, 0)] 1)).set m3 (.map [(tokA, .sc (.int .u64 3), 0)] 1)) := by
  obtain ⟨_, _, _, b3, b4⟩ := h.nb
  exact ⟨by simp [Heap.set, b3, b4, h.bk], by simp [Heap.set, d.a03, d.a04, h.h0], by simp [Heap.set, d.a13, d.a14, h.h1], by simp [Heap.set, d.a23, d.a24, h.h2], by simp [Heap.set], by simp [Heap.set, d.a34.symm]⟩
theorem c_accepts (h : Bk bk m0 m1 m2 m3 m4 g0 seen said K) (d : Df m0 m1 m2 m3 m4) :
    ACalls Tryd.prog 23 [ptr bk, .agg noteC] K (fun v K' => ∃ t, v = .sl ((((if seen = true then [1] else []) ++ (if g0 = true then [] else [3]) : List Nat)).map fun n : Nat => (.sc (.int .u8 (n : Int)) : AV)) t ∧ HLe ((K.set m1 (.map [(tokA, .agg [], 0)] 1)).set m2 (.map [(prA, .sc (.int .u64 7), 0)] 1)) K') := by
  have hB : BookAt bk m0 m1 m2 m3 m4 K := ⟨h.bk, d.a01, d.a02, d.a12⟩
  obtain ⟨h, h0, h1, h2, h3, h4⟩ := h
  cases g0 <;> cases seen
  · exact c_accFN hB h0 h1 h2
  · exact c_accFS hB h0 h1 h2
  · exact c_accGN hB h0 h1 h2
  · exact c_accGS hB h0 h1 h2
end
set_option maxHeartbeats 4000000 in
theorem c_runIt {ly b1 : Nat} {t : Rg.Tok} (g : Bool) (n : Nat) (hn : n ≤ 1000)
    (J : Nat → Heap → Prop) (Jx : Heap → Prop)
    (hL : ∀ j K K', J j K → HLe K K' → J j K')
    (hS : ∀ j K p o o', J j K → H p = none → K p = some o → NotOpA o → J j (K.set p o'))
    (hY : ∀ (j : Nat) (K : Heap) (z : Nat × Nat), (fndA g 0 (offA g + n))[j]? = some z → J j K →
      ACalls Tryd.prog (Tryd.prog.funcs.size + 1 + ly) [fiAV z] K (fun v K' => KeepA H K K' ∧ ((v = .sc (.bool true) ∧ J (j + 1) K') ∨ (v = .sc (.bool false) ∧ Jx K'))))
    (h0 : J 0 H) (k1 : H b1 = some (.cells [.sl (factsA g n) t] 37)) :
    ACalls Tryd.prog 21 [.sc (.func (.yield ly) #[] #[]), ptr b1] H (fun _ K => J (fndA g 0 (offA g + n)).length K ∨ Jx K) := by
  obtain ⟨Z, hZ⟩ : ∃ Z, fndA g 0 (offA g + n) = Z := ⟨_, rfl⟩
  obtain ⟨fs, hfs⟩ : ∃ fs, factsA g n = fs := ⟨_, rfl⟩
  have hfl : fs.length = offA g + n := by rw [← hfs]; exact facts_len g n
  have hfa : ∀ i, i < offA g + n → fs[i]? = some (.agg (if i < offA g then f0C else f1C)) := fun i h => by rw [← hfs]; exact facts_at h
  rw [hZ] at hY ⊢
  rw [hfs] at k1
  clear hfs
  refine ACalls.into Tryd.func21 rfl Tryd.ntmps21 Tryd.results21 (by simp) ?_
  simp -implicitDefEqProofs [st_make]
  refine ACall.intro (c_makeMap _) fun v K0 hv => ?_
  obtain ⟨m0, e0, rfl, rfl⟩ := hv
  have x0 := e0
  simp -implicitDefEqProofs [st_make]
  refine ACall.intro (c_makeMap _) fun v K0 hv => ?_
  obtain ⟨m1, e1, rfl, rfl⟩ := hv
  simp -implicitDefEqProofs [st_make]
  refine ACall.intro (c_makeMap _) fun v K0 hv => ?_
  obtain ⟨m2, e2, rfl, rfl⟩ := hv
  simp -implicitDefEqProofs [st_make]
  refine ACall.intro (c_makeMap _) fun v K0 hv => ?_
  obtain ⟨m3, e3, rfl, rfl⟩ := hv
  simp -implicitDefEqProofs [st_make]
  refine ACall.intro (c_makeMap _) fun v K0 hv => ?_
  obtain ⟨m4, e4, rfl, rfl⟩ := hv
  simp -implicitDefEqProofs
  refine AAlloc.intro fun bk ek => ?_
  have n01 : m0 ≠ m1 := by rintro rfl; simp [Heap.set] at e1
  have n02 : m0 ≠ m2 := by rintro rfl; simp [Heap.set] at e2
  have n03 : m0 ≠ m3 := by rintro rfl; simp [Heap.set] at e3
  have n04 : m0 ≠ m4 := by rintro rfl; simp [Heap.set] at e4
  have n12 : m1 ≠ m2 := by rintro rfl; simp [Heap.set] at e2
  have n13 : m1 ≠ m3 := by rintro rfl; simp [Heap.set] at e3
  have n14 : m1 ≠ m4 := by rintro rfl; simp [Heap.set] at e4
  have n23 : m2 ≠ m3 := by rintro rfl; simp [Heap.set] at e3
  have n24 : m2 ≠ m4 := by rintro rfl; simp [Heap.set] at e4
  have n34 : m3 ≠ m4 := by rintro rfl; simp [Heap.set] at e4
  have d : Df m0 m1 m2 m3 m4 := ⟨n01, n02, n03, n04, n12, n13, n14, n23, n24, n34⟩
  have x1 : H m1 = none := by simpa [Heap.set, n01.symm] using e1
  have x2 : H m2 = none := by simpa [Heap.set, n02.symm, n12.symm] using e2
  have x3 : H m3 = none := by simpa [Heap.set, n03.symm, n13.symm, n23.symm] using e3
  have x4 : H m4 = none := by simpa [Heap.set, n04.symm, n14.symm, n24.symm, n34.symm] using e4
  have b0 : bk ≠ m0 := by rintro rfl; simp [Heap.set, n01, n02, n03, n04] at ek
  have b1' : bk ≠ m1 := by rintro rfl; simp [Heap.set, n12, n13, n14] at ek
  have b2 : bk ≠ m2 := by rintro rfl; simp [Heap.set, n23, n24] at ek
  have b3 : bk ≠ m3 := by rintro rfl; simp [Heap.set, n34] at ek
  have b4 : bk ≠ m4 := by rintro rfl; simp [Heap.set] at ek
  have xk : H bk = none := by simpa [Heap.set, b0, b1', b2, b3, b4] using ek
  generalize hK : Heap.set _ bk _ = K0
  have hB : Bk bk m0 m1 m2 m3 m4 false false false K0 := by
    rw [← hK]
    exact ⟨by simp [Heap.set], by simp [Heap.set, b0.symm, n01, n02, n03, n04], by simp [Heap.set, b1'.symm, n12, n13, n14], by simp [Heap.set, b2.symm, n23, n24], by simp [Heap.set, b3.symm, n34], by simp [Heap.set, b4.symm]⟩
  have hHK : HLe H K0 := by rw [← hK]; exact (((((HLe.refl H).set_new e0).set_new x1).set_new x2).set_new x3).set_new x4 |>.set_new xk
  clear hK ek e1 e2 e3 e4
  have hJ0 : J 0 K0 := hL _ _ _ h0 hHK
  have kb1 := hHK _ _ k1
  simp -implicitDefEqProofs [kb1]
  have hi1 : ∀ i : Nat, i < 2000 → IntKind.i64.wrap ((i : Int) + 1) = (i : Int) + 1 := fun i h => wrap_i64 (by omega) (by omega)
  have hN : offA g + n ≤ 1001 := by cases g <;> simp [offA] <;> omega
  obtain ⟨N, hNN⟩ : ∃ N, offA g + n = N := ⟨_, rfl⟩
  rw [hNN] at hfl hfa hN hZ
  refine AGo.joinLoop (fun ρ K => ρ 0 = .sc (.func (.yield ly) #[] #[]) ∧ ρ 1 = ptr b1 ∧ ρ 3 = ptr bk ∧ Bk bk m0 m1 m2 m3 m4 (g && decide (0 < N)) false false K ∧ J 0 K ∧ K b1 = some (.cells [.sl fs t] 37)) (fun k' hk' => ?_) ?_
  · refine AGo.rounds (fun m ρ K => ∃ i : Nat, m = N - i ∧ i ≤ N ∧ ρ 0 = .sc (.func (.yield ly) #[] #[]) ∧ ρ 1 = ptr b1 ∧ ρ 3 = ptr bk ∧ ρ 20 = .sl fs t ∧ ρ 21 = .sc (.int .i64 (N : Int)) ∧ ρ 22 = .sc (.int .i64 (i : Int)) ∧ Bk bk m0 m1 m2 m3 m4 (g && decide (0 < i)) false false K ∧ J 0 K ∧ K b1 = some (.cells [.sl fs t] 37)) ?_ (m := N) (HLe.refl _)
      ⟨0, rfl, by omega, by simp, by simp, by simp, by simp, by simp [hfl], by simp, by simpa using hB, hJ0, kb1⟩
    clear hB hJ0 kb1 hHK K0
    rintro m ρ K ih ⟨i, rfl, hi, r0, r1, r3, r20, r21, r22, hB, hJ, kb1⟩
    by_cases hiN : i < N
    · have hiN' : (i : Int) < (N : Int) := by omega
      have hil : i < fs.length := by omega
      obtain ⟨f, hfj, hf⟩ := getAt hil
      have hff := hfa i hiN
      rw [hf, Option.some.injEq] at hff
      have hw := hi1 i (by omega)
      by_cases hF : i < offA g
      · have hg : g = true := by cases g <;> simp [offA] at hF ⊢
        subst hg
        have hi0 : i = 0 := by simp [offA] at hF; exact hF
        subst hi0
        rw [if_pos hF] at hff
        rw [hff] at hfj
        simp -implicitDefEqProofs [r0, r1, r3, r20, r21, r22, hiN, hiN', hil, hfj, AV.cells, f0_len, f0_take]
        refine AAlloc.intro fun b5 e5 => ?_
        simp -implicitDefEqProofs [f0_len, f0_take, AV.cells, lset_full]
        refine ACall.eq c_grant0 ?_
        simp -implicitDefEqProofs
        refine AAlloc.intro fun b6 e6 => ?_
        simp -implicitDefEqProofs
        have h6K : K b6 = none := (HLe.set_fresh e5).none e6
        generalize hK6 : Heap.set _ b6 _ = K6
        have l6 : HLe K K6 := by rw [← hK6]; exact ((HLe.refl K).set_new e5).set_new h6K
        have k6 : K6 b6 = some (.cells (kyA 7 1 2 60) 75) := by rw [← hK6]; simp [Heap.set]
        clear hK6 e5 e6
        have hB6 := hB.le l6
        have hJ6 := hL _ _ _ hJ l6
        replace kb1 := l6 _ _ kb1
        have hk0 := hB6.h0
        simp only [Nat.lt_irrefl, decide_false, Bool.and_false, Bool.false_eq_true, if_false] at hk0
        refine go_draw3 [0, 1, 2, 3, 4, 5] K6 f_mixed (by decide +kernel) (HC.refl _) ?_
        simp -implicitDefEqProofs
        repeat (refine aq3_op ?_; simp -implicitDefEqProofs [r3, hB6.bk, k6])
        refine AWK.one 6 (by decide +kernel) ?_
        refine AWE.op rfl ?_
        simp -implicitDefEqProofs [st_update]
        refine ⟨_, in_launch0 hk0, ?_⟩
        rintro v Kx ⟨rfl, rfl⟩
        refine ⟨HC.setm (HC.refl _) (by rw [hk0]; rfl), ?_⟩
        refine AWK.fin (by decide +kernel) ?_
        have hB7 := hB6.grant d
        have hb10 : b1 ≠ m0 := by rintro rfl; rw [hk0] at kb1; cases kb1
        have hm0 : H m0 = none := x0
        simp -implicitDefEqProofs [r22, hw]
        exact AGo.again ih (m' := N - 1) (by omega) (HLe.refl _) ⟨1, rfl, by omega, by simp [r0], by simp [r1], by simp [r3], by simp [r20], by simp [r21], by simp; decide, hB7, hS _ _ _ _ _ hJ6 hm0 hk0 .map, by simp [Heap.set, hb10, kb1]⟩
      · rw [if_neg hF] at hff
        rw [hff] at hfj
        simp -implicitDefEqProofs [r0, r1, r3, r20, r21, r22, hiN', hil, hfj, AV.cells, f1_len, f1_take]
        refine AAlloc.intro fun b5 e5 => ?_
        simp -implicitDefEqProofs [f1_len, f1_take, AV.cells, lset_full]
        refine ACall.eq c_grant1 ?_
        simp -implicitDefEqProofs
        refine AAlloc.intro fun b6 e6 => ?_
        simp -implicitDefEqProofs [r22, hw]
        have h6K : K b6 = none := (HLe.set_fresh e5).none e6
        have l6 : HLe K ((K.set b5 (.cells f1C 63)).set b6 (.cells (kyA 0 0 0 0) 75)) := ((HLe.refl K).set_new e5).set_new h6K
        have hgi : (g && decide (0 < i + 1)) = (g && decide (0 < i)) := by
          cases g
          · rfl
          · simp [offA] at hF; simp; omega
        exact AGo.again ih (m' := N - (i + 1)) (by omega) (HLe.refl _) ⟨i + 1, rfl, by omega, by simp [r0], by simp [r1], by simp [r3], by simp [r20], by simp [r21], by simp, by rw [hgi]; exact hB.le l6, hL _ _ _ hJ l6, l6 _ _ kb1⟩
    · have hiN' : ¬ (i : Int) < (N : Int) := by omega
      obtain rfl : i = N := by omega
      simp -implicitDefEqProofs [r0, r1, r3, r20, r21, r22, hiN']
      exact hk' _ _ ⟨by simp [r0], by simp [r1], by simp [r3], hB, hJ, kb1⟩
  · clear hB hJ0 kb1 hHK K0
    rintro ρ K ⟨r0, r1, r3, hB, hJ, kb1⟩
    simp -implicitDefEqProofs [r1, kb1]
    have hgN : (g && decide (0 < N)) = g := by
      cases g
      · rfl
      · simp [offA] at hNN; simp; omega
    rw [hgN] at hB
    refine AGo.rounds (fun m ρ K => ∃ (i : Nat) (pre : List (Nat × Nat)), m = N - i ∧ i ≤ N ∧ Z = pre ++ fndA g i (N - i) ∧ ρ 0 = .sc (.func (.yield ly) #[] #[]) ∧ ρ 3 = ptr bk ∧ ρ 39 = .sl fs t ∧ ρ 40 = .sc (.int .i64 (N : Int)) ∧ ρ 41 = .sc (.int .i64 (i : Int)) ∧ Bk bk m0 m1 m2 m3 m4 g (decide (offA g < i)) (g && decide (0 < i)) K ∧ J pre.length K) ?_ (m := N) (HLe.refl _)
      ⟨0, [], rfl, by omega, by rw [← hZ]; rfl, by simp [r0], by simp [r3], by simp, by simp [hfl], by simp, by simpa using hB, hJ⟩
    clear r0 r1 r3 hB hJ kb1
    rintro m ρ K ih ⟨i, pre, rfl, hi, hZi, r0, r3, r39, r40, r41, hB, hJ⟩
    by_cases hiN : i < N
    · have hiN' : (i : Int) < (N : Int) := by omega
      have hil : i < fs.length := by omega
      obtain ⟨f, hfj, hf⟩ := getAt hil
      have hff := hfa i hiN
      rw [hf, Option.some.injEq] at hff
      have hw := hi1 i (by omega)
      rw [show N - i = (N - (i + 1)) + 1 by omega, fndA] at hZi
      by_cases hF : i < offA g
      · have hg : g = true := by cases g <;> simp [offA] at hF ⊢
        subst hg
        have hi0 : i = 0 := by simp [offA] at hF; exact hF
        subst hi0
        rw [if_pos hF] at hff
        rw [hff] at hfj
        simp -implicitDefEqProofs [r0, r3, r39, r40, r41, hiN, hiN', hil, hfj, AV.cells, f0_len, f0_take]
        refine AAlloc.intro fun b9 e9 => ?_
        simp -implicitDefEqProofs [f0_len, f0_take, AV.cells, lset_full, f0_k, r3]
        have hB9 := hB.le (HLe.set_fresh (o := .cells f0C 63) e9)
        have hJ9 := hL _ _ _ hJ (HLe.set_fresh (o := .cells f0C 63) e9)
        generalize Heap.set K b9 _ = K9 at *
        have q3 := hB9.h3
        have q4 := hB9.h4
        simp only [Nat.lt_irrefl, decide_false, Bool.and_false, Bool.false_eq_true, if_false] at q3 q4
        refine ACall.intro (c_says hB9.bk q3 q4 d.a34) fun v K5 hv => ?_
        obtain ⟨rfl, l5⟩ := hv
        have hB9' := hB9
        simp only [Nat.lt_irrefl, decide_false, Bool.and_false] at hB9'
        have hB5 := (hB9'.say d).le l5
        have hJ5 := hL _ _ _ (hS _ _ _ _ _ (hS _ _ _ _ _ hJ9 x4 q4 .map) x3 (show _ = some (.map [] 0) by simp [Heap.set, d.a34, q3]) .map) l5
        rw [show outK true 0 = [] by rfl, List.map_nil, List.nil_append] at hZi
        clear l5 hB9 hB9' hJ9 hB hJ q3 q4
        simp -implicitDefEqProofs
        refine AGo.rounds (fun μ ρ K => μ = 0 ∧ ρ 0 = .sc (.func (.yield ly) #[] #[]) ∧ ρ 3 = ptr bk ∧ ρ 39 = .sl fs t ∧ ρ 40 = .sc (.int .i64 (N : Int)) ∧ ρ 41 = .sc (.int .i64 0) ∧ ρ 60 = .sc (.int .i64 0) ∧ ρ 61 = .sc (.int .i64 0) ∧ K = K5) ?_ (m := 0) (HLe.refl _)
          ⟨rfl, by simp [r0], by simp [r3], by simp [r39], by simp [r40], by simp [r41], by simp, by simp, rfl⟩
        clear r0 r3 r39 r40 r41
        rintro μ ρ2 K2 ih2 ⟨rfl, r0, r3, r39, r40, r41, r60, r61, rfl⟩
        have w1 : IntKind.i64.wrap 1 = 1 := by decide
        simp -implicitDefEqProofs [r60, r61, r41, w1]
        exact AGo.again ih (m' := N - 1) (by omega) (HLe.refl _) ⟨1, pre, rfl, by omega, hZi, by simp [r0], by simp [r3], by simp [r39], by simp [r40], by simp, by simpa [offA] using hB5, hJ5⟩
      · rw [if_neg hF] at hff
        rw [hff] at hfj
        simp -implicitDefEqProofs [r0, r3, r39, r40, r41, hiN', hil, hfj, AV.cells, f1_len, f1_take]
        refine AAlloc.intro fun b9 e9 => ?_
        simp -implicitDefEqProofs [f1_len, f1_take, AV.cells, lset_full, f1_k, r3]
        have hB9 := hB.le (HLe.set_fresh (o := .cells f1C 63) e9)
        have hJ9 := hL _ _ _ hJ (HLe.set_fresh (o := .cells f1C 63) e9)
        generalize Heap.set K b9 _ = K9 at *
        rw [f1_note]
        refine ACall.intro (c_accepts hB9 d) fun v K5 hv => ?_
        obtain ⟨t5, rfl, l5⟩ := hv
        have hB5 := (hB9.acc d).le l5
        have hJ5 := hL _ _ _ (hS _ _ _ _ _ (hS _ _ _ _ _ hJ9 x1 hB9.h1 .map) x2 (by rw [← hB9.h2]; simp [Heap.set, d.a12.symm]) .map) l5
        obtain ⟨ks, hks⟩ : ∃ ks, ((if decide (offA g < i) = true then [1] else []) ++ (if g = true then [] else [3]) : List Nat) = ks := ⟨_, rfl⟩
        rw [hks]
        have hko : outK g i = ks := by rw [← hks, outK, if_neg hF]; simp
        have hkl : ks.length ≤ 2 := by rw [← hks]; cases g <;> (split <;> simp)
        have hk9 : ∀ k ∈ ks, k < 256 := by rw [← hks]; cases g <;> (split <;> simp)
        rw [hko] at hZi
        clear hks hko l5 hB9 hJ9 hB hJ
        simp -implicitDefEqProofs
        refine AGo.rounds (fun μ ρ K => ∃ q : Nat, μ = ks.length - q ∧ q ≤ ks.length ∧ ρ 0 = .sc (.func (.yield ly) #[] #[]) ∧ ρ 3 = ptr bk ∧ ρ 8 = .sc (.int .i64 (i : Int)) ∧ ρ 39 = .sl fs t ∧ ρ 40 = .sc (.int .i64 (N : Int)) ∧ ρ 41 = .sc (.int .i64 (i : Int)) ∧ ρ 59 = .sl (ks.map fun n : Nat => (.sc (.int .u8 (n : Int)) : AV)) t5 ∧
          ρ 60 = .sc (.int .i64 (ks.length : Int)) ∧ ρ 61 = .sc (.int .i64 (q : Int)) ∧ Bk bk m0 m1 m2 m3 m4 g true (g && decide (0 < i)) K ∧ J (pre.length + q) K) ?_ (m := ks.length) (HLe.refl _)
          ⟨0, rfl, by omega, by simp [r0], by simp [r3], by simp, by simp [r39], by simp [r40], by simp [r41], by simp, by simp, by simp, hB5, hJ5⟩
        clear r0 r3 r39 r40 r41 hB5 hJ5
        rintro μ ρ2 K2 ih2 ⟨q, rfl, hq, r0, r3, r8, r39, r40, r41, r59, r60, r61, hB, hJ⟩
        by_cases hqk : q < ks.length
        · have hqk' : (q : Int) < (ks.length : Int) := by omega
          obtain ⟨x, hxj, hx⟩ := getAt hqk
          have hwq := hi1 q (by omega)
          have hz : Z[pre.length + q]? = some (x, i) := by
            rw [hZi, List.getElem?_append_right (by omega), Nat.add_sub_cancel_left, List.getElem?_append_left (by simpa using hqk), List.getElem?_map, hx]
            rfl
          have hc := hY _ _ _ hz hJ
          simp -implicitDefEqProofs [r0, r3, r8, r39, r40, r41, r59, r60, r61, hqk, hqk', hxj]
          refine ACall.intro hc fun v K' hv => ?_
          obtain ⟨hk, hv⟩ := hv
          have hB' := hB.keep hk xk x0 x1 x2 x3 x4
          rcases hv with ⟨rfl, hJ'⟩ | ⟨rfl, hJx⟩
          · simp -implicitDefEqProofs [r61, hwq]
            exact AGo.again ih2 (m' := ks.length - (q + 1)) (by omega) (HLe.refl _) ⟨q + 1, rfl, by omega, by simp [r0], by simp [r3], by simp [r8], by simp [r39], by simp [r40], by simp [r41], by simp [r59], by simp [r60], by simp, hB', hJ'⟩
          · simp -implicitDefEqProofs
            exact AFin.intro _ _ (wk_refl _) (HWk.refl _) (.inr hJx)
        · have hqk' : ¬ (q : Int) < (ks.length : Int) := by omega
          obtain rfl : q = ks.length := by omega
          simp -implicitDefEqProofs [r60, r61, hqk', r41, hw]
          exact AGo.again ih (m' := N - (i + 1)) (by omega) (HLe.refl _) ⟨i + 1, pre ++ ks.map (·, i), rfl, by omega, by rw [hZi, List.append_assoc], by simp [r0], by simp [r3], by simp [r39], by simp [r40], by simp, by
            have e1 : decide (offA g < i + 1) = true := by simp; omega
            have e2 : (g && decide (0 < i + 1)) = (g && decide (0 < i)) := by
              cases g
              · rfl
              · simp [offA] at hF; simp; omega
            rw [e1, e2]; exact hB, by simpa using hJ⟩
    · have hiN' : ¬ (i : Int) < (N : Int) := by omega
      obtain rfl : i = N := by omega
      rw [Nat.sub_self, fndA, List.append_nil] at hZi
      simp -implicitDefEqProofs [r0, r3, r39, r40, r41, hiN']
      subst hZi
      exact AFin.intro _ _ (wk_refl _) (HWk.refl _) (.inl hJ)
end Go.Proofs.YtghlkjkdejebnaaDoor
namespace Go.Proofs.YtghlkjkdejebnaaDoor
open Rg Go Go.RowKit
variable {H : Heap}
def cntA (j : Nat) : List AV := [.sc (.int .i64 (j : Int)), .sc (.int .i64 (j : Int)), .sc (.int .i64 0), .sc (.int .i64 0), .sc (.int .i64 0), .sc (.int .i64 0)]
theorem del_applyA {H : Heap} {b c : Nat} : Heap.del H b c = if c = b then none else H c := rfl
theorem mark_nrmA {Q : Post} {D : Nat} : (Q.mark D).nrm = fun ρ H => H D = some .dfr ∧ Q.nrm ρ (H.del D) := rfl
theorem mark_retA {Q : Post} {D : Nat} : (Q.mark D).ret = fun ρ H => H D = some .dfr ∧ Q.ret ρ (H.del D) := rfl
theorem w11 : IntKind.i64.wrap 1 = 1 := by decide
theorem fnd_three : fndA true 0 (offA true + 2) = [(1, 2)] := rfl
theorem c_count : AOk Tryd.prog 9 [.sl (factsA true 2) .full] H (.agg (cntA 1)) H := by
  refine ACalls.into Tryd.func9 rfl Tryd.ntmps9 Tryd.results9 (by simp) ?_
  simp -implicitDefEqProofs
  refine AAlloc.intro fun b2 h2 => ?_
  simp -implicitDefEqProofs
  refine AAlloc.intro fun b3 h3 => ?_
  have n23 : b2 ≠ b3 := by rintro rfl; simp [Heap.set] at h3
  have e3 : H b3 = none := (HLe.set_fresh h2).none h3
  simp -implicitDefEqProofs
  generalize hK : Heap.set _ b3 _ = K1
  have k2 : K1 b2 = some (.cells (cntA 0) 35) := by rw [← hK]; simp [Heap.set, n23, cntA]
  have k3 : K1 b3 = some (.cells (cntA 0) 35) := by rw [← hK]; simp [Heap.set, cntA]
  have kW : HWk H K1 := by rw [← hK]; exact HWk.new e3 (HWk.new h2 (HWk.refl _))
  clear hK h3
  refine ACall.intro (c_run _ _ (by simp)) fun v K3 hv => ?_
  obtain ⟨c1, rfl, hle, q1⟩ := hv
  have k23 := hle _ _ k2
  have k33 := hle _ _ k3
  have kW3 : HWk H K3 := kW.trans hle.wk
  simp -implicitDefEqProofs
  refine AGo.rangeF (gf := 21) (lb := #[.pointer (some ⟨c1, 0, none⟩)])
    (fun D l _ K => K b3 = some (.cells (cntA 1) 35) ∧ K b2 = some (.cells (cntA 0) 35) ∧ K D = some .dfr ∧ (∃ r, K l = some (.lrec r) ∧ r.st ≠ .busy ∧ r.pe = none) ∧ HWk H K) rfl (by simp) (by simp) ?_ ?_ ?_
  · intro D l hD hl
    generalize hr : ARec.mk _ _ _ _ _ _ _ _ = r0
    have hst : r0.st = .ready := by rw [← hr]
    have hpe : r0.pe = none := by rw [← hr]
    have hps : r0.ps.size = 1 := by rw [← hr]; rfl
    have hDl : D ≠ l := by intro e; subst e; simp [Heap.set] at hl
    have hl3 : K3 l = none := by simpa [Heap.set, hDl.symm] using hl
    have ne1 : ∀ {c : Nat} {o : AObj}, K3 c = some o → c ≠ D := by
      intro c o hc e
      subst e
      rw [hc] at hD
      cases hD
    have ne2 : ∀ {c : Nat} {o : AObj}, K3 c = some o → c ≠ l := by
      intro c o hc e
      subst e
      rw [hc] at hl3
      cases hl3
    have n3l := ne2 k33
    have n3D := ne1 k33
    have n2l := ne2 k23
    have n2D := ne1 k23
    have n1l := ne2 q1
    have n1D := ne1 q1
    have eD : H D = none := kW3.none hD
    have el : H l = none := kW3.none hl3
    have H0none : ∀ p, ((K3.set D .dfr).set l (.lrec r0)) p = none → p ≠ b3 ∧ p ≠ b2 ∧ p ≠ D ∧ p ≠ l ∧ H p = none := by
      intro p hp
      have p1 : p ≠ l := by rintro rfl; simp [Heap.set] at hp
      have p2 : p ≠ D := by rintro rfl; simp [Heap.set, hDl] at hp
      have p3 : K3 p = none := by simpa [Heap.set, p1, p2] using hp
      exact ⟨(by rintro rfl; rw [k33] at p3; cases p3), (by rintro rfl; rw [k23] at p3; cases p3), p2, p1, kW3.none p3⟩
    refine (c_runIt (ly := l) (b1 := c1) (t := .full) true 2 (by omega)
      (fun j K => K b3 = some (.cells (cntA j) 35) ∧ K b2 = some (.cells (cntA 0) 35) ∧ K l = some (.lrec r0) ∧ K D = some .dfr ∧ HWk H K)
      (fun K => False) ?_ ?_ ?_ ?_ ?_).mono ?_
    · rintro j K K' ⟨g3, g2, gl, gD, gW⟩ hk
      exact ⟨hk _ _ g3, hk _ _ g2, hk _ _ gl, hk _ _ gD, gW.trans hk.wk⟩
    · rintro j K p o o' ⟨g3, g2, gl, gD, gW⟩ hp hKp ho
      obtain ⟨p3, p2, pD, pl, pH⟩ := H0none p hp
      exact ⟨by simp [Heap.set, p3.symm, g3], by simp [Heap.set, p2.symm, g2], by simp [Heap.set, pl.symm, gl], by simp [Heap.set, pD.symm, gD], HWk.new pH gW⟩
    · rintro j K z hz ⟨g3, g2, gl, gD, gW⟩
      rw [fnd_three] at hz
      have hj : j = 0 := by
        rcases j with _ | j
        · rfl
        · simp at hz
      subst hj
      simp only [List.getElem?_cons_zero, Option.some.injEq] at hz
      subst hz
      refine ACalls.round gl (by simp [hps]) ?_
      subst hr
      simp -implicitDefEqProofs [aputs]
      refine AAlloc.intro fun b4 h4 => ?_
      simp -implicitDefEqProofs
      generalize hKa : Heap.set K b4 _ = Ka
      have lA : HLe K Ka := by rw [← hKa]; exact HLe.set_fresh h4
      have k4 : Ka b4 = some (.cells [.sc (.int .u8 1), .sc (.int .i64 2)] 23) := by rw [← hKa]; simp [Heap.set]
      clear hKa
      have n4l : b4 ≠ l := by rintro rfl; rw [gl] at h4; cases h4
      have n43 : b4 ≠ b3 := by rintro rfl; rw [g3] at h4; cases h4
      refine AGo.bgn rfl (lA _ _ gl) rfl ?_
      simp -implicitDefEqProofs [lA _ _ g3, n3l, n4l, k4, cntA, n43, w11]
      have b3l : b3 ≠ l := n3l
      refine ⟨_, by simp [Heap.set, n3l.symm]; rfl, ?_, rfl, by simp [Heap.set, n3l], by simp [Heap.set, n2l, n23, lA _ _ g2, cntA], by simp [Heap.set], by simp [Heap.set, hDl, n3D.symm, lA _ _ gD], HWk.new el (HWk.new e3 (HWk.new el (gW.trans lA.wk)))⟩
      intro p o hp hKp _
      obtain ⟨p3, p2, pD, pl, pH⟩ := H0none p hp
      simp only [Heap.set, if_neg pl, if_neg p3]
      exact lA _ _ hKp
    · exact ⟨by simp [Heap.set, n3l, n3D, k33], by simp [Heap.set, n2l, n2D, k23], by simp [Heap.set], by simp [Heap.set, hDl], HWk.new el (HWk.new eD kW3)⟩
    · simp [Heap.set, n1l, n1D, q1]
    · rintro v K (⟨g3, g2, gl, gD, gW⟩ | h)
      · exact ⟨g3, g2, gD, ⟨r0, gl, by rw [hst]; simp, hpe⟩, gW⟩
      · exact h.elim
  · rintro D l v K hD hl ⟨_, _, _, ⟨r, h1, h2, _⟩, _⟩
    exact ⟨r, h1, h2⟩
  · rintro D l v K r hD hl ⟨g3, g2, gD, ⟨r', gl, _, hpe⟩, gW⟩ hK
    rw [gl] at hK
    cases hK
    have hDl : D ≠ l := by intro e; subst e; simp [Heap.set] at hl
    have hl3 : K3 l = none := by simpa [Heap.set, hDl.symm] using hl
    have n3l : b3 ≠ l := by rintro rfl; rw [k33] at hl3; cases hl3
    have n2l : b2 ≠ l := by rintro rfl; rw [k23] at hl3; cases hl3
    have eD : H D = none := kW3.none hD
    have el : H l = none := kW3.none hl3
    have n2D : b2 ≠ D := by rintro rfl; rw [g2] at gD; cases gD
    simp -implicitDefEqProofs [hpe, del_applyA, n3l, n2l, n2D, n2D.symm, g3, g2, mark_retA, mark_nrmA, hDl, gD, cntA]
    exact HWk.dels eD (HWk.new h2 (HWk.dels el gW))
end Go.Proofs.YtghlkjkdejebnaaDoor
namespace Go.Proofs.YtghlkjkdejebnaaDoor
open Rg Go
variable {H : Heap}
structure RowZ (sz : Nat) (e T : TypeId) (H0 : Heap) (c n : Nat) (F : Rg.Tok → List AV) (K : Heap) : Prop where
  le : HLe H0 K
  no : H0 c = none
  row : ∃ t, K c = some (.cells (F t) T) ∧ ((t = .nil ∧ n = 0) ∨ ∃ g cap, g ≠ c ∧ H0 g = none ∧ t = .own g cap sz e ∧ K g = some (.open n cap sz e))
theorem RowZ.new {sz : Nat} {e T : TypeId} {H0 K : Heap} {c n p : Nat} {F : Rg.Tok → List AV} {o : AObj} (h : RowZ sz e T H0 c n F K) (hp : K p = none) : RowZ sz e T H0 c n F (K.set p o) := by
  obtain ⟨t, h1, h2⟩ := h.row
  have hpc : c ≠ p := by rintro rfl; rw [h1] at hp; cases hp
  refine ⟨h.le.trans (HLe.set_fresh hp), h.no, t, by simp [Heap.set, hpc, h1], h2.imp id ?_⟩
  rintro ⟨g, cap, g1, g2, g3, g4⟩
  have : g ≠ p := by rintro rfl; rw [hp] at g4; cases g4
  exact ⟨g, cap, g1, g2, g3, by simp [Heap.set, this, g4]⟩
theorem RowZ.grows {sz : Nat} {e T : TypeId} {H0 K : Heap} {c : Nat} {F : Rg.Tok → List AV} {xs : List AV} (h : RowZ sz e T H0 c xs.length F K) :
    ∃ t G0 G, K c = some (.cells (F t) T) ∧ Grows G0 xs sz e t G ∧ HLe G K ∧ HLe H0 G0 ∧ G0 c = some (.cells (F t) T) ∧ ∀ p cs T', K p = some (.cells cs T') → G0 p = some (.cells cs T') := by
  obtain ⟨t, h1, ⟨rfl, hn⟩ | ⟨g, cap, h2, h3, rfl, h4⟩⟩ := h.row
  · obtain rfl := List.length_eq_zero_iff.1 hn
    exact ⟨_, K, K, h1, .zero, HLe.refl _, h.le, h1, fun _ _ _ h => h⟩
  · refine ⟨_, K.del g, (K.del g).set g (.open xs.length cap sz e), h1, .inr ⟨g, cap, by simp [Heap.del], rfl, rfl⟩, fun b ob hb => ?_, HLe.del_new h.le h3, by simp [Heap.del, Ne.symm h2, h1], fun p cs T' hp => ?_⟩
    · by_cases hbg : b = g
      · subst hbg
        simp only [Heap.set, if_true] at hb
        rw [← hb]; exact h4
      · simpa [Heap.set, Heap.del, hbg] using hb
    · have : p ≠ g := by rintro rfl; rw [h4] at hp; cases hp
      simp [Heap.del, this, hp]
theorem RowZ.stored {sz : Nat} {e T : TypeId} {H0 G0 K' Hn : Heap} {c : Nat} {xs : List AV} {F : Rg.Tok → List AV} {t' : Rg.Tok} {o : AObj} (h1 : HLe H0 G0) (h2 : H0 c = none) (h3 : G0 c = some o) (h4 : Grows G0 xs sz e t' K') (h5 : HLe K' Hn) :
    RowZ sz e T H0 c xs.length F (Hn.set c (.cells (F t') T)) := by
  have hle := (h1.trans h4.le).trans h5
  refine ⟨HLe.set_new hle h2, h2, t', by simp [Heap.set], ?_⟩
  rcases h4 with ⟨rfl, rfl, rfl⟩ | ⟨g, cap, g1, rfl, rfl⟩
  · exact .inl ⟨rfl, rfl⟩
  · have hgc : g ≠ c := by rintro rfl; rw [h3] at g1; cases g1
    exact .inr ⟨g, cap, hgc, h1.none g1, rfl, by simp [Heap.set, hgc]; exact h5 g _ (by simp [Heap.set])⟩
theorem RowZ.setO {sz : Nat} {e T : TypeId} {H0 K : Heap} {c n p : Nat} {F : Rg.Tok → List AV} {o o' : AObj} (h : RowZ sz e T H0 c n F K) (hp0 : H0 p = none) (hpc : p ≠ c) (hp : K p = some o) (ho : ∀ n cap sz e, o ≠ .open n cap sz e) : RowZ sz e T H0 c n F (K.set p o') := by
  obtain ⟨t, h1, h2⟩ := h.row
  refine ⟨HLe.set_new h.le hp0, h.no, t, by simp [Heap.set, hpc.symm, h1], h2.imp id ?_⟩
  rintro ⟨g, cap, g1, g2, g3, g4⟩
  have : g ≠ p := by rintro rfl; rw [hp] at g4; cases g4; exact ho _ _ _ _ rfl
  exact ⟨g, cap, g1, g2, g3, by simp [Heap.set, this, g4]⟩
theorem RowZ.grows' {sz : Nat} {e T : TypeId} {H0 K : Heap} {c : Nat} {F : Rg.Tok → List AV} {xs : List AV} (h : RowZ sz e T H0 c xs.length F K) :
    ∃ t G0 G, K c = some (.cells (F t) T) ∧ Grows G0 xs sz e t G ∧ HLe G K ∧ HLe H0 G0 ∧ G0 c = some (.cells (F t) T) ∧ ∀ p o, K p = some o → (∀ n cap sz e, o ≠ .open n cap sz e) → G0 p = some o := by
  obtain ⟨t, h1, ⟨rfl, hn⟩ | ⟨g, cap, h2, h3, rfl, h4⟩⟩ := h.row
  · obtain rfl := List.length_eq_zero_iff.1 hn
    exact ⟨_, K, K, h1, .zero, HLe.refl _, h.le, h1, fun _ _ h _ => h⟩
  · refine ⟨_, K.del g, (K.del g).set g (.open xs.length cap sz e), h1, .inr ⟨g, cap, by simp [Heap.del], rfl, rfl⟩, fun b ob hb => ?_, HLe.del_new h.le h3, by simp [Heap.del, Ne.symm h2, h1], fun p o hp ho => ?_⟩
    · by_cases hbg : b = g
      · subst hbg
        simp only [Heap.set, if_true] at hb
        rw [← hb]; exact h4
      · simpa [Heap.set, Heap.del, hbg] using hb
    · have : p ≠ g := by rintro rfl; rw [h4] at hp; cases hp; exact ho _ _ _ _ rfl
      simp [Heap.del, this, hp]
theorem RowZ.cell {sz : Nat} {e T : TypeId} {H0 K : Heap} {c n : Nat} {F F' : Rg.Tok → List AV} {t : Rg.Tok} {cs : List AV} (h : RowZ sz e T H0 c n F K) (hc : K c = some (.cells cs T)) (ht : ∀ t', cs = F t' → F' t' = F' t) : RowZ sz e T H0 c n F' (K.set c (.cells (F' t) T)) := by
  obtain ⟨t', h1, h2⟩ := h.row
  rw [hc] at h1
  have h1' : cs = F t' := by simpa using h1
  refine ⟨HLe.set_new h.le h.no, h.no, t', by simp [Heap.set, ht t' h1'], h2.imp id ?_⟩
  rintro ⟨g, cap, g1, g2, g3, g4⟩
  exact ⟨g, cap, g1, g2, g3, by simp [Heap.set, g1, g4]⟩
theorem RowZ.up {sz : Nat} {e T : TypeId} {H0 K K' : Heap} {c n : Nat} {F : Rg.Tok → List AV} (h : RowZ sz e T H0 c n F K) (hle : HLe K K') : RowZ sz e T H0 c n F K' := by
  obtain ⟨r1, r2, t, r3, r4⟩ := h
  refine ⟨r1.trans hle, r2, t, hle _ _ r3, r4.imp id ?_⟩
  rintro ⟨g, cap, g1, g2, g3, g4⟩
  exact ⟨g, cap, g1, g2, g3, hle _ _ g4⟩
def GrowsS (H0 : Heap) (xs : List AV) (sz : Nat) (e : TypeId) (t : Rg.Tok) (K : Heap) : Prop :=
  (t = .full ∧ K = H0) ∨ ∃ g cap, H0 g = none ∧ t = .own g cap sz e ∧ K = H0.set g (.open xs.length cap sz e)
theorem GrowsS.le {H0 K : Heap} {xs : List AV} {sz : Nat} {e : TypeId} {t : Rg.Tok} (h : GrowsS H0 xs sz e t K) : HLe H0 K := by
  rcases h with ⟨_, rfl⟩ | ⟨g, cap, h1, _, rfl⟩
  · exact HLe.refl _
  · exact (HLe.refl _).set_new h1
def GrowsK (H0 : Heap) (n sz : Nat) (e : TypeId) (t : Rg.Tok) (K : Heap) : Prop := (t = .nil ∧ n = 0) ∨ ∃ g cap, H0 g = none ∧ t = .own g cap sz e ∧ K g = some (.open n cap sz e)
theorem GrowsK.up {H0 K K' : Heap} {n sz : Nat} {e : TypeId} {t : Rg.Tok} (h : GrowsK H0 n sz e t K) (hle : HLe K K') : GrowsK H0 n sz e t K' :=
  h.imp id fun ⟨g, cap, h1, h2, h3⟩ => ⟨g, cap, h1, h2, hle _ _ h3⟩
theorem GrowsK.grows {H0 K : Heap} {xs : List AV} {sz : Nat} {e : TypeId} {t : Rg.Tok} (h : GrowsK H0 xs.length sz e t K) (hl : HLe H0 K) :
    ∃ G0 G, Grows G0 xs sz e t G ∧ HLe G K ∧ HLe H0 G0 ∧ ∀ p o, K p = some o → (∀ n cap, o ≠ .open n cap sz e) → G0 p = some o := by
  rcases h with ⟨rfl, hn⟩ | ⟨g, cap, h3, rfl, h4⟩
  · obtain rfl := List.length_eq_zero_iff.1 hn
    exact ⟨K, K, .zero, HLe.refl _, hl, fun _ _ h _ => h⟩
  · refine ⟨K.del g, (K.del g).set g (.open xs.length cap sz e), .inr ⟨g, cap, by simp [Heap.del], rfl, rfl⟩, fun b ob hb => ?_, HLe.del_new hl h3, fun p o hp ho => ?_⟩
    · by_cases hbg : b = g
      · subst hbg
        simp only [Heap.set, if_true] at hb
        rw [← hb]; exact h4
      · simpa [Heap.set, Heap.del, hbg] using hb
    · have : p ≠ g := by rintro rfl; rw [h4] at hp; cases hp; exact ho _ _ rfl
      simp [Heap.del, this, hp]
end Go.Proofs.YtghlkjkdejebnaaDoor
namespace Go.Proofs.YtghlkjkdejebnaaDoor
open Rg Go Go.RowKit
variable {H : Heap}
abbrev fisAV (l : List (Nat × Nat)) : List AV := l.map fiAV
theorem szs_fis (l : List (Nat × Nat)) : szs 2 (fisAV l) = true := by simp [szs, AV.cells]
structure JSome (H0 : Heap) (Z : List (Nat × Nat)) (b3 b5 l D : Nat) (r : ARec) (j : Nat) (K : Heap) : Prop where
  row : RowZ 2 27 40 H0 b5 (fisAV (Z.take j)).length (fun t => [.sl (fisAV (Z.take j)) t]) K
  kl : K l = some (.lrec r)
  kD : K D = some .dfr
  k3 : K b3 = some (.cells [.sc (.int .i64 9)] 3)
set_option maxHeartbeats 2000000 in
theorem c_some {t : Rg.Tok} (g : Bool) (n : Nat) (hn : n ≤ 2) : ACalls Tryd.prog 12 [.sl (factsA g n) t, .sc (.int .i64 9)] H (fun v K => ∃ tt, v = .sl (fisAV (fndA g 0 (offA g + n))) tt ∧ HLe H K) := by
  obtain ⟨Z, hZ⟩ : ∃ Z, fndA g 0 (offA g + n) = Z := ⟨_, rfl⟩
  have hZl : Z.length ≤ 8 := by
    rw [← hZ]
    have hn3 : n = 0 ∨ n = 1 ∨ n = 2 := by omega
    rcases hn3 with rfl | rfl | rfl <;> cases g <;> decide
  generalize hR : (fun (v : AV) (K : Heap) => ∃ tt, v = .sl (fisAV (fndA g 0 (offA g + n))) tt ∧ HLe H K) = R
  rw [hZ] at hR
  refine ACalls.into Tryd.func12 rfl Tryd.ntmps12 Tryd.results12 (by simp) ?_
  simp -implicitDefEqProofs [AV.cells]
  refine AAlloc.intro fun b3 h3 => ?_
  simp -implicitDefEqProofs
  refine AAlloc.intro fun b5 h5 => ?_
  have n35 : b3 ≠ b5 := by rintro rfl; simp [Heap.set] at h5
  have e5 : H b5 = none := (HLe.set_fresh h3).none h5
  simp -implicitDefEqProofs
  generalize hK : Heap.set _ b5 _ = K1
  have k3 : K1 b3 = some (.cells [.sc (.int .i64 9)] 3) := by rw [← hK]; simp [Heap.set, n35]
  have k5 : K1 b5 = some (.cells [.sl [] .nil] 40) := by rw [← hK]; simp [Heap.set]
  have hHK : HLe H K1 := by rw [← hK]; exact ((HLe.refl H).set_new h3).set_new e5
  clear hK h5
  refine ACall.intro (c_run _ _ (by simp)) fun v K3 hv => ?_
  obtain ⟨c1, rfl, hle, q1⟩ := hv
  have k33 := hle _ _ k3
  have k53 := hle _ _ k5
  have hHK3 : HLe H K3 := hHK.trans hle
  simp -implicitDefEqProofs
  refine AGo.rangeF (gf := 21) (lb := #[.pointer (some ⟨c1, 0, none⟩)])
    (fun D l _ K => K D = some .dfr ∧ (∃ r, K l = some (.lrec r) ∧ r.st ≠ .busy ∧ r.pe = none) ∧ RowZ 2 27 40 H b5 (fisAV Z).length (fun t => [.sl (fisAV Z) t]) K) rfl (by simp) (by simp) ?_ ?_ ?_
  · intro D l hD hl
    generalize hr : ARec.mk _ _ _ _ _ _ _ _ = r0
    have hst : r0.st = .ready := by rw [← hr]
    have hpe : r0.pe = none := by rw [← hr]
    have hps : r0.ps.size = 1 := by rw [← hr]; rfl
    have hDl : D ≠ l := by intro e; subst e; simp [Heap.set] at hl
    have hl3 : K3 l = none := by simpa [Heap.set, hDl.symm] using hl
    have ne1 : ∀ {c : Nat} {o : AObj}, K3 c = some o → c ≠ D := by rintro c o hc rfl; rw [hc] at hD; cases hD
    have ne2 : ∀ {c : Nat} {o : AObj}, K3 c = some o → c ≠ l := by rintro c o hc rfl; rw [hc] at hl3; cases hl3
    have m3l := ne2 k33
    have m5l := ne2 k53
    have m5D := ne1 k53
    have m3D := ne1 k33
    have el : H l = none := hHK3.none hl3
    generalize hKs : (K3.set D .dfr).set l (.lrec r0) = Ks
    have ls : HLe K3 Ks := by rw [← hKs]; exact (HLe.set_fresh hD).trans (HLe.set_fresh hl)
    have sl : Ks l = some (.lrec r0) := by rw [← hKs]; simp [Heap.set]
    have sD : Ks D = some .dfr := by rw [← hKs]; simp [Heap.set, hDl]
    have s3 := ls _ _ k33
    have s5 := ls _ _ k53
    have sH : HLe H Ks := hHK3.trans ls
    clear hKs
    refine (c_runIt (ly := l) (b1 := c1) (t := t) g n (by omega) (JSome H Z b3 b5 l D r0) (fun _ => False) ?_ ?_ ?_ ?_ ?_).mono ?_
    · rintro j K K' ⟨h1, h2, h3, h4⟩ hk
      exact ⟨h1.up hk, hk _ _ h2, hk _ _ h3, hk _ _ h4⟩
    · rintro j K p o o' ⟨h1, h2, h3, h4⟩ hp hKp ho
      have pl : p ≠ l := by rintro rfl; rw [sl] at hp; cases hp
      have pD : p ≠ D := by rintro rfl; rw [sD] at hp; cases hp
      have p3 : p ≠ b3 := by rintro rfl; rw [s3] at hp; cases hp
      have p5 : p ≠ b5 := by rintro rfl; rw [s5] at hp; cases hp
      exact ⟨h1.setO (sH.none hp) p5 hKp ho, by simp [Heap.set, pl.symm, h2], by simp [Heap.set, pD.symm, h3], by simp [Heap.set, p3.symm, h4]⟩
    · rintro j K z hz ⟨h1, h2, h3', h4⟩
      rw [hZ] at hz
      have hjl := (List.getElem?_eq_some_iff.1 hz).1
      have htk : Z.take (j + 1) = Z.take j ++ [z] := by
        rw [List.take_succ_eq_append_getElem hjl, (List.getElem?_eq_some_iff.1 hz).2]
      have hxl : (Z.take j).length ≤ 7 := by rw [List.length_take]; omega
      have hd : fisAV (Z.take j) ++ [fiAV z] = fisAV (Z.take (j + 1)) := by rw [htk]; simp
      obtain ⟨ys, hys⟩ : ∃ ys, fisAV (Z.take (j + 1)) = ys := ⟨_, rfl⟩
      rw [hys] at hd
      refine ACalls.round h2 (by simp [hps]) ?_
      obtain ⟨r9', hr9⟩ : ∃ r9, r0 = r9 := ⟨_, rfl⟩
      clear hps hst hpe
      subst hr
      simp -implicitDefEqProofs [aputs]
      refine AAlloc.intro fun b6 h6 => ?_
      simp -implicitDefEqProofs
      generalize hKa : Heap.set K b6 _ = Ka
      have lA : HLe K Ka := by rw [← hKa]; exact HLe.set_fresh h6
      have k6 : Ka b6 = some (.cells [.sc (.int .u8 (z.1 : Int)), .sc (.int .i64 (z.2 : Int))] 23) := by rw [← hKa]; simp [Heap.set]
      clear hKa
      have m6l : b6 ≠ l := by rintro rfl; rw [h2] at h6; cases h6
      refine AGo.bgn rfl (lA _ _ h2) rfl ?_
      rw [hr9] at h2 sl ⊢
      generalize hrb : ARec.mk _ _ _ _ _ _ _ _ = rb
      generalize hKb : Heap.set Ka l _ = Kb
      have rowa := h1.up lA
      have rowb : RowZ 2 27 40 H b5 (fisAV (Z.take j)).length (fun t => [.sl (fisAV (Z.take j)) t]) Kb := by rw [← hKb]; exact rowa.setO el m5l.symm (lA _ _ h2) (by simp)
      have ml : Kb l = some (.lrec rb) := by rw [← hKb]; simp [Heap.set]
      have mD : Kb D = some .dfr := by rw [← hKb]; simp only [Heap.set, if_neg hDl]; exact lA _ _ h3'
      have m3 : Kb b3 = some (.cells [.sc (.int .i64 9)] 3) := by rw [← hKb]; simp only [Heap.set, if_neg m3l]; exact lA _ _ h4
      have m6 : Kb b6 = some (.cells [.sc (.int .u8 (z.1 : Int)), .sc (.int .i64 (z.2 : Int))] 23) := by rw [← hKb]; simp only [Heap.set, if_neg m6l]; exact k6
      have hkeep : ∀ p o, Ks p = none → K p = some o → Kb p = some o := by
        intro p o hp hKp
        have : p ≠ l := by rintro rfl; rw [sl] at hp; cases hp
        rw [← hKb]
        simp only [Heap.set, if_neg this]
        exact lA _ _ hKp
      clear hKb
      obtain ⟨tk, kb5, _⟩ := rowb.row
      have hxs : (fisAV (Z.take j)).length ≤ 7 := by simpa using hxl
      generalize hxs0 : fisAV (Z.take j) = xs at *
      simp -implicitDefEqProofs [kb5, m6]
      obtain ⟨tk', G0, G', g1, g2, g3, g4, g5, g6⟩ := rowb.grows'
      obtain rfl : tk = tk' := by rw [kb5] at g1; simpa using g1
      refine AApp.grows el_40 g2 g3 (by simp) (by rw [← hxs0]; exact szs_fis _) (by simp [szs, AV.cells]) (by simp; omega) (by simp [maxLen]; omega) fun t' K4 Hn hg' hl' => ?_
      rw [hd] at hg' ⊢
      have hn5 := hl' _ _ (hg'.le _ _ g5)
      have kp : ∀ {p : Nat} {o : AObj}, Kb p = some o → (∀ n cap sz e, o ≠ .open n cap sz e) → Hn p = some o := fun {p o} hp ho => hl' _ _ (hg'.le _ _ (g6 p o hp ho))
      have hsd := RowZ.stored (T := 40) (F := fun t' => [.sl ys t']) g4 e5 g5 hg' hl'
      have hyl : ys.length ≤ 8 := by rw [← hys]; simp; omega
      have hyl' : ¬ (9 : Int) ≤ (ys.length : Int) := by omega
      simp -implicitDefEqProofs [hn5, n35, kp m3, hyl']
      refine ⟨rb, by simp [Heap.set, m5l.symm]; exact kp ml (by simp), ?_, rfl, ⟨by rw [hys]; exact hsd.setO el m5l.symm (by simp [Heap.set, m5l.symm]; exact kp ml (by simp)) (by simp), by simp [Heap.set]; rw [← hrb, ← hr9], by simp [Heap.set, hDl, m5D.symm]; exact kp mD (by simp), by simp [Heap.set, m3l, n35]; exact kp m3 (by simp)⟩⟩
      intro p o hp hKp ho
      have pl : p ≠ l := by rintro rfl; rw [sl] at hp; cases hp
      have p5 : p ≠ b5 := by rintro rfl; rw [s5] at hp; cases hp
      simp only [Heap.set, if_neg pl, if_neg p5]
      exact kp (hkeep p o hp hKp) ho
    · refine ⟨?_, sl, sD, s3⟩
      rw [List.take_zero]
      exact ⟨sH, e5, .nil, s5, .inl ⟨rfl, rfl⟩⟩
    · exact ls _ _ q1
    · rintro v K (⟨h1, h2, h3, _⟩ | h)
      · rw [hZ, List.take_length] at h1
        exact ⟨h3, ⟨_, h2, by rw [hst]; simp, hpe⟩, h1⟩
      · exact h.elim
  · rintro D l v K hD hl ⟨_, ⟨r, h1, h2, _⟩, _⟩
    exact ⟨r, h1, h2⟩
  · rintro D l v K r hD hl ⟨gD, ⟨r', gl, _, hpe⟩, row⟩ hK
    have hDl : D ≠ l := by intro e; subst e; simp [Heap.set] at hl
    have hl3 : K3 l = none := by simpa [Heap.set, hDl.symm] using hl
    have eD : H D = none := hHK3.none hD
    have el : H l = none := hHK3.none hl3
    rw [gl] at hK
    cases hK
    obtain ⟨tw, k5', _⟩ := row.row
    have m5l : b5 ≠ l := by rintro rfl; rw [k5'] at gl; simp at gl
    have lT : HLe H (K.del l) := HLe.del_new row.le el
    have kT5 : (K.del l) b5 = some (.cells [.sl (fisAV Z) tw] 40) := by simp [Heap.del, m5l, k5']
    have hDT : (K.del l) D = some .dfr := by simp [Heap.del, hDl, gD]
    generalize K.del l = KT at *
    simp -implicitDefEqProofs [hpe, kT5, mark_retA, mark_nrmA, hDT]
    subst hR
    exact AFin.intro _ _ (wk_refl _) (HWk.refl _) ⟨tw, rfl, HLe.del_new lT eD⟩
end Go.Proofs.YtghlkjkdejebnaaDoor
