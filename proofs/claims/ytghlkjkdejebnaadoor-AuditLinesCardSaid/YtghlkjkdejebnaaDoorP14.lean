/- Regions that draw their order, walked by hand: a value that hangs on no cell may be put first at any time; guards. The book: what it answers to the document's facts. -/
import Derived.Test.YtghlkjkdejebnaaDoorP09
import Derived.Test.YtghlkjkdejebnaaDoorP13
set_option linter.unusedSimpArgs false
set_option linter.unusedVariables false
set_option linter.unnecessarySimpa false
namespace Rg
open Go Go.RowKit
variable {P : Program} {n : Nat} {Q : Post} {ρ : Nat → AV} {k : List AItem} {H H0 : Heap}
def pathB (full : Array Oper) : List Nat → Array Bool → Bool
  | [], _ => true
  | i :: r, l => (Region.ready .any full l).contains i && decide (i < full.size) && pathB full r (l.setIfInBounds i true)
theorem path_inv {full : Array Oper} : ∀ (d : List Nat) (l : Array Bool), pathB full d l = true → HeadInv .any full full.size l → HeadInv .any full full.size (d.foldl (fun a i => a.setIfInBounds i true) l)
  | [], l, _, h => h
  | i :: r, l, hp, h => by
    simp only [pathB, Bool.and_eq_true, decide_eq_true_eq] at hp
    obtain ⟨⟨h1, h2⟩, h3⟩ := hp
    exact path_inv r _ h3 (h.set (by simpa using h1) h2)
def pureB (full : Array Oper) (d : List Nat) (i : Nat) : Bool :=
  pathB full d (Array.replicate full.size false) && (Region.ready .any full (markL full.size d)).contains i && Region.free .any full (markL full.size d) i && decide (i < full.size) && decide (d.length < full.size)
theorem AWK.pure {l0 : List Oper} {J : (Nat → AV) → Heap → Prop} {d : List Nat} (i : Nat) (hb : pureB l0.toArray d i = true) (h : AQ3 P n H0 l0.toArray (fun r => AWK P n H0 J l0.toArray (d ++ [i]) r H) ((l0[i]?).toList) ρ) : AWK P n H0 J l0.toArray d ρ H := by
  simp only [pureB, Bool.and_eq_true, decide_eq_true_eq] at hb
  obtain ⟨⟨⟨⟨h1, h2⟩, h3⟩, h4⟩, h5⟩ := hb
  have inv0 : HeadInv .any l0.toArray l0.toArray.size (Array.replicate l0.toArray.size false) :=
    ⟨by simp, fun j oj _ hl => (by rw [getD_replicate_false] at hl; cases hl), fun t _ ht => getD_in (by simpa using ht) (getD_replicate_false _ _)⟩
  have inv := path_inv d _ h1 inv0
  have hi : l0[i]? = some (l0[i]'(by simpa using h4)) := List.getElem?_eq_getElem (by simpa using h4)
  rw [hi] at h
  obtain ⟨v, hy, hK⟩ := h
  have hoi : l0.toArray[i]? = some (l0[i]'(by simpa using h4)) := by rw [List.getElem?_toArray, hi]
  unfold AWK
  rw [show l0.toArray.size - d.length = (l0.toArray.size - (d.length + 1)) + 1 by omega]
  refine wAny_first hoi (waits_all l0.toArray) h4 (fun listed' r H' hL j hj => by rw [hL.1] at hj; cases hj) _ (markL l0.toArray.size d) ρ H inv (Region.free_spec hoi h3) (by simpa using h2) hy ?_
  have hK' : AWK P n H0 J l0.toArray (d ++ [i]) (aput n (l0[i]'(by simpa using h4)).dst v ρ) H := hK
  unfold AWK at hK'
  rw [markL_snoc, List.length_append, List.length_singleton] at hK'
  exact hK'
section
variable {full : Array Oper} {K : (Nat → AV) → Prop} {l : List Oper} {dst : Option Tmp}
end
end Rg
namespace Go.Proofs.YtghlkjkdejebnaaDoor
open Rg Go Go.RowKit
variable {H : Heap}
abbrev mp (m : Nat) : AV := .sc (.map (some m))
def noteC : List AV := [.sc (.int .i64 1), .sc (.int .u64 0), .sc (.int .u64 2), .sc (.int .u64 7), .sc (.int .u64 1), .sc (.int .i64 60), .sc (.bool false)]
structure BookAt (bk m0 m1 m2 m3 m4 : Nat) (H : Heap) : Prop where
  bk : H bk = some (.cells [mp m0, mp m1, mp m2, mp m3, mp m4] 73)
  n01 : m0 ≠ m1
  n02 : m0 ≠ m2
  n12 : m1 ≠ m2
theorem HC.setm {H0 H : Heap} {g : Nat} {o : AObj} (hc : HC H0 H) (h : rd (H0 g) = none) : HC H0 (H.set g o) := fun b cs e => by
  have hb : b ≠ g := by rintro rfl; rw [h] at e; cases e
  simp [Heap.set, hb]; exact hc b cs e
theorem st_lookup {P : Program} {T : TypeId} {x i : Operand} {ok : Bool} {ev : Operand → AV} : astepV P (.lookup T x i ok) ev H = .call P.funcs.size (pa (if ok then 2 else 1) T [ev x, ev i]) := rfl
theorem st_update {P : Program} {T : TypeId} {m k x : Operand} {ev : Operand → AV} : astepV P (.mapUpdate T m k x) ev H = .call P.funcs.size (pa 3 T [ev m, ev k, ev x]) := rfl
theorem ty_of {P : Program} {T : TypeId} (h : (P.underlying T).isSome = true) : ∃ d, P.underlying T = some d := Option.isSome_iff_exists.1 h
section
variable {m c : Nat}
abbrev prA : AV := .agg [.sc (.int .u64 2), .sc (.int .u64 1)]
abbrev lnA : AV := .agg [.sc (.int .u64 7), .sc (.int .u64 1), .sc (.int .u64 2), .sc (.int .i64 60)]
abbrev tokA : AV := .sc (.int .u64 7)
theorem m_pair : Tryd.prog.underlying 69 = some (.map 90 45) := by kernel_rfl
theorem m_launch : Tryd.prog.underlying 67 = some (.map 75 78) := by kernel_rfl
theorem m_set : Tryd.prog.underlying 68 = some (.map 45 78) := by kernel_rfl
theorem m_num : Tryd.prog.underlying 70 = some (.map 45 45) := by kernel_rfl
theorem m_fact : Tryd.prog.underlying 71 = some (.map 45 63) := by kernel_rfl
theorem lk_pair0 (h : H m = some (.map [] c)) : AOk Tryd.prog Tryd.prog.funcs.size (pa 2 69 [mp m, prA]) H (.tup [.sc (.int .u64 0), .sc (.bool false)]) H := by
  obtain ⟨d, hd⟩ := ty_of (P := Tryd.prog) (T := 90) (by kernel_rfl)
  exact c_lookup2_no (k := prA) (z := .int .u64 0) m_pair hd h (by kernel_rfl) (by kernel_rfl) rfl
theorem lk_pair1 (h : H m = some (.map [(prA, .sc (.int .u64 7), 0)] c)) : AOk Tryd.prog Tryd.prog.funcs.size (pa 2 69 [mp m, prA]) H (.tup [.sc (.int .u64 7), .sc (.bool true)]) H := by
  obtain ⟨d, hd⟩ := ty_of (P := Tryd.prog) (T := 90) (by kernel_rfl)
  exact c_lookup2 m_pair hd h (by kernel_rfl) (i := 0) (by kernel_rfl)
theorem lk_set0 (h : H m = some (.map [] c)) : AOk Tryd.prog Tryd.prog.funcs.size (pa 2 68 [mp m, tokA]) H (.tup [.agg [], .sc (.bool false)]) H := by
  obtain ⟨d, hd⟩ := ty_of (P := Tryd.prog) (T := 45) (by kernel_rfl)
  exact c_lookup2_no (k := tokA) (z := .agg #[]) m_set hd h (by kernel_rfl) (by kernel_rfl) rfl
theorem lk_set1 (h : H m = some (.map [(tokA, .agg [], 0)] c)) : AOk Tryd.prog Tryd.prog.funcs.size (pa 2 68 [mp m, tokA]) H (.tup [.agg [], .sc (.bool true)]) H := by
  obtain ⟨d, hd⟩ := ty_of (P := Tryd.prog) (T := 45) (by kernel_rfl)
  exact c_lookup2 m_set hd h (by kernel_rfl) (i := 0) (by kernel_rfl)
theorem lk_launch0 (h : H m = some (.map [] c)) : AOk Tryd.prog Tryd.prog.funcs.size (pa 2 67 [mp m, lnA]) H (.tup [.agg [], .sc (.bool false)]) H := by
  obtain ⟨d, hd⟩ := ty_of (P := Tryd.prog) (T := 75) (by kernel_rfl)
  exact c_lookup2_no (k := lnA) (z := .agg #[]) m_launch hd h (by kernel_rfl) (by kernel_rfl) rfl
theorem lk_launch1 (h : H m = some (.map [(lnA, .agg [], 0)] c)) : AOk Tryd.prog Tryd.prog.funcs.size (pa 2 67 [mp m, lnA]) H (.tup [.agg [], .sc (.bool true)]) H := by
  obtain ⟨d, hd⟩ := ty_of (P := Tryd.prog) (T := 75) (by kernel_rfl)
  exact c_lookup2 m_launch hd h (by kernel_rfl) (i := 0) (by kernel_rfl)
theorem lk_num0 (h : H m = some (.map [] c)) : AOk Tryd.prog Tryd.prog.funcs.size (pa 2 70 [mp m, tokA]) H (.tup [.sc (.int .u64 0), .sc (.bool false)]) H := by
  obtain ⟨d, hd⟩ := ty_of (P := Tryd.prog) (T := 45) (by kernel_rfl)
  exact c_lookup2_no (k := tokA) (z := .int .u64 0) m_num hd h (by kernel_rfl) (by kernel_rfl) rfl
theorem in_pair0 (h : H m = some (.map [] 0)) : AOk Tryd.prog Tryd.prog.funcs.size (pa 3 69 [mp m, prA, .sc (.int .u64 7)]) H (.sc undef) (H.set m (.map [(prA, .sc (.int .u64 7), 0)] 1)) := by
  obtain ⟨d, hd⟩ := ty_of (P := Tryd.prog) (T := 90) (by kernel_rfl)
  exact c_insert m_pair hd h (by kernel_rfl) rfl _
theorem in_pair1 (h : H m = some (.map [(prA, .sc (.int .u64 7), 0)] 1)) : AOk Tryd.prog Tryd.prog.funcs.size (pa 3 69 [mp m, prA, .sc (.int .u64 7)]) H (.sc undef) (H.set m (.map [(prA, .sc (.int .u64 7), 0)] 1)) := by
  obtain ⟨d, hd⟩ := ty_of (P := Tryd.prog) (T := 90) (by kernel_rfl)
  exact c_update m_pair hd h (by kernel_rfl) (i := 0) (b := 0) (by kernel_rfl) rfl _
theorem in_set0 (h : H m = some (.map [] 0)) : AOk Tryd.prog Tryd.prog.funcs.size (pa 3 68 [mp m, tokA, .agg []]) H (.sc undef) (H.set m (.map [(tokA, .agg [], 0)] 1)) := by
  obtain ⟨d, hd⟩ := ty_of (P := Tryd.prog) (T := 45) (by kernel_rfl)
  exact c_insert m_set hd h (by kernel_rfl) rfl _
theorem in_set1 (h : H m = some (.map [(tokA, .agg [], 0)] 1)) : AOk Tryd.prog Tryd.prog.funcs.size (pa 3 68 [mp m, tokA, .agg []]) H (.sc undef) (H.set m (.map [(tokA, .agg [], 0)] 1)) := by
  obtain ⟨d, hd⟩ := ty_of (P := Tryd.prog) (T := 45) (by kernel_rfl)
  exact c_update m_set hd h (by kernel_rfl) (i := 0) (b := 0) (by kernel_rfl) rfl _
theorem in_launch0 (h : H m = some (.map [] 0)) : AOk Tryd.prog Tryd.prog.funcs.size (pa 3 67 [mp m, lnA, .agg []]) H (.sc undef) (H.set m (.map [(lnA, .agg [], 0)] 1)) := by
  obtain ⟨d, hd⟩ := ty_of (P := Tryd.prog) (T := 75) (by kernel_rfl)
  exact c_insert m_launch hd h (by kernel_rfl) rfl _
theorem in_num0 (h : H m = some (.map [] 0)) : AOk Tryd.prog Tryd.prog.funcs.size (pa 3 70 [mp m, tokA, .sc (.int .u64 3)]) H (.sc undef) (H.set m (.map [(tokA, .sc (.int .u64 3), 0)] 1)) := by
  obtain ⟨d, hd⟩ := ty_of (P := Tryd.prog) (T := 45) (by kernel_rfl)
  exact c_insert m_num hd h (by kernel_rfl) rfl _
theorem in_fact0 (h : H m = some (.map [] 0)) : AOk Tryd.prog Tryd.prog.funcs.size (pa 3 71 [mp m, .sc (.int .u64 3), .agg f0C]) H (.sc undef) (H.set m (.map [(.sc (.int .u64 3), .agg f0C, 0)] 1)) := by
  obtain ⟨d, hd⟩ := ty_of (P := Tryd.prog) (T := 45) (by kernel_rfl)
  exact c_insert m_fact hd h (by kernel_rfl) rfl _
end
theorem c_accGN {bk m0 m1 m2 m3 m4 : Nat} (hB : BookAt bk m0 m1 m2 m3 m4 H) (h0 : H m0 = some (.map [(lnA, .agg [], 0)] 1)) (h1 : H m1 = some (.map [] 0)) (h2 : H m2 = some (.map [] 0)) :
    ACalls Tryd.prog 23 [ptr bk, .agg noteC] H (fun v K => ∃ t, v = .sl (u8s []) t ∧ HLe ((H.set m1 (.map [(tokA, .agg [], 0)] 1)).set m2 (.map [(prA, .sc (.int .u64 7), 0)] 1)) K) := by
  obtain ⟨hbk, n01, n02, n12⟩ := hB
  generalize hR : (fun (v : AV) (K : Heap) => ∃ t, v = .sl (u8s []) t ∧ HLe ((H.set m1 (.map [(tokA, .agg [], 0)] 1)).set m2 (.map [(prA, .sc (.int .u64 7), 0)] 1)) K) = R
  refine ACalls.into Tryd.func23 rfl Tryd.ntmps23 Tryd.results23 (by simp) ?_
  simp -implicitDefEqProofs [AV.cells, AV.lies, noteC]
  refine AAlloc.intro fun b hb => ?_
  simp -implicitDefEqProofs
  refine AAlloc.intro fun c hc => ?_
  have nbc : b ≠ c := by rintro rfl; simp [Heap.set] at hc
  have nbc' : c ≠ b := fun h => nbc h.symm
  have hbc : H c = none := (HLe.set_fresh hb).none hc
  simp -implicitDefEqProofs [nbc, nbc']
  generalize hK : Heap.set _ c _ = K
  have hL : HLe H K := by rw [← hK]; exact ((HLe.refl H).set_new hb).set_new hbc
  have kb : K b = some (.cells noteC 61) := by rw [← hK]; simp [Heap.set, nbc, noteC]
  have kc : K c = some (.cells [.sc (.int .u64 2), .sc (.int .u64 1)] 90) := by rw [← hK]; simp [Heap.set]
  clear hK
  first | refine go_draw 17 f_mixed (by decide +kernel) ?_ | refine go_draw 11 f_mixed (by decide +kernel) ?_ | refine go_draw 10 f_mixed (by decide +kernel) ?_ | refine go_draw 8 f_mixed (by decide +kernel) ?_
  simp -implicitDefEqProofs [hL _ _ hbk, kc, st_lookup]
  refine AQS.eq (lk_pair0 (hL _ _ h2)) ?_
  simp -implicitDefEqProofs
  obtain ⟨J, hJ⟩ : ∃ J : (Nat → AV) → Heap → Prop, J = fun ρ K' => ∃ e, K e = none ∧ K' = K.set e (.cells [] 78) ∧ ρ 0 = ptr bk ∧ ρ 3 = ptr b ∧ ρ 5 = .sl [] .nil ∧ ρ 6 = ptr c ∧ ρ 7 = .sc (.int .u64 0) ∧ ρ 8 = .sc (.bool false) ∧ ρ 10 = .sc (.bool false) := ⟨_, rfl⟩
  refine go_draw3J J [0, 1, 2, 3, 4, 5] K f_mixed (by decide +kernel) (HC.refl _) ?_ ?_
  · simp -implicitDefEqProofs
    repeat (refine aq3_op ?_; simp -implicitDefEqProofs [hL _ _ hbk, kb, kc, noteC])
    refine AWK.two 6 10 (by decide +kernel) ?_ ?_
    · refine AWE.op rfl ?_
      simp -implicitDefEqProofs [st_lookup]
      refine ⟨_, lk_set0 (hL _ _ h1), ?_⟩
      rintro v Kx ⟨rfl, rfl⟩
      refine ⟨HC.refl _, ?_⟩
      refine AWK.pure 7 (by decide +kernel) ?_
      simp -implicitDefEqProofs
      refine aq3_op ?_
      simp -implicitDefEqProofs
      refine AWK.pure 8 (by decide +kernel) ?_
      simp -implicitDefEqProofs
      refine aq3_op ?_
      simp -implicitDefEqProofs
      refine AWK.pure 9 (by decide +kernel) ?_
      simp -implicitDefEqProofs
      refine aq3_op ?_
      simp -implicitDefEqProofs
      refine AWK.one 10 (by decide +kernel) ?_
      refine AWE.op rfl ?_
      simp -implicitDefEqProofs [AV.cells]
      refine AWS.alloc fun e he => ?_
      refine AWK.one 11 (by decide +kernel) ?_
      refine AWE.op rfl ?_
      simp -implicitDefEqProofs
      refine AWS.store (by simp [Heap.set]; exact ⟨rfl, rfl⟩) (by simp only [lset]; repeat (first | exact HC.refl _ | refine HC.setn ?_ (by assumption))) ?_
      refine AWK.pure 12 (by decide +kernel) ?_
      simp -implicitDefEqProofs
      refine aq3_op ?_
      simp -implicitDefEqProofs
      refine AWK.fin (by decide +kernel) ?_
      rw [hJ]
      exact ⟨e, he, by simp [lset], by simp, by simp, by simp, by simp, by simp, by simp, by simp⟩
    · refine AWE.op rfl ?_
      simp -implicitDefEqProofs [AV.cells]
      refine AWS.alloc fun e he => ?_
      refine AWK.one 6 (by decide +kernel) ?_
      refine AWE.op rfl ?_
      simp -implicitDefEqProofs [st_lookup]
      refine ⟨_, lk_set0 ((hL.trans (HLe.set_fresh he)) _ _ h1), ?_⟩
      rintro v Kx ⟨rfl, rfl⟩
      refine ⟨(by repeat (first | exact HC.refl _ | refine HC.setn ?_ (by assumption))), ?_⟩
      refine AWK.pure 7 (by decide +kernel) ?_
      simp -implicitDefEqProofs
      refine aq3_op ?_
      simp -implicitDefEqProofs
      refine AWK.pure 8 (by decide +kernel) ?_
      simp -implicitDefEqProofs
      refine aq3_op ?_
      simp -implicitDefEqProofs
      refine AWK.pure 9 (by decide +kernel) ?_
      simp -implicitDefEqProofs
      refine aq3_op ?_
      simp -implicitDefEqProofs
      refine AWK.one 11 (by decide +kernel) ?_
      refine AWE.op rfl ?_
      simp -implicitDefEqProofs
      refine AWS.store (by simp [Heap.set]; exact ⟨rfl, rfl⟩) (by simp only [lset]; repeat (first | exact HC.refl _ | refine HC.setn ?_ (by assumption))) ?_
      refine AWK.pure 12 (by decide +kernel) ?_
      simp -implicitDefEqProofs
      refine aq3_op ?_
      simp -implicitDefEqProofs
      refine AWK.fin (by decide +kernel) ?_
      rw [hJ]
      exact ⟨e, he, by simp [lset], by simp, by simp, by simp, by simp, by simp, by simp, by simp⟩
  rw [hJ]
  clear hJ J
  rintro ρ K' ⟨e, he, hKe, r0, r3, r5, r6, r7, r8, r10⟩
  have hL' : HLe K K' := by rw [hKe]; exact HLe.set_fresh he
  clear hKe he
  replace hL := hL.trans hL'
  replace kb := hL' _ _ kb
  replace kc := hL' _ _ kc
  clear hL' e K
  simp -implicitDefEqProofs [r8, r10]
  obtain ⟨J, hJ⟩ : ∃ J : (Nat → AV) → Heap → Prop, J = fun ρ K2 => ∃ e, K' e = none ∧ K2 = K'.set e (.cells [] 78) ∧ ρ 0 = ptr bk ∧ ρ 3 = ptr b ∧ ρ 5 = .sl [] .nil ∧ ρ 6 = ptr c ∧ ρ 12 = .sc (.bool true) := ⟨_, rfl⟩
  refine go_draw3J J [0, 1, 2, 3, 4, 5, 6, 7, 8, 9, 10, 11, 12] K' f_mixed (by decide +kernel) (HC.refl _) ?_ ?_
  · simp -implicitDefEqProofs
    repeat (refine aq3_op ?_; simp -implicitDefEqProofs [r0, r3, hL _ _ hbk, kb, kc, noteC])
    refine AWK.two 13 17 (by decide +kernel) ?_ ?_
    · refine AWE.op rfl ?_
      simp -implicitDefEqProofs [st_lookup]
      refine ⟨_, lk_launch1 (hL _ _ h0), ?_⟩
      rintro v Kx ⟨rfl, rfl⟩
      refine ⟨HC.refl _, ?_⟩
      refine AWK.pure 14 (by decide +kernel) ?_
      simp -implicitDefEqProofs
      refine aq3_op ?_
      simp -implicitDefEqProofs
      refine AWK.pure 15 (by decide +kernel) ?_
      simp -implicitDefEqProofs
      refine aq3_op ?_
      simp -implicitDefEqProofs
      refine AWK.pure 16 (by decide +kernel) ?_
      simp -implicitDefEqProofs
      refine aq3_op ?_
      simp -implicitDefEqProofs
      refine AWK.one 17 (by decide +kernel) ?_
      refine AWE.op rfl ?_
      simp -implicitDefEqProofs [AV.cells]
      refine AWS.alloc fun e he => ?_
      refine AWK.one 18 (by decide +kernel) ?_
      refine AWE.op rfl ?_
      simp -implicitDefEqProofs
      refine AWS.store (by simp [Heap.set]; exact ⟨rfl, rfl⟩) (by simp only [lset]; repeat (first | exact HC.refl _ | refine HC.setn ?_ (by assumption))) ?_
      refine AWK.pure 19 (by decide +kernel) ?_
      simp -implicitDefEqProofs
      refine aq3_op ?_
      simp -implicitDefEqProofs
      refine AWK.fin (by decide +kernel) ?_
      rw [hJ]
      exact ⟨e, he, by simp [lset], by simp [r0], by simp [r3], by simp [r5], by simp [r6], by simp⟩
    · refine AWE.op rfl ?_
      simp -implicitDefEqProofs [AV.cells]
      refine AWS.alloc fun e he => ?_
      refine AWK.one 13 (by decide +kernel) ?_
      refine AWE.op rfl ?_
      simp -implicitDefEqProofs [st_lookup]
      refine ⟨_, lk_launch1 ((hL.trans (HLe.set_fresh he)) _ _ h0), ?_⟩
      rintro v Kx ⟨rfl, rfl⟩
      refine ⟨(by repeat (first | exact HC.refl _ | refine HC.setn ?_ (by assumption))), ?_⟩
      refine AWK.pure 14 (by decide +kernel) ?_
      simp -implicitDefEqProofs
      refine aq3_op ?_
      simp -implicitDefEqProofs
      refine AWK.pure 15 (by decide +kernel) ?_
      simp -implicitDefEqProofs
      refine aq3_op ?_
      simp -implicitDefEqProofs
      refine AWK.pure 16 (by decide +kernel) ?_
      simp -implicitDefEqProofs
      refine aq3_op ?_
      simp -implicitDefEqProofs
      refine AWK.one 18 (by decide +kernel) ?_
      refine AWE.op rfl ?_
      simp -implicitDefEqProofs
      refine AWS.store (by simp [Heap.set]; exact ⟨rfl, rfl⟩) (by simp only [lset]; repeat (first | exact HC.refl _ | refine HC.setn ?_ (by assumption))) ?_
      refine AWK.pure 19 (by decide +kernel) ?_
      simp -implicitDefEqProofs
      refine aq3_op ?_
      simp -implicitDefEqProofs
      refine AWK.fin (by decide +kernel) ?_
      rw [hJ]
      exact ⟨e, he, by simp [lset], by simp [r0], by simp [r3], by simp [r5], by simp [r6], by simp⟩
  rw [hJ]
  clear hJ J r0 r3 r5 r6 r7 r8 r10
  rintro ρ2 K2 ⟨e, he, hKe, r0, r3, r5, r6, r12⟩
  have hL' : HLe K' K2 := by rw [hKe]; exact HLe.set_fresh he
  replace hL := hL.trans hL'
  replace kb := hL' _ _ kb
  replace kc := hL' _ _ kc
  simp -implicitDefEqProofs [r12]
  have nb1 : bk ≠ m1 := by rintro rfl; rw [hbk] at h1; cases h1
  have nbb1 : b ≠ m1 := by rintro rfl; rw [hb] at h1; cases h1
  have nc1 : c ≠ m1 := by rintro rfl; rw [hbc] at h1; cases h1
  have k1 := hL _ _ h1
  have k2 : ∀ o, (K2.set m1 o) m2 = some (.map [] 0) := fun o => by simp [Heap.set, n12.symm, hL _ _ h2]
  refine go_draw3 [0, 1, 2, 3, 4, 5, 6] K2 f_mixed (by decide +kernel) (HC.refl _) ?_
  simp -implicitDefEqProofs
  repeat (refine aq3_op ?_; simp -implicitDefEqProofs [r0, r3, hL _ _ hbk, kb, noteC])
  refine AWK.one 7 (by decide +kernel) ?_
  refine AWE.op rfl ?_
  simp -implicitDefEqProofs [st_update]
  refine ⟨_, in_set0 k1, ?_⟩
  rintro v Kx ⟨rfl, rfl⟩
  refine ⟨HC.setm (HC.refl _) (by rw [k1]; rfl), ?_⟩
  refine AWK.fin (by decide +kernel) ?_
  simp -implicitDefEqProofs
  have kb2 : ∀ o, (K2.set m1 o) b = some (.cells noteC 61) := fun o => by simp [Heap.set, nbb1, kb]
  have kc2 : ∀ o, (K2.set m1 o) c = some (.cells [.sc (.int .u64 2), .sc (.int .u64 1)] 90) := fun o => by simp [Heap.set, nc1, kc]
  have kbk2 : ∀ o, (K2.set m1 o) bk = some (.cells [mp m0, mp m1, mp m2, mp m3, mp m4] 73) := fun o => by simp [Heap.set, nb1, hL _ _ hbk]
  have hLm := (hL.set_mono (b := m1) (o := .map [(tokA, .agg [], 0)] 1)).set_mono (b := m2) (o := .map [(prA, .sc (.int .u64 7), 0)] 1)
  replace kb2 := kb2 (.map [(tokA, .agg [], 0)] 1)
  replace kc2 := kc2 (.map [(tokA, .agg [], 0)] 1)
  replace kbk2 := kbk2 (.map [(tokA, .agg [], 0)] 1)
  replace k2 := k2 (.map [(tokA, .agg [], 0)] 1)
  generalize hK4 : Heap.set K2 m1 _ = K4 at *
  refine go_draw3 [0, 1, 2, 3, 4, 5, 6] K4 f_mixed (by decide +kernel) (HC.refl _) ?_
  simp -implicitDefEqProofs
  repeat (refine aq3_op ?_; simp -implicitDefEqProofs [r0, r3, r6, kb2, kc2, kbk2, noteC])
  refine AWK.one 7 (by decide +kernel) ?_
  refine AWE.op rfl ?_
  simp -implicitDefEqProofs [st_update]
  refine ⟨_, in_pair0 k2, ?_⟩
  rintro v Kx ⟨rfl, rfl⟩
  refine ⟨HC.setm (HC.refl _) (by rw [k2]; rfl), ?_⟩
  refine AWK.fin (by decide +kernel) ?_
  simp -implicitDefEqProofs [r5]
  subst hR
  exact AFin.intro _ _ (wk_refl _) (HWk.refl _) ⟨_, rfl, hLm⟩
theorem c_accGS {bk m0 m1 m2 m3 m4 : Nat} (hB : BookAt bk m0 m1 m2 m3 m4 H) (h0 : H m0 = some (.map [(lnA, .agg [], 0)] 1)) (h1 : H m1 = some (.map [(tokA, .agg [], 0)] 1)) (h2 : H m2 = some (.map [(prA, .sc (.int .u64 7), 0)] 1)) :
    ACalls Tryd.prog 23 [ptr bk, .agg noteC] H (fun v K => ∃ t, v = .sl (u8s [1]) t ∧ HLe ((H.set m1 (.map [(tokA, .agg [], 0)] 1)).set m2 (.map [(prA, .sc (.int .u64 7), 0)] 1)) K) := by
  obtain ⟨hbk, n01, n02, n12⟩ := hB
  generalize hR : (fun (v : AV) (K : Heap) => ∃ t, v = .sl (u8s [1]) t ∧ HLe ((H.set m1 (.map [(tokA, .agg [], 0)] 1)).set m2 (.map [(prA, .sc (.int .u64 7), 0)] 1)) K) = R
  refine ACalls.into Tryd.func23 rfl Tryd.ntmps23 Tryd.results23 (by simp) ?_
  simp -implicitDefEqProofs [AV.cells, AV.lies, noteC]
  refine AAlloc.intro fun b hb => ?_
  simp -implicitDefEqProofs
  refine AAlloc.intro fun c hc => ?_
  have nbc : b ≠ c := by rintro rfl; simp [Heap.set] at hc
  have nbc' : c ≠ b := fun h => nbc h.symm
  have hbc : H c = none := (HLe.set_fresh hb).none hc
  simp -implicitDefEqProofs [nbc, nbc']
  generalize hK : Heap.set _ c _ = K
  have hL : HLe H K := by rw [← hK]; exact ((HLe.refl H).set_new hb).set_new hbc
  have kb : K b = some (.cells noteC 61) := by rw [← hK]; simp [Heap.set, nbc, noteC]
  have kc : K c = some (.cells [.sc (.int .u64 2), .sc (.int .u64 1)] 90) := by rw [← hK]; simp [Heap.set]
  clear hK
  first | refine go_draw 17 f_mixed (by decide +kernel) ?_ | refine go_draw 11 f_mixed (by decide +kernel) ?_ | refine go_draw 10 f_mixed (by decide +kernel) ?_ | refine go_draw 8 f_mixed (by decide +kernel) ?_
  simp -implicitDefEqProofs [hL _ _ hbk, kc, st_lookup]
  refine AQS.eq (lk_pair1 (hL _ _ h2)) ?_
  simp -implicitDefEqProofs
  obtain ⟨J, hJ⟩ : ∃ J : (Nat → AV) → Heap → Prop, J = fun ρ K' => ∃ e, K e = none ∧ K' = K.set e (.cells [] 78) ∧ ρ 0 = ptr bk ∧ ρ 3 = ptr b ∧ ρ 5 = .sl [] .nil ∧ ρ 6 = ptr c ∧ ρ 7 = .sc (.int .u64 7) ∧ ρ 8 = .sc (.bool true) ∧ ρ 10 = .sc (.bool true) := ⟨_, rfl⟩
  refine go_draw3J J [0, 1, 2, 3, 4, 5] K f_mixed (by decide +kernel) (HC.refl _) ?_ ?_
  · simp -implicitDefEqProofs
    repeat (refine aq3_op ?_; simp -implicitDefEqProofs [hL _ _ hbk, kb, kc, noteC])
    refine AWK.two 6 10 (by decide +kernel) ?_ ?_
    · refine AWE.op rfl ?_
      simp -implicitDefEqProofs [st_lookup]
      refine ⟨_, lk_set1 (hL _ _ h1), ?_⟩
      rintro v Kx ⟨rfl, rfl⟩
      refine ⟨HC.refl _, ?_⟩
      refine AWK.pure 7 (by decide +kernel) ?_
      simp -implicitDefEqProofs
      refine aq3_op ?_
      simp -implicitDefEqProofs
      refine AWK.pure 8 (by decide +kernel) ?_
      simp -implicitDefEqProofs
      refine aq3_op ?_
      simp -implicitDefEqProofs
      refine AWK.pure 9 (by decide +kernel) ?_
      simp -implicitDefEqProofs
      refine aq3_op ?_
      simp -implicitDefEqProofs
      refine AWK.one 10 (by decide +kernel) ?_
      refine AWE.op rfl ?_
      simp -implicitDefEqProofs [AV.cells]
      refine AWS.alloc fun e he => ?_
      refine AWK.one 11 (by decide +kernel) ?_
      refine AWE.op rfl ?_
      simp -implicitDefEqProofs
      refine AWS.store (by simp [Heap.set]; exact ⟨rfl, rfl⟩) (by simp only [lset]; repeat (first | exact HC.refl _ | refine HC.setn ?_ (by assumption))) ?_
      refine AWK.pure 12 (by decide +kernel) ?_
      simp -implicitDefEqProofs
      refine aq3_op ?_
      simp -implicitDefEqProofs
      refine AWK.fin (by decide +kernel) ?_
      rw [hJ]
      exact ⟨e, he, by simp [lset], by simp, by simp, by simp, by simp, by simp, by simp, by simp⟩
    · refine AWE.op rfl ?_
      simp -implicitDefEqProofs [AV.cells]
      refine AWS.alloc fun e he => ?_
      refine AWK.one 6 (by decide +kernel) ?_
      refine AWE.op rfl ?_
      simp -implicitDefEqProofs [st_lookup]
      refine ⟨_, lk_set1 ((hL.trans (HLe.set_fresh he)) _ _ h1), ?_⟩
      rintro v Kx ⟨rfl, rfl⟩
      refine ⟨(by repeat (first | exact HC.refl _ | refine HC.setn ?_ (by assumption))), ?_⟩
      refine AWK.pure 7 (by decide +kernel) ?_
      simp -implicitDefEqProofs
      refine aq3_op ?_
      simp -implicitDefEqProofs
      refine AWK.pure 8 (by decide +kernel) ?_
      simp -implicitDefEqProofs
      refine aq3_op ?_
      simp -implicitDefEqProofs
      refine AWK.pure 9 (by decide +kernel) ?_
      simp -implicitDefEqProofs
      refine aq3_op ?_
      simp -implicitDefEqProofs
      refine AWK.one 11 (by decide +kernel) ?_
      refine AWE.op rfl ?_
      simp -implicitDefEqProofs
      refine AWS.store (by simp [Heap.set]; exact ⟨rfl, rfl⟩) (by simp only [lset]; repeat (first | exact HC.refl _ | refine HC.setn ?_ (by assumption))) ?_
      refine AWK.pure 12 (by decide +kernel) ?_
      simp -implicitDefEqProofs
      refine aq3_op ?_
      simp -implicitDefEqProofs
      refine AWK.fin (by decide +kernel) ?_
      rw [hJ]
      exact ⟨e, he, by simp [lset], by simp, by simp, by simp, by simp, by simp, by simp, by simp⟩
  rw [hJ]
  clear hJ J
  rintro ρ K' ⟨e, he, hKe, r0, r3, r5, r6, r7, r8, r10⟩
  have hL' : HLe K K' := by rw [hKe]; exact HLe.set_fresh he
  clear hKe he
  replace hL := hL.trans hL'
  replace kb := hL' _ _ kb
  replace kc := hL' _ _ kc
  clear hL' e K
  have hLa := hL
  have kba := kb
  have kca := kc
  simp -implicitDefEqProofs [r5, r10]
  refine AApp.grE el_44 (Gr.nil (e := 5) (sz := 1)) (by simp [szs, AV.cells]) (by simp [szs, AV.cells]) (by simp) (by simp [maxLen]) fun t1 K1 g1 => ?_
  have gl := g1.le
  replace hL := hL.trans gl
  replace kb := gl _ _ kb
  replace kc := gl _ _ kc
  simp -implicitDefEqProofs
  obtain ⟨J, hJ⟩ : ∃ J : (Nat → AV) → Heap → Prop, J = fun ρ K2 => ∃ e, K1 e = none ∧ K2 = K1.set e (.cells [] 78) ∧ ρ 0 = ptr bk ∧ ρ 3 = ptr b ∧ ρ 5 = .sl [.sc (.int .u8 1)] t1 ∧ ρ 6 = ptr c ∧ ρ 12 = .sc (.bool true) := ⟨_, rfl⟩
  refine go_draw3J J [0, 1, 2, 3, 4, 5, 6, 7, 8, 9, 10, 11, 12] K1 f_mixed (by decide +kernel) (HC.refl _) ?_ ?_
  · simp -implicitDefEqProofs
    repeat (refine aq3_op ?_; simp -implicitDefEqProofs [r0, r3, hL _ _ hbk, kb, kc, noteC])
    refine AWK.two 13 17 (by decide +kernel) ?_ ?_
    · refine AWE.op rfl ?_
      simp -implicitDefEqProofs [st_lookup]
      refine ⟨_, lk_launch1 (hL _ _ h0), ?_⟩
      rintro v Kx ⟨rfl, rfl⟩
      refine ⟨HC.refl _, ?_⟩
      refine AWK.pure 14 (by decide +kernel) ?_
      simp -implicitDefEqProofs
      refine aq3_op ?_
      simp -implicitDefEqProofs
      refine AWK.pure 15 (by decide +kernel) ?_
      simp -implicitDefEqProofs
      refine aq3_op ?_
      simp -implicitDefEqProofs
      refine AWK.pure 16 (by decide +kernel) ?_
      simp -implicitDefEqProofs
      refine aq3_op ?_
      simp -implicitDefEqProofs
      refine AWK.one 17 (by decide +kernel) ?_
      refine AWE.op rfl ?_
      simp -implicitDefEqProofs [AV.cells]
      refine AWS.alloc fun e he => ?_
      refine AWK.one 18 (by decide +kernel) ?_
      refine AWE.op rfl ?_
      simp -implicitDefEqProofs
      refine AWS.store (by simp [Heap.set]; exact ⟨rfl, rfl⟩) (by simp only [lset]; repeat (first | exact HC.refl _ | refine HC.setn ?_ (by assumption))) ?_
      refine AWK.pure 19 (by decide +kernel) ?_
      simp -implicitDefEqProofs
      refine aq3_op ?_
      simp -implicitDefEqProofs
      refine AWK.fin (by decide +kernel) ?_
      rw [hJ]
      exact ⟨e, he, by simp [lset], by simp [r0], by simp [r3], by simp, by simp [r6], by simp⟩
    · refine AWE.op rfl ?_
      simp -implicitDefEqProofs [AV.cells]
      refine AWS.alloc fun e he => ?_
      refine AWK.one 13 (by decide +kernel) ?_
      refine AWE.op rfl ?_
      simp -implicitDefEqProofs [st_lookup]
      refine ⟨_, lk_launch1 ((hL.trans (HLe.set_fresh he)) _ _ h0), ?_⟩
      rintro v Kx ⟨rfl, rfl⟩
      refine ⟨(by repeat (first | exact HC.refl _ | refine HC.setn ?_ (by assumption))), ?_⟩
      refine AWK.pure 14 (by decide +kernel) ?_
      simp -implicitDefEqProofs
      refine aq3_op ?_
      simp -implicitDefEqProofs
      refine AWK.pure 15 (by decide +kernel) ?_
      simp -implicitDefEqProofs
      refine aq3_op ?_
      simp -implicitDefEqProofs
      refine AWK.pure 16 (by decide +kernel) ?_
      simp -implicitDefEqProofs
      refine aq3_op ?_
      simp -implicitDefEqProofs
      refine AWK.one 18 (by decide +kernel) ?_
      refine AWE.op rfl ?_
      simp -implicitDefEqProofs
      refine AWS.store (by simp [Heap.set]; exact ⟨rfl, rfl⟩) (by simp only [lset]; repeat (first | exact HC.refl _ | refine HC.setn ?_ (by assumption))) ?_
      refine AWK.pure 19 (by decide +kernel) ?_
      simp -implicitDefEqProofs
      refine aq3_op ?_
      simp -implicitDefEqProofs
      refine AWK.fin (by decide +kernel) ?_
      rw [hJ]
      exact ⟨e, he, by simp [lset], by simp [r0], by simp [r3], by simp, by simp [r6], by simp⟩
  rw [hJ]
  clear hJ J r0 r3 r5 r6 r7 r8 r10
  rintro ρ2 K2 ⟨e, he, hKe, r0, r3, r5, r6, r12⟩
  have hL' : HLe K1 K2 := by rw [hKe]; exact HLe.set_fresh he
  replace hL := hL.trans hL'
  replace kb := hL' _ _ kb
  replace kc := hL' _ _ kc
  simp -implicitDefEqProofs [r12]
  have nb1 : bk ≠ m1 := by rintro rfl; rw [hbk] at h1; cases h1
  have nbb1 : b ≠ m1 := by rintro rfl; rw [hb] at h1; cases h1
  have nc1 : c ≠ m1 := by rintro rfl; rw [hbc] at h1; cases h1
  have k1 := hL _ _ h1
  have k2 : ∀ o, (K2.set m1 o) m2 = some (.map [(prA, .sc (.int .u64 7), 0)] 1) := fun o => by simp [Heap.set, n12.symm, hL _ _ h2]
  refine go_draw3 [0, 1, 2, 3, 4, 5, 6] K2 f_mixed (by decide +kernel) (HC.refl _) ?_
  simp -implicitDefEqProofs
  repeat (refine aq3_op ?_; simp -implicitDefEqProofs [r0, r3, hL _ _ hbk, kb, noteC])
  refine AWK.one 7 (by decide +kernel) ?_
  refine AWE.op rfl ?_
  simp -implicitDefEqProofs [st_update]
  refine ⟨_, in_set1 k1, ?_⟩
  rintro v Kx ⟨rfl, rfl⟩
  refine ⟨HC.setm (HC.refl _) (by rw [k1]; rfl), ?_⟩
  refine AWK.fin (by decide +kernel) ?_
  simp -implicitDefEqProofs
  have kb2 : ∀ o, (K2.set m1 o) b = some (.cells noteC 61) := fun o => by simp [Heap.set, nbb1, kb]
  have kc2 : ∀ o, (K2.set m1 o) c = some (.cells [.sc (.int .u64 2), .sc (.int .u64 1)] 90) := fun o => by simp [Heap.set, nc1, kc]
  have kbk2 : ∀ o, (K2.set m1 o) bk = some (.cells [mp m0, mp m1, mp m2, mp m3, mp m4] 73) := fun o => by simp [Heap.set, nb1, hL _ _ hbk]
  have hLm := (hL.set_mono (b := m1) (o := .map [(tokA, .agg [], 0)] 1)).set_mono (b := m2) (o := .map [(prA, .sc (.int .u64 7), 0)] 1)
  replace kb2 := kb2 (.map [(tokA, .agg [], 0)] 1)
  replace kc2 := kc2 (.map [(tokA, .agg [], 0)] 1)
  replace kbk2 := kbk2 (.map [(tokA, .agg [], 0)] 1)
  replace k2 := k2 (.map [(tokA, .agg [], 0)] 1)
  generalize hK4 : Heap.set K2 m1 _ = K4 at *
  refine go_draw3 [0, 1, 2, 3, 4, 5, 6] K4 f_mixed (by decide +kernel) (HC.refl _) ?_
  simp -implicitDefEqProofs
  repeat (refine aq3_op ?_; simp -implicitDefEqProofs [r0, r3, r6, kb2, kc2, kbk2, noteC])
  refine AWK.one 7 (by decide +kernel) ?_
  refine AWE.op rfl ?_
  simp -implicitDefEqProofs [st_update]
  refine ⟨_, in_pair1 k2, ?_⟩
  rintro v Kx ⟨rfl, rfl⟩
  refine ⟨HC.setm (HC.refl _) (by rw [k2]; rfl), ?_⟩
  refine AWK.fin (by decide +kernel) ?_
  simp -implicitDefEqProofs [r5]
  subst hR
  exact AFin.intro _ _ (wk_refl _) (HWk.refl _) ⟨_, rfl, hLm⟩
theorem c_accFN {bk m0 m1 m2 m3 m4 : Nat} (hB : BookAt bk m0 m1 m2 m3 m4 H) (h0 : H m0 = some (.map [] 0)) (h1 : H m1 = some (.map [] 0)) (h2 : H m2 = some (.map [] 0)) :
    ACalls Tryd.prog 23 [ptr bk, .agg noteC] H (fun v K => ∃ t, v = .sl (u8s [3]) t ∧ HLe ((H.set m1 (.map [(tokA, .agg [], 0)] 1)).set m2 (.map [(prA, .sc (.int .u64 7), 0)] 1)) K) := by
  obtain ⟨hbk, n01, n02, n12⟩ := hB
  generalize hR : (fun (v : AV) (K : Heap) => ∃ t, v = .sl (u8s [3]) t ∧ HLe ((H.set m1 (.map [(tokA, .agg [], 0)] 1)).set m2 (.map [(prA, .sc (.int .u64 7), 0)] 1)) K) = R
  refine ACalls.into Tryd.func23 rfl Tryd.ntmps23 Tryd.results23 (by simp) ?_
  simp -implicitDefEqProofs [AV.cells, AV.lies, noteC]
  refine AAlloc.intro fun b hb => ?_
  simp -implicitDefEqProofs
  refine AAlloc.intro fun c hc => ?_
  have nbc : b ≠ c := by rintro rfl; simp [Heap.set] at hc
  have nbc' : c ≠ b := fun h => nbc h.symm
  have hbc : H c = none := (HLe.set_fresh hb).none hc
  simp -implicitDefEqProofs [nbc, nbc']
  generalize hK : Heap.set _ c _ = K
  have hL : HLe H K := by rw [← hK]; exact ((HLe.refl H).set_new hb).set_new hbc
  have kb : K b = some (.cells noteC 61) := by rw [← hK]; simp [Heap.set, nbc, noteC]
  have kc : K c = some (.cells [.sc (.int .u64 2), .sc (.int .u64 1)] 90) := by rw [← hK]; simp [Heap.set]
  clear hK
  first | refine go_draw 17 f_mixed (by decide +kernel) ?_ | refine go_draw 11 f_mixed (by decide +kernel) ?_ | refine go_draw 10 f_mixed (by decide +kernel) ?_ | refine go_draw 8 f_mixed (by decide +kernel) ?_
  simp -implicitDefEqProofs [hL _ _ hbk, kc, st_lookup]
  refine AQS.eq (lk_pair0 (hL _ _ h2)) ?_
  simp -implicitDefEqProofs
  obtain ⟨J, hJ⟩ : ∃ J : (Nat → AV) → Heap → Prop, J = fun ρ K' => ∃ e, K e = none ∧ K' = K.set e (.cells [] 78) ∧ ρ 0 = ptr bk ∧ ρ 3 = ptr b ∧ ρ 5 = .sl [] .nil ∧ ρ 6 = ptr c ∧ ρ 7 = .sc (.int .u64 0) ∧ ρ 8 = .sc (.bool false) ∧ ρ 10 = .sc (.bool false) := ⟨_, rfl⟩
  refine go_draw3J J [0, 1, 2, 3, 4, 5] K f_mixed (by decide +kernel) (HC.refl _) ?_ ?_
  · simp -implicitDefEqProofs
    repeat (refine aq3_op ?_; simp -implicitDefEqProofs [hL _ _ hbk, kb, kc, noteC])
    refine AWK.two 6 10 (by decide +kernel) ?_ ?_
    · refine AWE.op rfl ?_
      simp -implicitDefEqProofs [st_lookup]
      refine ⟨_, lk_set0 (hL _ _ h1), ?_⟩
      rintro v Kx ⟨rfl, rfl⟩
      refine ⟨HC.refl _, ?_⟩
      refine AWK.pure 7 (by decide +kernel) ?_
      simp -implicitDefEqProofs
      refine aq3_op ?_
      simp -implicitDefEqProofs
      refine AWK.pure 8 (by decide +kernel) ?_
      simp -implicitDefEqProofs
      refine aq3_op ?_
      simp -implicitDefEqProofs
      refine AWK.pure 9 (by decide +kernel) ?_
      simp -implicitDefEqProofs
      refine aq3_op ?_
      simp -implicitDefEqProofs
      refine AWK.one 10 (by decide +kernel) ?_
      refine AWE.op rfl ?_
      simp -implicitDefEqProofs [AV.cells]
      refine AWS.alloc fun e he => ?_
      refine AWK.one 11 (by decide +kernel) ?_
      refine AWE.op rfl ?_
      simp -implicitDefEqProofs
      refine AWS.store (by simp [Heap.set]; exact ⟨rfl, rfl⟩) (by simp only [lset]; repeat (first | exact HC.refl _ | refine HC.setn ?_ (by assumption))) ?_
      refine AWK.pure 12 (by decide +kernel) ?_
      simp -implicitDefEqProofs
      refine aq3_op ?_
      simp -implicitDefEqProofs
      refine AWK.fin (by decide +kernel) ?_
      rw [hJ]
      exact ⟨e, he, by simp [lset], by simp, by simp, by simp, by simp, by simp, by simp, by simp⟩
    · refine AWE.op rfl ?_
      simp -implicitDefEqProofs [AV.cells]
      refine AWS.alloc fun e he => ?_
      refine AWK.one 6 (by decide +kernel) ?_
      refine AWE.op rfl ?_
      simp -implicitDefEqProofs [st_lookup]
      refine ⟨_, lk_set0 ((hL.trans (HLe.set_fresh he)) _ _ h1), ?_⟩
      rintro v Kx ⟨rfl, rfl⟩
      refine ⟨(by repeat (first | exact HC.refl _ | refine HC.setn ?_ (by assumption))), ?_⟩
      refine AWK.pure 7 (by decide +kernel) ?_
      simp -implicitDefEqProofs
      refine aq3_op ?_
      simp -implicitDefEqProofs
      refine AWK.pure 8 (by decide +kernel) ?_
      simp -implicitDefEqProofs
      refine aq3_op ?_
      simp -implicitDefEqProofs
      refine AWK.pure 9 (by decide +kernel) ?_
      simp -implicitDefEqProofs
      refine aq3_op ?_
      simp -implicitDefEqProofs
      refine AWK.one 11 (by decide +kernel) ?_
      refine AWE.op rfl ?_
      simp -implicitDefEqProofs
      refine AWS.store (by simp [Heap.set]; exact ⟨rfl, rfl⟩) (by simp only [lset]; repeat (first | exact HC.refl _ | refine HC.setn ?_ (by assumption))) ?_
      refine AWK.pure 12 (by decide +kernel) ?_
      simp -implicitDefEqProofs
      refine aq3_op ?_
      simp -implicitDefEqProofs
      refine AWK.fin (by decide +kernel) ?_
      rw [hJ]
      exact ⟨e, he, by simp [lset], by simp, by simp, by simp, by simp, by simp, by simp, by simp⟩
  rw [hJ]
  clear hJ J
  rintro ρ K' ⟨e, he, hKe, r0, r3, r5, r6, r7, r8, r10⟩
  have hL' : HLe K K' := by rw [hKe]; exact HLe.set_fresh he
  clear hKe he
  replace hL := hL.trans hL'
  replace kb := hL' _ _ kb
  replace kc := hL' _ _ kc
  clear hL' e K
  simp -implicitDefEqProofs [r8, r10]
  obtain ⟨J, hJ⟩ : ∃ J : (Nat → AV) → Heap → Prop, J = fun ρ K2 => ∃ e, K' e = none ∧ K2 = K'.set e (.cells [] 78) ∧ ρ 0 = ptr bk ∧ ρ 3 = ptr b ∧ ρ 5 = .sl [] .nil ∧ ρ 6 = ptr c ∧ ρ 12 = .sc (.bool false) := ⟨_, rfl⟩
  refine go_draw3J J [0, 1, 2, 3, 4, 5, 6, 7, 8, 9, 10, 11, 12] K' f_mixed (by decide +kernel) (HC.refl _) ?_ ?_
  · simp -implicitDefEqProofs
    repeat (refine aq3_op ?_; simp -implicitDefEqProofs [r0, r3, hL _ _ hbk, kb, kc, noteC])
    refine AWK.two 13 17 (by decide +kernel) ?_ ?_
    · refine AWE.op rfl ?_
      simp -implicitDefEqProofs [st_lookup]
      refine ⟨_, lk_launch0 (hL _ _ h0), ?_⟩
      rintro v Kx ⟨rfl, rfl⟩
      refine ⟨HC.refl _, ?_⟩
      refine AWK.pure 14 (by decide +kernel) ?_
      simp -implicitDefEqProofs
      refine aq3_op ?_
      simp -implicitDefEqProofs
      refine AWK.pure 15 (by decide +kernel) ?_
      simp -implicitDefEqProofs
      refine aq3_op ?_
      simp -implicitDefEqProofs
      refine AWK.pure 16 (by decide +kernel) ?_
      simp -implicitDefEqProofs
      refine aq3_op ?_
      simp -implicitDefEqProofs
      refine AWK.one 17 (by decide +kernel) ?_
      refine AWE.op rfl ?_
      simp -implicitDefEqProofs [AV.cells]
      refine AWS.alloc fun e he => ?_
      refine AWK.one 18 (by decide +kernel) ?_
      refine AWE.op rfl ?_
      simp -implicitDefEqProofs
      refine AWS.store (by simp [Heap.set]; exact ⟨rfl, rfl⟩) (by simp only [lset]; repeat (first | exact HC.refl _ | refine HC.setn ?_ (by assumption))) ?_
      refine AWK.pure 19 (by decide +kernel) ?_
      simp -implicitDefEqProofs
      refine aq3_op ?_
      simp -implicitDefEqProofs
      refine AWK.fin (by decide +kernel) ?_
      rw [hJ]
      exact ⟨e, he, by simp [lset], by simp [r0], by simp [r3], by simp [r5], by simp [r6], by simp⟩
    · refine AWE.op rfl ?_
      simp -implicitDefEqProofs [AV.cells]
      refine AWS.alloc fun e he => ?_
      refine AWK.one 13 (by decide +kernel) ?_
      refine AWE.op rfl ?_
      simp -implicitDefEqProofs [st_lookup]
      refine ⟨_, lk_launch0 ((hL.trans (HLe.set_fresh he)) _ _ h0), ?_⟩
      rintro v Kx ⟨rfl, rfl⟩
      refine ⟨(by repeat (first | exact HC.refl _ | refine HC.setn ?_ (by assumption))), ?_⟩
      refine AWK.pure 14 (by decide +kernel) ?_
      simp -implicitDefEqProofs
      refine aq3_op ?_
      simp -implicitDefEqProofs
      refine AWK.pure 15 (by decide +kernel) ?_
      simp -implicitDefEqProofs
      refine aq3_op ?_
      simp -implicitDefEqProofs
      refine AWK.pure 16 (by decide +kernel) ?_
      simp -implicitDefEqProofs
      refine aq3_op ?_
      simp -implicitDefEqProofs
      refine AWK.one 18 (by decide +kernel) ?_
      refine AWE.op rfl ?_
      simp -implicitDefEqProofs
      refine AWS.store (by simp [Heap.set]; exact ⟨rfl, rfl⟩) (by simp only [lset]; repeat (first | exact HC.refl _ | refine HC.setn ?_ (by assumption))) ?_
      refine AWK.pure 19 (by decide +kernel) ?_
      simp -implicitDefEqProofs
      refine aq3_op ?_
      simp -implicitDefEqProofs
      refine AWK.fin (by decide +kernel) ?_
      rw [hJ]
      exact ⟨e, he, by simp [lset], by simp [r0], by simp [r3], by simp [r5], by simp [r6], by simp⟩
  rw [hJ]
  clear hJ J r0 r3 r5 r6 r7 r8 r10
  rintro ρ2 K2 ⟨e, he, hKe, r0, r3, r5, r6, r12⟩
  have hL' : HLe K' K2 := by rw [hKe]; exact HLe.set_fresh he
  replace hL := hL.trans hL'
  replace kb := hL' _ _ kb
  replace kc := hL' _ _ kc
  simp -implicitDefEqProofs [r5, r12]
  refine AApp.grE el_44 (Gr.nil (e := 5) (sz := 1)) (by simp [szs, AV.cells]) (by simp [szs, AV.cells]) (by simp) (by simp [maxLen]) fun t3 K3 g3 => ?_
  have gl := g3.le
  replace hL := hL.trans gl
  replace kb := gl _ _ kb
  replace kc := gl _ _ kc
  simp -implicitDefEqProofs
  have nb1 : bk ≠ m1 := by rintro rfl; rw [hbk] at h1; cases h1
  have nbb1 : b ≠ m1 := by rintro rfl; rw [hb] at h1; cases h1
  have nc1 : c ≠ m1 := by rintro rfl; rw [hbc] at h1; cases h1
  have k1 := hL _ _ h1
  have k2 : ∀ o, (K3.set m1 o) m2 = some (.map [] 0) := fun o => by simp [Heap.set, n12.symm, hL _ _ h2]
  refine go_draw3 [0, 1, 2, 3, 4, 5, 6] K3 f_mixed (by decide +kernel) (HC.refl _) ?_
  simp -implicitDefEqProofs
  repeat (refine aq3_op ?_; simp -implicitDefEqProofs [r0, r3, hL _ _ hbk, kb, noteC])
  refine AWK.one 7 (by decide +kernel) ?_
  refine AWE.op rfl ?_
  simp -implicitDefEqProofs [st_update]
  refine ⟨_, in_set0 k1, ?_⟩
  rintro v Kx ⟨rfl, rfl⟩
  refine ⟨HC.setm (HC.refl _) (by rw [k1]; rfl), ?_⟩
  refine AWK.fin (by decide +kernel) ?_
  simp -implicitDefEqProofs
  have kb2 : ∀ o, (K3.set m1 o) b = some (.cells noteC 61) := fun o => by simp [Heap.set, nbb1, kb]
  have kc2 : ∀ o, (K3.set m1 o) c = some (.cells [.sc (.int .u64 2), .sc (.int .u64 1)] 90) := fun o => by simp [Heap.set, nc1, kc]
  have kbk2 : ∀ o, (K3.set m1 o) bk = some (.cells [mp m0, mp m1, mp m2, mp m3, mp m4] 73) := fun o => by simp [Heap.set, nb1, hL _ _ hbk]
  have hLm := (hL.set_mono (b := m1) (o := .map [(tokA, .agg [], 0)] 1)).set_mono (b := m2) (o := .map [(prA, .sc (.int .u64 7), 0)] 1)
  replace kb2 := kb2 (.map [(tokA, .agg [], 0)] 1)
  replace kc2 := kc2 (.map [(tokA, .agg [], 0)] 1)
  replace kbk2 := kbk2 (.map [(tokA, .agg [], 0)] 1)
  replace k2 := k2 (.map [(tokA, .agg [], 0)] 1)
  generalize hK4 : Heap.set K3 m1 _ = K4 at *
  refine go_draw3 [0, 1, 2, 3, 4, 5, 6] K4 f_mixed (by decide +kernel) (HC.refl _) ?_
  simp -implicitDefEqProofs
  repeat (refine aq3_op ?_; simp -implicitDefEqProofs [r0, r3, r6, kb2, kc2, kbk2, noteC])
  refine AWK.one 7 (by decide +kernel) ?_
  refine AWE.op rfl ?_
  simp -implicitDefEqProofs [st_update]
  refine ⟨_, in_pair0 k2, ?_⟩
  rintro v Kx ⟨rfl, rfl⟩
  refine ⟨HC.setm (HC.refl _) (by rw [k2]; rfl), ?_⟩
  refine AWK.fin (by decide +kernel) ?_
  simp -implicitDefEqProofs [r5]
  subst hR
  exact AFin.intro _ _ (wk_refl _) (HWk.refl _) ⟨_, rfl, hLm⟩
theorem c_accFS {bk m0 m1 m2 m3 m4 : Nat} (hB : BookAt bk m0 m1 m2 m3 m4 H) (h0 : H m0 = some (.map [] 0)) (h1 : H m1 = some (.map [(tokA, .agg [], 0)] 1)) (h2 : H m2 = some (.map [(prA, .sc (.int .u64 7), 0)] 1)) :
    ACalls Tryd.prog 23 [ptr bk, .agg noteC] H (fun v K => ∃ t, v = .sl (u8s [1, 3]) t ∧ HLe ((H.set m1 (.map [(tokA, .agg [], 0)] 1)).set m2 (.map [(prA, .sc (.int .u64 7), 0)] 1)) K) := by
  obtain ⟨hbk, n01, n02, n12⟩ := hB
  generalize hR : (fun (v : AV) (K : Heap) => ∃ t, v = .sl (u8s [1, 3]) t ∧ HLe ((H.set m1 (.map [(tokA, .agg [], 0)] 1)).set m2 (.map [(prA, .sc (.int .u64 7), 0)] 1)) K) = R
  refine ACalls.into Tryd.func23 rfl Tryd.ntmps23 Tryd.results23 (by simp) ?_
  simp -implicitDefEqProofs [AV.cells, AV.lies, noteC]
  refine AAlloc.intro fun b hb => ?_
  simp -implicitDefEqProofs
  refine AAlloc.intro fun c hc => ?_
  have nbc : b ≠ c := by rintro rfl; simp [Heap.set] at hc
  have nbc' : c ≠ b := fun h => nbc h.symm
  have hbc : H c = none := (HLe.set_fresh hb).none hc
  simp -implicitDefEqProofs [nbc, nbc']
  generalize hK : Heap.set _ c _ = K
  have hL : HLe H K := by rw [← hK]; exact ((HLe.refl H).set_new hb).set_new hbc
  have kb : K b = some (.cells noteC 61) := by rw [← hK]; simp [Heap.set, nbc, noteC]
  have kc : K c = some (.cells [.sc (.int .u64 2), .sc (.int .u64 1)] 90) := by rw [← hK]; simp [Heap.set]
  clear hK
  first | refine go_draw 17 f_mixed (by decide +kernel) ?_ | refine go_draw 11 f_mixed (by decide +kernel) ?_ | refine go_draw 10 f_mixed (by decide +kernel) ?_ | refine go_draw 8 f_mixed (by decide +kernel) ?_
  simp -implicitDefEqProofs [hL _ _ hbk, kc, st_lookup]
  refine AQS.eq (lk_pair1 (hL _ _ h2)) ?_
  simp -implicitDefEqProofs
  obtain ⟨J, hJ⟩ : ∃ J : (Nat → AV) → Heap → Prop, J = fun ρ K' => ∃ e, K e = none ∧ K' = K.set e (.cells [] 78) ∧ ρ 0 = ptr bk ∧ ρ 3 = ptr b ∧ ρ 5 = .sl [] .nil ∧ ρ 6 = ptr c ∧ ρ 7 = .sc (.int .u64 7) ∧ ρ 8 = .sc (.bool true) ∧ ρ 10 = .sc (.bool true) := ⟨_, rfl⟩
  refine go_draw3J J [0, 1, 2, 3, 4, 5] K f_mixed (by decide +kernel) (HC.refl _) ?_ ?_
  · simp -implicitDefEqProofs
    repeat (refine aq3_op ?_; simp -implicitDefEqProofs [hL _ _ hbk, kb, kc, noteC])
    refine AWK.two 6 10 (by decide +kernel) ?_ ?_
    · refine AWE.op rfl ?_
      simp -implicitDefEqProofs [st_lookup]
      refine ⟨_, lk_set1 (hL _ _ h1), ?_⟩
      rintro v Kx ⟨rfl, rfl⟩
      refine ⟨HC.refl _, ?_⟩
      refine AWK.pure 7 (by decide +kernel) ?_
      simp -implicitDefEqProofs
      refine aq3_op ?_
      simp -implicitDefEqProofs
      refine AWK.pure 8 (by decide +kernel) ?_
      simp -implicitDefEqProofs
      refine aq3_op ?_
      simp -implicitDefEqProofs
      refine AWK.pure 9 (by decide +kernel) ?_
      simp -implicitDefEqProofs
      refine aq3_op ?_
      simp -implicitDefEqProofs
      refine AWK.one 10 (by decide +kernel) ?_
      refine AWE.op rfl ?_
      simp -implicitDefEqProofs [AV.cells]
      refine AWS.alloc fun e he => ?_
      refine AWK.one 11 (by decide +kernel) ?_
      refine AWE.op rfl ?_
      simp -implicitDefEqProofs
      refine AWS.store (by simp [Heap.set]; exact ⟨rfl, rfl⟩) (by simp only [lset]; repeat (first | exact HC.refl _ | refine HC.setn ?_ (by assumption))) ?_
      refine AWK.pure 12 (by decide +kernel) ?_
      simp -implicitDefEqProofs
      refine aq3_op ?_
      simp -implicitDefEqProofs
      refine AWK.fin (by decide +kernel) ?_
      rw [hJ]
      exact ⟨e, he, by simp [lset], by simp, by simp, by simp, by simp, by simp, by simp, by simp⟩
    · refine AWE.op rfl ?_
      simp -implicitDefEqProofs [AV.cells]
      refine AWS.alloc fun e he => ?_
      refine AWK.one 6 (by decide +kernel) ?_
      refine AWE.op rfl ?_
      simp -implicitDefEqProofs [st_lookup]
      refine ⟨_, lk_set1 ((hL.trans (HLe.set_fresh he)) _ _ h1), ?_⟩
      rintro v Kx ⟨rfl, rfl⟩
      refine ⟨(by repeat (first | exact HC.refl _ | refine HC.setn ?_ (by assumption))), ?_⟩
      refine AWK.pure 7 (by decide +kernel) ?_
      simp -implicitDefEqProofs
      refine aq3_op ?_
      simp -implicitDefEqProofs
      refine AWK.pure 8 (by decide +kernel) ?_
      simp -implicitDefEqProofs
      refine aq3_op ?_
      simp -implicitDefEqProofs
      refine AWK.pure 9 (by decide +kernel) ?_
      simp -implicitDefEqProofs
      refine aq3_op ?_
      simp -implicitDefEqProofs
      refine AWK.one 11 (by decide +kernel) ?_
      refine AWE.op rfl ?_
      simp -implicitDefEqProofs
      refine AWS.store (by simp [Heap.set]; exact ⟨rfl, rfl⟩) (by simp only [lset]; repeat (first | exact HC.refl _ | refine HC.setn ?_ (by assumption))) ?_
      refine AWK.pure 12 (by decide +kernel) ?_
      simp -implicitDefEqProofs
      refine aq3_op ?_
      simp -implicitDefEqProofs
      refine AWK.fin (by decide +kernel) ?_
      rw [hJ]
      exact ⟨e, he, by simp [lset], by simp, by simp, by simp, by simp, by simp, by simp, by simp⟩
  rw [hJ]
  clear hJ J
  rintro ρ K' ⟨e, he, hKe, r0, r3, r5, r6, r7, r8, r10⟩
  have hL' : HLe K K' := by rw [hKe]; exact HLe.set_fresh he
  clear hKe he
  replace hL := hL.trans hL'
  replace kb := hL' _ _ kb
  replace kc := hL' _ _ kc
  clear hL' e K
  have hLa := hL
  have kba := kb
  have kca := kc
  simp -implicitDefEqProofs [r5, r10]
  refine AApp.grE el_44 (Gr.nil (e := 5) (sz := 1)) (by simp [szs, AV.cells]) (by simp [szs, AV.cells]) (by simp) (by simp [maxLen]) fun t1 K1 g1 => ?_
  have gl := g1.le
  replace hL := hL.trans gl
  replace kb := gl _ _ kb
  replace kc := gl _ _ kc
  simp -implicitDefEqProofs
  obtain ⟨J, hJ⟩ : ∃ J : (Nat → AV) → Heap → Prop, J = fun ρ K2 => ∃ e, K1 e = none ∧ K2 = K1.set e (.cells [] 78) ∧ ρ 0 = ptr bk ∧ ρ 3 = ptr b ∧ ρ 5 = .sl [.sc (.int .u8 1)] t1 ∧ ρ 6 = ptr c ∧ ρ 12 = .sc (.bool false) := ⟨_, rfl⟩
  refine go_draw3J J [0, 1, 2, 3, 4, 5, 6, 7, 8, 9, 10, 11, 12] K1 f_mixed (by decide +kernel) (HC.refl _) ?_ ?_
  · simp -implicitDefEqProofs
    repeat (refine aq3_op ?_; simp -implicitDefEqProofs [r0, r3, hL _ _ hbk, kb, kc, noteC])
    refine AWK.two 13 17 (by decide +kernel) ?_ ?_
    · refine AWE.op rfl ?_
      simp -implicitDefEqProofs [st_lookup]
      refine ⟨_, lk_launch0 (hL _ _ h0), ?_⟩
      rintro v Kx ⟨rfl, rfl⟩
      refine ⟨HC.refl _, ?_⟩
      refine AWK.pure 14 (by decide +kernel) ?_
      simp -implicitDefEqProofs
      refine aq3_op ?_
      simp -implicitDefEqProofs
      refine AWK.pure 15 (by decide +kernel) ?_
      simp -implicitDefEqProofs
      refine aq3_op ?_
      simp -implicitDefEqProofs
      refine AWK.pure 16 (by decide +kernel) ?_
      simp -implicitDefEqProofs
      refine aq3_op ?_
      simp -implicitDefEqProofs
      refine AWK.one 17 (by decide +kernel) ?_
      refine AWE.op rfl ?_
      simp -implicitDefEqProofs [AV.cells]
      refine AWS.alloc fun e he => ?_
      refine AWK.one 18 (by decide +kernel) ?_
      refine AWE.op rfl ?_
      simp -implicitDefEqProofs
      refine AWS.store (by simp [Heap.set]; exact ⟨rfl, rfl⟩) (by simp only [lset]; repeat (first | exact HC.refl _ | refine HC.setn ?_ (by assumption))) ?_
      refine AWK.pure 19 (by decide +kernel) ?_
      simp -implicitDefEqProofs
      refine aq3_op ?_
      simp -implicitDefEqProofs
      refine AWK.fin (by decide +kernel) ?_
      rw [hJ]
      exact ⟨e, he, by simp [lset], by simp [r0], by simp [r3], by simp, by simp [r6], by simp⟩
    · refine AWE.op rfl ?_
      simp -implicitDefEqProofs [AV.cells]
      refine AWS.alloc fun e he => ?_
      refine AWK.one 13 (by decide +kernel) ?_
      refine AWE.op rfl ?_
      simp -implicitDefEqProofs [st_lookup]
      refine ⟨_, lk_launch0 ((hL.trans (HLe.set_fresh he)) _ _ h0), ?_⟩
      rintro v Kx ⟨rfl, rfl⟩
      refine ⟨(by repeat (first | exact HC.refl _ | refine HC.setn ?_ (by assumption))), ?_⟩
      refine AWK.pure 14 (by decide +kernel) ?_
      simp -implicitDefEqProofs
      refine aq3_op ?_
      simp -implicitDefEqProofs
      refine AWK.pure 15 (by decide +kernel) ?_
      simp -implicitDefEqProofs
      refine aq3_op ?_
      simp -implicitDefEqProofs
      refine AWK.pure 16 (by decide +kernel) ?_
      simp -implicitDefEqProofs
      refine aq3_op ?_
      simp -implicitDefEqProofs
      refine AWK.one 18 (by decide +kernel) ?_
      refine AWE.op rfl ?_
      simp -implicitDefEqProofs
      refine AWS.store (by simp [Heap.set]; exact ⟨rfl, rfl⟩) (by simp only [lset]; repeat (first | exact HC.refl _ | refine HC.setn ?_ (by assumption))) ?_
      refine AWK.pure 19 (by decide +kernel) ?_
      simp -implicitDefEqProofs
      refine aq3_op ?_
      simp -implicitDefEqProofs
      refine AWK.fin (by decide +kernel) ?_
      rw [hJ]
      exact ⟨e, he, by simp [lset], by simp [r0], by simp [r3], by simp, by simp [r6], by simp⟩
  rw [hJ]
  clear hJ J r0 r3 r5 r6 r7 r8 r10
  rintro ρ2 K2 ⟨e, he, hKe, r0, r3, r5, r6, r12⟩
  have g2 := g1.box (o := .cells [] 78) he
  rw [← hKe] at g2
  have hL' : HLe K1 K2 := by rw [hKe]; exact HLe.set_fresh he
  replace hL := hL.trans hL'
  replace kb := hL' _ _ kb
  replace kc := hL' _ _ kc
  simp -implicitDefEqProofs [r5, r12]
  refine AApp.grE el_44 g2 (by simp [szs, AV.cells]) (by simp [szs, AV.cells]) (by simp) (by simp [maxLen]) fun t3 K3 g3 => ?_
  have gl := (HLe.set_fresh (o := .cells [] 78) (g1.le.none he)).trans g3.le
  replace hL := hLa.trans gl
  replace kb := gl _ _ kba
  replace kc := gl _ _ kca
  simp -implicitDefEqProofs
  have nb1 : bk ≠ m1 := by rintro rfl; rw [hbk] at h1; cases h1
  have nbb1 : b ≠ m1 := by rintro rfl; rw [hb] at h1; cases h1
  have nc1 : c ≠ m1 := by rintro rfl; rw [hbc] at h1; cases h1
  have k1 := hL _ _ h1
  have k2 : ∀ o, (K3.set m1 o) m2 = some (.map [(prA, .sc (.int .u64 7), 0)] 1) := fun o => by simp [Heap.set, n12.symm, hL _ _ h2]
  refine go_draw3 [0, 1, 2, 3, 4, 5, 6] K3 f_mixed (by decide +kernel) (HC.refl _) ?_
  simp -implicitDefEqProofs
  repeat (refine aq3_op ?_; simp -implicitDefEqProofs [r0, r3, hL _ _ hbk, kb, noteC])
  refine AWK.one 7 (by decide +kernel) ?_
  refine AWE.op rfl ?_
  simp -implicitDefEqProofs [st_update]
  refine ⟨_, in_set1 k1, ?_⟩
  rintro v Kx ⟨rfl, rfl⟩
  refine ⟨HC.setm (HC.refl _) (by rw [k1]; rfl), ?_⟩
  refine AWK.fin (by decide +kernel) ?_
  simp -implicitDefEqProofs
  have kb2 : ∀ o, (K3.set m1 o) b = some (.cells noteC 61) := fun o => by simp [Heap.set, nbb1, kb]
  have kc2 : ∀ o, (K3.set m1 o) c = some (.cells [.sc (.int .u64 2), .sc (.int .u64 1)] 90) := fun o => by simp [Heap.set, nc1, kc]
  have kbk2 : ∀ o, (K3.set m1 o) bk = some (.cells [mp m0, mp m1, mp m2, mp m3, mp m4] 73) := fun o => by simp [Heap.set, nb1, hL _ _ hbk]
  have hLm := (hL.set_mono (b := m1) (o := .map [(tokA, .agg [], 0)] 1)).set_mono (b := m2) (o := .map [(prA, .sc (.int .u64 7), 0)] 1)
  replace kb2 := kb2 (.map [(tokA, .agg [], 0)] 1)
  replace kc2 := kc2 (.map [(tokA, .agg [], 0)] 1)
  replace kbk2 := kbk2 (.map [(tokA, .agg [], 0)] 1)
  replace k2 := k2 (.map [(tokA, .agg [], 0)] 1)
  generalize hK4 : Heap.set K3 m1 _ = K4 at *
  refine go_draw3 [0, 1, 2, 3, 4, 5, 6] K4 f_mixed (by decide +kernel) (HC.refl _) ?_
  simp -implicitDefEqProofs
  repeat (refine aq3_op ?_; simp -implicitDefEqProofs [r0, r3, r6, kb2, kc2, kbk2, noteC])
  refine AWK.one 7 (by decide +kernel) ?_
  refine AWE.op rfl ?_
  simp -implicitDefEqProofs [st_update]
  refine ⟨_, in_pair1 k2, ?_⟩
  rintro v Kx ⟨rfl, rfl⟩
  refine ⟨HC.setm (HC.refl _) (by rw [k2]; rfl), ?_⟩
  refine AWK.fin (by decide +kernel) ?_
  simp -implicitDefEqProofs [r5]
  subst hR
  exact AFin.intro _ _ (wk_refl _) (HWk.refl _) ⟨_, rfl, hLm⟩
end Go.Proofs.YtghlkjkdejebnaaDoor
