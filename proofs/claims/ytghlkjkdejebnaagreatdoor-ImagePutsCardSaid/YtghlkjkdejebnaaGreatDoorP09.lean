/- Rows that are changed in place: a slot holds the bare slice, the heap the row's cells. Regions that draw their order, walked by hand: those that only give values are put first, then each order that is left. Rows changed in place: append of many; cells told as bare ones; what is handed over is changed no more. Maps: what the machine's primitives on them do, told as calls. Bare slices: capacity, parts, rows of zeros; a row of one's own, told as one that grows. Rows that are changed in place, of elements of several cells. -/
import Derived.Test.YtghlkjkdejebnaaGreatDoorP08
set_option linter.unusedSimpArgs false
set_option linter.unusedVariables false
set_option linter.unnecessarySimpa false
namespace Rg
open Go Go.RowKit
variable {P : Program} {W0 w : World} {C : Com} {H : Heap} {n : Nat} {Q : Post} {ρ : Nat → AV} {k : List AItem}
theorem zero_one {z : Value} (hz : ∀ q ∈ z.cells.toList, q.oneCell' = true) (h0 : 0 < z.cells.size) (m : Nat) : ∀ q ∈ (Builtin.zeroCells z.cells m).toList, q.oneCell' = true := by
  intro q hq
  simp only [Builtin.zeroCells, Array.toList_map, List.mem_map] at hq
  obtain ⟨i, _, rfl⟩ := hq
  have hlt : i % z.cells.size < z.cells.size := Nat.mod_lt _ h0
  rw [getElem!_pos z.cells _ hlt]
  exact hz _ (Array.getElem_mem_toList hlt)
theorem Inv.setRow (h : Inv W0 C H w) {g : Nat} {cs cs' : List AV} {e : TypeId} (hg : H g = some (.cells cs e)) {row : List Value} (hr : RelL C cs' row) (h1 : ∀ v ∈ row, v.oneCell' = true) :
    Inv W0 C (H.set g (.cells cs' e)) (w.setRow g row.toArray) := by
  obtain ⟨hb, vs, hv, _, _, hC⟩ := h.obj _ _ hg
  have hW : W0.heap.size ≤ g := hb
  have hsame : ∀ k, k ≠ g → (w.setRow g row.toArray).heap[k]? = w.heap[k]? := fun k hk => setRow_other w g k row.toArray hk
  have hnew : (w.setRow g row.toArray).heap[g]? = some (.cells row.toArray e (0, 0)) := setRow_heap w g vs.toArray row.toArray e _ hv
  refine ⟨h.below.trans ⟨rfl, rfl, rfl, by simp [World.setRow], fun k hk => hsame k (by omega)⟩, ?_, ?_⟩
  · intro b o u hc
    have hb' : b ≠ g := by rintro rfl; rw [hC] at hc; cases hc
    rw [World.cell?_of_block (w := w) (a := ⟨b, o, none⟩) (hsame b hb')]
    exact h.com b o u hc
  · intro b ob hob
    unfold Heap.set at hob
    by_cases hbg : b = g
    · rw [if_pos hbg] at hob; cases hob; subst hbg
      exact ⟨hb, row, hnew, hr, h1, hC⟩
    · rw [if_neg hbg] at hob
      exact ⟨(h.obj b ob hob).1, (h.obj b ob hob).2.heap (hsame b hbg)⟩
def RawRow (H0 : Heap) (e : TypeId) (xs : List AV) (v : AV) (K : Heap) : Prop :=
  HLe H0 K ∧ ((xs = [] ∧ v = .sc (.slice none 0 0)) ∨ ∃ g zs, H0 g = none ∧ v = .sc (.slice (some ⟨g, 0, none⟩) xs.length (xs.length + zs.length)) ∧ K g = some (.cells (xs ++ zs) e) ∧ xs.length + zs.length ≤ maxLen)
theorem RawRow.none {H0 : Heap} {e : TypeId} : RawRow H0 e [] (.sc (.slice none 0 0)) H0 := ⟨HLe.refl _, .inl ⟨rfl, rfl⟩⟩
theorem ACalls.freeze {f : FuncId} {args : List AV} {H0 : Heap} {e : TypeId} {X : List AV → Prop} (hx : ∀ xs, X xs → ∀ x ∈ xs, x.cells = [x])
    (h : ACalls P f args H (fun v K => ∃ xs, X xs ∧ RawRow H0 e xs v K)) :
    ACalls P f args H (fun v K => ∃ xs, X xs ∧ v = .sl xs .no ∧ HLe H0 K) := by
  intro W0 C w vs hi hargs
  refine (h W0 C w vs hi hargs).mono fun e1 w1 ⟨r, H', C', u, he1, ⟨xs, hX, hle, hcase⟩, hC, hrel, hI⟩ => ?_
  rcases hcase with ⟨rfl, rfl⟩ | ⟨g, zs, hg0, rfl, hKg, hKm⟩
  · obtain rfl := hrel.sc_inv
    exact ⟨.sl [] .no, H', C', _, he1, ⟨[], hX, rfl, hle⟩, hC, .nils _ rfl .nil, hI⟩
  · obtain rfl := hrel.sc_inv
    obtain ⟨hb, vs0, hv0, hrel0, hone0, hC0⟩ := hI.obj _ _ hKg
    obtain ⟨o1, o2, rfl, hr1, hr2⟩ := hrel0.split
    have l1 := hr1.length
    have hCC : CLe C' (commit C' g 0 o1) := commit_le fun k _ _ => hC0 k
    have hI2 : Inv W0 (commit C' g 0 o1) (H'.del g) w1 := by
      refine ⟨hI.below, fun b o u hc => ?_, fun b ob hob => ?_⟩
      · rcases commit_inv hc with ⟨rfl, _, hu⟩ | hc
        · rw [cell_of_row w1 b o _ e _ hv0]
          have hlt := (List.getElem?_eq_some_iff.1 hu).1
          simp only [Nat.sub_zero] at hu hlt
          simp [List.getElem?_append_left hlt, hu]
        · exact hI.com b o u hc
      · unfold Heap.del at hob
        by_cases hbg : b = g
        · rw [if_pos hbg] at hob; cases hob
        · rw [if_neg hbg] at hob
          exact ⟨(hI.obj b ob hob).1, (hI.obj b ob hob).2.com hCC fun o ho => by rw [commit_other hbg]; exact ho⟩
    refine ⟨.sl xs .no, H'.del g, commit C' g 0 o1, _, he1, ⟨xs, hX, rfl, fun b ob hob => ?_⟩, hC.trans hCC, ?_, hI2⟩
    · have hbg : b ≠ g := by rintro rfl; rw [hg0] at hob; cases hob
      unfold Heap.del
      rw [if_neg hbg]
      exact hle b ob hob
    · have hfl : xs.flatMap AV.cells = xs := by
        have : ∀ l : List AV, (∀ x ∈ l, x.cells = [x]) → l.flatMap AV.cells = l := by
          intro l
          induction l with
          | nil => intro _; rfl
          | cons a l ih => intro h; rw [List.flatMap_cons, h a (by simp), ih fun x hx => h x (by simp [hx])]; rfl
        exact this xs (hx xs hX)
      have hr1' : RelL (commit C' g 0 o1) (xs.flatMap AV.cells) o1 := by rw [hfl]; exact hr1.mono hCC
      exact .sl .no g 0 _ 1 hr1' (fun x hx2 => by rw [hx xs hX x hx2]; rfl) (fun q hq => hone0 q (List.mem_append.2 (.inl hq))) (fun j q hq => commit_at hq) (by omega) hKm trivial .nil
end Rg
namespace Rg
open Go Go.RowKit
variable {P : Program} {n : Nat} {Q : Post} {ρ : Nat → AV} {k : List AItem} {H : Heap}
theorem RawRow.le {H0 H1 K : Heap} {e : TypeId} {xs : List AV} {v : AV} (hl : HLe H0 H1) (h : RawRow H1 e xs v K) : RawRow H0 e xs v K :=
  ⟨hl.trans h.1, h.2.imp id fun ⟨g, zs, h1, h2⟩ => ⟨g, zs, HLe.none hl h1, h2⟩⟩
end Rg
namespace Rg
open Go Go.RowKit
variable {P : Program} {n : Nat} {Q : Post} {ρ : Nat → AV} {k : List AItem} {H H0 : Heap}
def markL (m : Nat) (l : List Nat) : Array Bool := l.foldl (fun a i => a.setIfInBounds i true) (Array.replicate m false)
theorem markL_snoc (m : Nat) (l : List Nat) (i : Nat) : markL m (l ++ [i]) = (markL m l).setIfInBounds i true := by simp [markL]
def lexAB (full : Array Oper) (A : List Nat) : Bool := lexA full A (Array.replicate full.size false) == some (markL full.size A) && decide (A.length ≤ full.size)
def AWK (P : Program) (n : Nat) (H0 : Heap) (J : (Nat → AV) → Heap → Prop) (full : Array Oper) (d : List Nat) (ρ : Nat → AV) (H : Heap) : Prop :=
  wAny P n H0 full full.size (fun l ρ' H' => Region.ready .any full l = [] ∧ J ρ' H') (full.size - d.length) (markL full.size d) ρ H
def AQ3 (P : Program) (n : Nat) (H0 : Heap) (full : Array Oper) (K : (Nat → AV) → Prop) (l : List Oper) (ρ : Nat → AV) : Prop := AQ2 P n H0 full K l ρ
def AQ3S (P : Program) (n : Nat) (H0 : Heap) (full : Array Oper) (K : (Nat → AV) → Prop) (dst : Option Tmp) (l : List Oper) (ρ : Nat → AV) : ASR → Prop
  | .val v => AQ3 P n H0 full K l (aput n dst v ρ)
  | .call f args => ∃ v, (∀ H', HC H0 H' → ACalls P f args H' (fun r H'' => r = v ∧ H'' = H')) ∧ AQ3 P n H0 full K l (aput n dst v ρ)
  | _ => False
@[congr] theorem AQ3S_congr {x x' : ASR} (h : x = x') (full : Array Oper) (K : (Nat → AV) → Prop) (dst : Option Tmp) (l : List Oper) (ρ : Nat → AV) : AQ3S P n H0 full K dst l ρ x = AQ3S P n H0 full K dst l ρ x' := by rw [h]
@[congr] theorem AQ3_congr {ρ ρ' : Nat → AV} (h : ρ = ρ') (full : Array Oper) (K : (Nat → AV) → Prop) (l : List Oper) : AQ3 P n H0 full K l ρ = AQ3 P n H0 full K l ρ' := by rw [h]
@[congr] theorem AWK_congr {H H' : Heap} (h : H = H') (J : (Nat → AV) → Heap → Prop) (full : Array Oper) (d : List Nat) (ρ : Nat → AV) : AWK P n H0 J full d ρ H = AWK P n H0 J full d ρ H' := by rw [h]
section
variable {full : Array Oper} {K : (Nat → AV) → Prop} {l : List Oper} {dst : Option Tmp}
@[simp] theorem aq3_nil : AQ3 P n H0 full K [] ρ = K ρ := rfl
@[simp] theorem AQ3S_val (v : AV) : AQ3S P n H0 full K dst l ρ (.val v) = AQ3 P n H0 full K l (aput n dst v ρ) := rfl
theorem aq3_op {op : Op} {ty : TypeId} {pos : String} {after : Array Edge} (h : AQ3S P n H0 full K dst l ρ (astepV P op (evA ρ) H0)) : AQ3 P n H0 full K (⟨dst, op, ty, pos, after, none⟩ :: l) ρ := by
  cases hv : astepV P op (evA ρ) H0 with
  | val v => rw [hv] at h; exact ⟨v, fun _ hc => .inl ⟨rfl, .inl (astepV_HC hv hc)⟩, h⟩
  | call f args => rw [hv] at h; obtain ⟨v, h1, h2⟩ := h; exact ⟨v, fun H' hc => .inl ⟨rfl, .inr (.inl ⟨f, args, astepV_other hv (.inl ⟨_, _, rfl⟩), h1 H' hc⟩)⟩, h2⟩
  | app T e xs t ys => rw [hv] at h; exact h.elim
  | alloc cs T => rw [hv] at h; exact h.elim
  | store b off ds => rw [hv] at h; exact h.elim
  | stuck => rw [hv] at h; exact h.elim
  | lits e sz xs => rw [hv] at h; exact h.elim
  | freeze g v => rw [hv] at h; exact h.elim
  | unarr b v => rw [hv] at h; exact h.elim
end
def AWE (P : Program) (n : Nat) (H0 : Heap) (full : Array Oper) (K : (Nat → AV) → Heap → Prop) (ρ : Nat → AV) (H : Heap) : Option Oper → Prop
  | some o => AE P n H0 full o K ρ H
  | none => False
def AWS (P : Program) (n : Nat) (H0 : Heap) (K : (Nat → AV) → Heap → Prop) (dst : Option Tmp) (ρ : Nat → AV) (H : Heap) : ASR → Prop
  | .val v => K (aput n dst v ρ) H
  | .alloc cs T => ∀ b, H b = none → K (aput n dst (.sc (.pointer (some ⟨b, 0, none⟩))) ρ) (H.set b (.cells cs T))
  | .store b off ds => ∃ cs T, H b = some (.cells cs T) ∧ HC H0 (H.set b (.cells (lset cs off ds) T)) ∧ K (aput n dst (.sc undef) ρ) (H.set b (.cells (lset cs off ds) T))
  | .call f args => ∃ R, ACalls P f args H R ∧ ∀ v H', R v H' → HC H0 H' ∧ K (aput n dst v ρ) H'
  | .app T e xs t ys => ∃ sz by_, ElemOk P T e sz by_ ∧ szs sz xs = true ∧ szs sz ys = true ∧ (xs.length + ys.length) * by_ ≤ 140737488355328 ∧ xs.length + ys.length ≤ maxLen ∧
      (((t = .nil ∨ t = .full) ∧ ys = [] ∧ K (aput n dst (.sl xs t) ρ) H) ∨
       ((t = .nil ∨ t = .full) ∧ ys ≠ [] ∧ ∀ g cap, H g = none → K (aput n dst (.sl (xs ++ ys) (.own g cap sz e)) ρ) (H.set g (.open (xs.length + ys.length) cap sz e))) ∨
       (∃ g cap, t = .own g cap sz e ∧ H g = some (.open xs.length cap sz e) ∧
         ∀ g' cap', (H.del g) g' = none → K (aput n dst (.sl (xs ++ ys) (.own g' cap' sz e)) ρ) ((H.del g).set g' (.open (xs.length + ys.length) cap' sz e))))
  | _ => False
@[congr] theorem AWS_congr {x x' : ASR} (h : x = x') (K : (Nat → AV) → Heap → Prop) (dst : Option Tmp) (ρ : Nat → AV) (H : Heap) : AWS P n H0 K dst ρ H x = AWS P n H0 K dst ρ H x' := by rw [h]
@[congr] theorem AWE_congr {x x' : Option Oper} (h : x = x') (full : Array Oper) (K : (Nat → AV) → Heap → Prop) (ρ : Nat → AV) (H : Heap) : AWE P n H0 full K ρ H x = AWE P n H0 full K ρ H x' := by rw [h]
section
variable {full : Array Oper} {K : (Nat → AV) → Heap → Prop} {dst : Option Tmp}
theorem AWE.op {op : Op} {ty : TypeId} {pos : String} {after : Array Edge} {x : Option Oper} (hx : x = some ⟨dst, op, ty, pos, after, none⟩) (h : AWS P n H0 K dst ρ H (astepV P op (evA ρ) H)) : AWE P n H0 full K ρ H x := by
  subst hx
  refine .inr ⟨rfl, ?_⟩
  simp only
  cases hv : astepV P op (evA ρ) H <;> rw [hv] at h <;> first | exact h | exact h.elim
@[simp] theorem AWS_val (v : AV) : AWS P n H0 K dst ρ H (.val v) = K (aput n dst v ρ) H := rfl
theorem AWS.alloc {cs : List AV} {T : TypeId} (h : ∀ b, H b = none → K (aput n dst (.sc (.pointer (some ⟨b, 0, none⟩))) ρ) (H.set b (.cells cs T))) : AWS P n H0 K dst ρ H (.alloc cs T) := h
theorem AWS.store {b off : Nat} {ds cs : List AV} {T : TypeId} (hb : H b = some (.cells cs T)) (hc : HC H0 (H.set b (.cells (lset cs off ds) T))) (h : K (aput n dst (.sc undef) ρ) (H.set b (.cells (lset cs off ds) T))) : AWS P n H0 K dst ρ H (.store b off ds) := ⟨cs, T, hb, hc, h⟩
theorem AWS.grows0 {T e : TypeId} {xs ys : List AV} {t : Tok} {sz by_ : Nat} {G0 G : Heap} (he : ElemOk P T e sz by_) (hg : Grows G0 xs sz e t G) (hl : HLe G H)
    (hx : szs sz xs = true) (hy : szs sz ys = true) (hb : (xs.length + ys.length) * by_ ≤ 140737488355328) (hm : xs.length + ys.length ≤ maxLen)
    (h : ∀ t' K' Hn, Grows G0 (xs ++ ys) sz e t' K' → HLe K' Hn → (∀ b o, H b = some o → G b = none ∨ G0 b = some o → Hn b = some o) → K (aput n dst (.sl (xs ++ ys) t') ρ) Hn) : AWS P n H0 K dst ρ H (.app T e xs t ys) := by
  refine ⟨sz, by_, he, hx, hy, hb, hm, ?_⟩
  rcases hg with ⟨rfl, rfl, rfl⟩ | ⟨g, cap, h1, rfl, rfl⟩
  · by_cases h0 : ys = []
    · subst h0
      exact .inl ⟨.inl rfl, rfl, h _ G _ .zero hl (fun b o e _ => e)⟩
    · refine .inr (.inl ⟨.inl rfl, h0, fun g cap hgn => h _ (G.set g (.open ([].length + ys.length) cap sz e)) _ (.inr ⟨g, cap, hl.none hgn, rfl, by simp⟩) hl.set_mono fun b o e _ => ?_⟩)
      have : b ≠ g := by rintro rfl; rw [hgn] at e; cases e
      simp [this, e]
  · have hlG : HLe G0 H := (HLe.refl G0).set_new h1 |>.trans hl
    refine .inr (.inr ⟨g, cap, rfl, hl g _ (by simp [Heap.set]), fun g' cap' hgn => h _ (G0.set g' (.open (xs.length + ys.length) cap' sz e)) _ (.inr ⟨g', cap', ?_, rfl, by simp⟩) ?_ fun b o eb hb2 => ?_⟩)
    · by_cases hgg : g' = g
      · subst hgg; exact h1
      · exact hlG.none (by simpa [Heap.del, hgg] using hgn)
    · refine HLe.set_mono fun c ob hc => ?_
      have hcg : c ≠ g := by rintro rfl; rw [h1] at hc; cases hc
      simp only [Heap.del, if_neg hcg]
      exact hlG c ob hc
    · have hbg : b ≠ g := by
        rintro rfl
        rcases hb2 with hb2 | hb2
        · simp [Heap.set] at hb2
        · rw [h1] at hb2; cases hb2
      have hbg' : b ≠ g' := by
        rintro rfl
        simp only [Heap.del, if_neg hbg] at hgn
        rw [hgn] at eb
        cases eb
      simp only [Heap.set, Heap.del, if_neg hbg, if_neg hbg']
      exact eb
end
def readyB (full : Array Oper) (d l : List Nat) : Bool := decide (Region.ready .any full (markL full.size d) = l) && decide (l ≠ []) && l.all (fun i => decide (i < full.size)) && decide (d.length < full.size)
def doneB (full : Array Oper) (d : List Nat) : Bool := decide (Region.ready .any full (markL full.size d) = []) && decide (d.length = full.size)
variable {J : (Nat → AV) → Heap → Prop}
theorem AWK.step {full : Array Oper} {d : List Nat} (l : List Nat) (hr : readyB full d l = true) (h : ∀ i ∈ l, AWE P n H0 full (AWK P n H0 J full (d ++ [i])) ρ H full[i]?) : AWK P n H0 J full d ρ H := by
  simp only [readyB, Bool.and_eq_true, decide_eq_true_eq] at hr
  obtain ⟨⟨⟨h1, h2⟩, h3⟩, h4⟩ := hr
  unfold AWK
  rw [show full.size - d.length = (full.size - (d.length + 1)) + 1 by omega]
  refine ⟨by rw [h1]; exact h2, fun i hi => ?_⟩
  rw [h1] at hi
  have hlt : i < full.size := by simpa using List.all_eq_true.1 h3 i hi
  refine ⟨hlt, full[i], Array.getElem?_eq_getElem hlt, .inr ?_⟩
  have := h i hi
  rw [Array.getElem?_eq_getElem hlt] at this
  unfold AWE AWK at this
  rw [markL_snoc, List.length_append, List.length_singleton] at this
  exact this
theorem AWK.one {l0 : List Oper} {d : List Nat} (i : Nat) (hr : readyB l0.toArray d [i] = true) (h : AWE P n H0 l0.toArray (AWK P n H0 J l0.toArray (d ++ [i])) ρ H l0[i]?) : AWK P n H0 J l0.toArray d ρ H :=
  AWK.step [i] hr fun j hj => by
    obtain rfl := List.mem_singleton.1 hj
    rw [List.getElem?_toArray]
    exact h
theorem AWK.two {l0 : List Oper} {d : List Nat} (i j : Nat) (hr : readyB l0.toArray d [i, j] = true) (h1 : AWE P n H0 l0.toArray (AWK P n H0 J l0.toArray (d ++ [i])) ρ H l0[i]?)
    (h2 : AWE P n H0 l0.toArray (AWK P n H0 J l0.toArray (d ++ [j])) ρ H l0[j]?) : AWK P n H0 J l0.toArray d ρ H :=
  AWK.step [i, j] hr fun q hq => by
    rw [List.getElem?_toArray]
    rcases List.mem_cons.1 hq with rfl | hq
    · exact h1
    · obtain rfl := List.mem_singleton.1 hq
      exact h2
theorem AWK.fin {full : Array Oper} {d : List Nat} (hr : doneB full d = true) (h : J ρ H) : AWK P n H0 J full d ρ H := by
  simp only [doneB, Bool.and_eq_true, decide_eq_true_eq] at hr
  unfold AWK
  rw [show full.size - d.length = 0 by omega]
  exact ⟨hr.1, h⟩
theorem go_draw3 {id : Nat} {l : List Oper} (A : List Nat) (H0 : Heap) (hmix : P.follows .mixedOrders = true) (hd : lexAB l.toArray A = true) (hc : HC H0 H)
    (h : AQ3 P n H0 l.toArray (fun r => AWK P n H0 (AGo P n Q k) l.toArray A r H) (picks l.toArray A) ρ) : AGo P n Q (.code (.region id l.toArray true) :: k) ρ H := by
  simp only [lexAB, Bool.and_eq_true, beq_iff_eq, decide_eq_true_eq] at hd
  exact .draw3 A _ H0 _ hmix hd.1 hd.2 hc h fun _ _ h => h
theorem go_draw3J {id : Nat} {l : List Oper} (J : (Nat → AV) → Heap → Prop) (A : List Nat) (H0 : Heap) (hmix : P.follows .mixedOrders = true) (hd : lexAB l.toArray A = true) (hc : HC H0 H)
    (h : AQ3 P n H0 l.toArray (fun r => AWK P n H0 J l.toArray A r H) (picks l.toArray A) ρ) (h2 : ∀ ρ' H', J ρ' H' → AGo P n Q k ρ' H') : AGo P n Q (.code (.region id l.toArray true) :: k) ρ H := by
  simp only [lexAB, Bool.and_eq_true, beq_iff_eq, decide_eq_true_eq] at hd
  exact .draw3 A _ H0 _ hmix hd.1 hd.2 hc h h2
theorem HC.nothing {H : Heap} : HC (fun _ => none) H := fun b cs e => by simp [rd] at e
end Rg
namespace Rg
open Go Go.RowKit
variable {P : Program} {W0 w : World} {C : Com} {H : Heap} {n : Nat} {Q : Post} {ρ : Nat → AV} {k : List AItem}
theorem flat_one {l : List AV} (h : ∀ x ∈ l, x.cells = [x]) : l.flatMap AV.cells = l := by
  induction l with
  | nil => rfl
  | cons a l ih => rw [List.flatMap_cons, h a (by simp), ih fun x hx => h x (by simp [hx])]; rfl
theorem Inv.freeze {g : Nat} {xs zs : List AV} {e : TypeId} (hI : Inv W0 C H w) (hKg : H g = some (.cells (xs ++ zs) e)) (hx : ∀ x ∈ xs, x.cells = [x]) (hm : xs.length + zs.length ≤ maxLen) :
    ∃ C', CLe C C' ∧ Inv W0 C' (H.del g) w ∧ Rel C' (.sl xs .no) (.slice (some ⟨g, 0, none⟩) xs.length (xs.length + zs.length)) := by
  obtain ⟨hb, vs0, hv0, hrel0, hone0, hC0⟩ := hI.obj _ _ hKg
  obtain ⟨o1, o2, rfl, hr1, hr2⟩ := hrel0.split
  have l1 := hr1.length
  have hCC : CLe C (commit C g 0 o1) := commit_le fun k _ _ => hC0 k
  refine ⟨commit C g 0 o1, hCC, ⟨hI.below, fun b o u hc => ?_, fun b ob hob => ?_⟩, ?_⟩
  · rcases commit_inv hc with ⟨rfl, _, hu⟩ | hc
    · rw [cell_of_row w b o _ e _ hv0]
      have hlt := (List.getElem?_eq_some_iff.1 hu).1
      simp only [Nat.sub_zero] at hu hlt
      simp [List.getElem?_append_left hlt, hu]
    · exact hI.com b o u hc
  · unfold Heap.del at hob
    by_cases hbg : b = g
    · rw [if_pos hbg] at hob; cases hob
    · rw [if_neg hbg] at hob
      exact ⟨(hI.obj b ob hob).1, (hI.obj b ob hob).2.com hCC fun o ho => by rw [commit_other hbg]; exact ho⟩
  · have hr1' : RelL (commit C g 0 o1) (xs.flatMap AV.cells) o1 := by rw [flat_one hx]; exact hr1.mono hCC
    exact .sl .no g 0 _ 1 hr1' (fun x hx2 => by rw [hx x hx2]; rfl) (fun q hq => hone0 q (List.mem_append.2 (.inl hq))) (fun j q hq => commit_at hq) (by omega) hm trivial .nil
inductive FzL (b f : AV) : List AV → List AV → Prop
  | nil : FzL b f [] []
  | hit {az bs : List AV} : FzL b f az bs → FzL b f (b :: az) (f :: bs)
  | keep (a : AV) {az bs : List AV} : FzL b f az bs → FzL b f (a :: az) (a :: bs)
  | deep {xs ys : List AV} {t : Tok} {az bs : List AV} : FzL b f xs ys → (∀ x ∈ xs, x.cells = [x]) → (∀ y ∈ ys, y.cells = [y]) → FzL b f az bs → FzL b f (.sl xs t :: az) (.sl ys .no :: bs)
theorem FzL.length {b f : AV} {az bs : List AV} (h : FzL b f az bs) : az.length = bs.length := by
  induction h with
  | nil => rfl
  | hit _ ih => simp [ih]
  | keep _ _ ih => simp [ih]
  | deep _ _ _ _ _ ih => simp [ih]
theorem RawRow.get {H0 K : Heap} {e : TypeId} {xs : List AV} {v : AV} (h : RawRow H0 e xs v K) {b : Nat} {o : AObj} (hb : H0 b = some o) : K b = some o := h.1 b o hb
end Rg
namespace Rg
open Go Go.RowKit
variable {P : Program} {W0 w : World} {C : Com} {H : Heap}
abbrev pa (g : Nat) (T : TypeId) (xs : List AV) : List AV := .sc (.bool true) :: .sc (.int .i64 (g : Nat)) :: .sc (.int .i64 ((T : Nat) : Int)) :: xs
theorem ACalls.prim {g : Nat} {T : TypeId} {xs : List AV} {R : AV → Heap → Prop} (h : ∀ (W0 : World) (C : Com) (w : World) (vs : List Value), Inv W0 C H w → RelL C xs vs → ∀ ty : TypeId, ∃ r w', (primRun g T ty vs).run P w = .ok r w' ∧ ∃ v H' C', R v H' ∧ CLe C C' ∧ Rel C' v r ∧ Inv W0 C' H' w') :
    ACalls P P.funcs.size (pa g T xs) H R := by
  intro W0 C w vs hi ha
  obtain ⟨v0, vs0, rfl, h0, a1⟩ := ha.uncons
  obtain ⟨v1, vs1, rfl, h1, a2⟩ := a1.uncons
  obtain ⟨v2, vs2, rfl, h2, a3⟩ := a2.uncons
  obtain rfl := h0.sc_inv
  obtain rfl := h1.sc_inv
  obtain rfl := h2.sc_inv
  refine .inr <| .inr <| .inr ⟨rfl, g, T, vs2, rfl, fun ty => ?_⟩
  obtain ⟨r, w', h1, v, H', C', h2, h3, h4, h5⟩ := h W0 C w vs2 hi a3 ty
  exact ⟨r, w', h1, v, H', C', r, rfl, h2, h3, h4, h5⟩
theorem Inv.putObj (hi : Inv W0 C H w) {r : Nat} {ob0 ob : AObj} {o : Obj} (h0 : H r = some ob0) (hb : W0.heap.size ≤ r) (hC : ∀ k, C r k = none) (ho : ObjOk C (w.putObj r o) r ob) (hb2 : ob.base W0 r) : Inv W0 C (H.set r ob) (w.putObj r o) := by
  have hd := hi.del o hb hC
  refine ⟨hd.below, hd.com, fun b ob' e => ?_⟩
  unfold Heap.set at e
  by_cases hbl : b = r
  · rw [if_pos hbl] at e; cases e; subst hbl; exact ⟨hb2, ho⟩
  · rw [if_neg hbl] at e; exact hd.obj b ob' (by unfold Heap.del; rw [if_neg hbl]; exact e)
theorem RelE.get {es : List (AV × AV × Nat)} {ens : List MapEntry} (h : RelE C es ens) {i : Nat} {e : AV × AV × Nat} (he : es[i]? = some e) : ∃ x, ens[i]? = some x ∧ Rel C e.1 x.key ∧ Rel C e.2.1 x.val ∧ e.2.2 = x.born := by
  obtain ⟨h1, h2, h3⟩ := h
  obtain ⟨k, hk, hk2⟩ := h1.get (i := i) (a := e.1) (by simp [he])
  obtain ⟨v, hv, hv2⟩ := h2.get (i := i) (a := e.2.1) (by simp [he])
  cases hx : ens[i]? with
  | none => simp [hx] at hk
  | some x =>
    simp only [List.getElem?_map, hx, Option.map_some, Option.some.injEq] at hk hv
    subst hk; subst hv
    refine ⟨x, rfl, hk2, hv2, ?_⟩
    have := congrArg (fun l => l[i]?) h3
    simpa [he, hx] using this
theorem RelE.length {es : List (AV × AV × Nat)} {ens : List MapEntry} (h : RelE C es ens) : es.length = ens.length := by have := h.1.length; simpa using this
theorem RelE.nil_inv {ens : List MapEntry} (h : RelE C [] ens) : ens = [] := by have := h.length; exact List.length_eq_zero_iff.1 this.symm
theorem RelE.modify {es : List (AV × AV × Nat)} {ens : List MapEntry} (h : RelE C es ens) {i : Nat} {e : AV × AV × Nat} {en : MapEntry} (he : ens[i]? = some en) {k v : AV} {x y : Value} (hk : Rel C k x) (hv : Rel C v y) (hb : es[i]? = some e) :
    RelE C (es.set i (k, v, e.2.2)) (ens.set i { en with key := x, val := y }) := by
  obtain ⟨h1, h2, h3⟩ := h
  refine ⟨?_, ?_, ?_⟩
  · rw [List.map_set, List.map_set]; exact h1.set hk
  · rw [List.map_set, List.map_set]; exact h2.set hv
  · rw [List.map_set, List.map_set, h3]
    have := congrArg (fun l => l[i]?) h3
    simp [he, hb] at this
    rw [this]
section
variable {T kt et : TypeId} {d : TypeDesc} {m ck : Nat} {es : List (AV × AV × Nat)} {k : AV}
end
end Rg
namespace Rg
open Go Go.RowKit
variable {P : Program} {W0 w : World} {C : Com} {H : Heap}
theorem c_capBare {T e : TypeId} (hT : P.underlying T = some (.slice e)) {a : Option Addr} {n c : Nat} : AOk P P.funcs.size (pa 16 T [.sc (.slice a n c)]) H (.sc (.int .i64 (c : Int))) H := by
  refine ACalls.prim fun W0 C w vs hi ha ty => ?_
  obtain ⟨x, vs', rfl, hx, ha⟩ := ha.uncons
  obtain rfl := ha.nil_inv
  obtain rfl := hx.sc_inv
  refine ⟨.int .i64 (c : Int), w, ?_, _, _, C, ⟨rfl, rfl⟩, CLe.refl C, Rel.sc _, hi⟩
  have g0 : (#[T] : Array TypeId)[0]? = some T := rfl
  have g1 : (#[Value.slice a n c] : Array Value)[0]? = some (.slice a n c) := rfl
  simp only [primRun, Builtin.cap_, g0, g1, Sem.run_bind, run_underlying hT w, Result.andThen_ok, Sem.run_pure, goInt]
theorem nil_val {v : Value} (h : Rel C (.sl [] .nil) v) : v = .slice none 0 0 := by
  unfold Rel at h
  cases h with
  | nils => rfl
  | emp _ a cap h => rcases h with h | h | ⟨h, _⟩ <;> cases h
  | sl _ b o cap sz _ _ _ _ _ _ h => exact h.elim
theorem ACalls.nilArg {f : FuncId} {pre post : List AV} {R : AV → Heap → Prop} (h : ACalls P f (pre ++ .sc (.slice none 0 0) :: post) H R) : ACalls P f (pre ++ .sl [] .nil :: post) H R := by
  intro W0 C w vs hi ha
  obtain ⟨us, ws, rfl, ha1, ha2⟩ := RelL.split ha
  obtain ⟨v, ws', rfl, hv, hr⟩ := ha2.uncons
  obtain rfl := nil_val hv
  exact h W0 C w _ hi (ha1.append (RelL.cons (Rel.sc _) hr))
theorem Rel.nilBare {v : Value} (h : Rel C (.sc (.slice none 0 0)) v) : Rel C (.sl [] .nil) v := by
  obtain rfl := h.sc_inv
  exact .nils _ rfl .nil
def obv (k : IntKind) : Option Nat → AV
  | some i => .sc (.int k (i : Int))
  | none => .sc undef
theorem c_sliceBare {T e : TypeId} {sz : Nat} (hT : P.underlying T = some (.slice e)) (hs : tsize P e = some sz) {a : Option Addr} {len cap : Nat} {kl kh km : IntKind} (lo hi mx : Option Nat) {l h m : Nat}
    (hm : mx.getD cap = m) (hmc : m ≤ cap) (hh : hi.getD len = h) (hhm : h ≤ m) (hl : lo.getD 0 = l) (hlh : l ≤ h) (hx : mx.isSome = true → hi.isSome = true) :
    AOk P P.funcs.size (pa 18 T [.sc (.slice a len cap), .sc (.bool lo.isSome), obv kl lo, .sc (.bool hi.isSome), obv kh hi, .sc (.bool mx.isSome), obv km mx]) H (.sc (.slice (if m = l then a else a.map (·.add (l * sz))) (h - l) (m - l))) H := by
  refine ACalls.prim fun W0 C w vs hiv ha ty => ?_
  obtain ⟨x, vs', rfl, hxv, ha⟩ := ha.uncons
  obtain ⟨x1, vs1, rfl, hx1, ha⟩ := ha.uncons
  obtain ⟨x2, vs2, rfl, hx2, ha⟩ := ha.uncons
  obtain ⟨x3, vs3, rfl, hx3, ha⟩ := ha.uncons
  obtain ⟨x4, vs4, rfl, hx4, ha⟩ := ha.uncons
  obtain ⟨x5, vs5, rfl, hx5, ha⟩ := ha.uncons
  obtain ⟨x6, vs6, rfl, hx6, ha⟩ := ha.uncons
  obtain rfl := ha.nil_inv
  obtain rfl := hxv.sc_inv
  obtain rfl := hx1.sc_inv
  obtain rfl := hx3.sc_inv
  obtain rfl := hx5.sc_inv
  refine ⟨.slice (if m = l then a else a.map (·.add (l * sz))) (h - l) (m - l), w, ?_, _, _, C, ⟨rfl, rfl⟩, CLe.refl C, Rel.sc _, hiv⟩
  have bound : ∀ (k : IntKind) (i y : Nat) (c : BoundsCode), i ≤ y → (Instr.sliceBound (.int k (i : Int)) y c).run P w = .ok i w := by
    intro k i y c hiy
    have h1 : (0 : Int) ≤ (i : Int) ∧ (i : Int) ≤ (y : Int) := by omega
    simp only [Instr.sliceBound, Sem.run_bind, asIntOf, Sem.run_pure, Result.andThen_ok, if_pos h1, Int.toNat_natCast]
  have hb : (Instr.sliceBounds true len cap (if lo.isSome then some x2 else none) (if hi.isSome then some x4 else none) (if mx.isSome then some x6 else none)).run P w = .ok (l, h, m) w := by
    have b1 : ∀ i, lo = some i → x2 = .int kl (i : Int) := fun i e => by subst e; exact hx2.sc_inv
    have b2 : ∀ i, hi = some i → x4 = .int kh (i : Int) := fun i e => by subst e; exact hx4.sc_inv
    have b3 : ∀ i, mx = some i → x6 = .int km (i : Int) := fun i e => by subst e; exact hx6.sc_inv
    cases mx with
    | none =>
      simp only [Option.getD_none] at hm
      subst hm
      cases hi with
      | none =>
        simp only [Option.getD_none] at hh
        subst hh
        cases lo with
        | none =>
          simp only [Option.getD_none] at hl
          subst hl
          simp [Instr.sliceBounds, Sem.run_bind]
        | some i =>
          simp only [Option.getD_some] at hl
          subst hl
          rw [b1 i rfl]
          simp [Instr.sliceBounds, Sem.run_bind, bound kl i _ _ hlh]
      | some j =>
        simp only [Option.getD_some] at hh
        subst hh
        rw [b2 j rfl]
        cases lo with
        | none =>
          simp only [Option.getD_none] at hl
          subst hl
          simp [Instr.sliceBounds, Sem.run_bind, bound kh j _ _ hhm]
        | some i =>
          simp only [Option.getD_some] at hl
          subst hl
          rw [b1 i rfl]
          simp [Instr.sliceBounds, Sem.run_bind, bound kh j _ _ hhm, bound kl i _ _ hlh]
    | some q =>
      simp only [Option.getD_some] at hm
      subst hm
      rw [b3 q rfl]
      cases hi with
      | none => exact absurd (hx rfl) (by simp)
      | some j =>
        simp only [Option.getD_some] at hh
        subst hh
        rw [b2 j rfl]
        cases lo with
        | none =>
          simp only [Option.getD_none] at hl
          subst hl
          simp [Instr.sliceBounds, Sem.run_bind, bound km q _ _ hmc, bound kh j _ _ hhm]
        | some i =>
          simp only [Option.getD_some] at hl
          subst hl
          rw [b1 i rfl]
          simp [Instr.sliceBounds, Sem.run_bind, bound km q _ _ hmc, bound kh j _ _ hhm, bound kl i _ _ hlh]
  simp only [primRun, Instr.sliceAt, Instr.sureAddr, Instr.slice, Sem.run_bind, Sem.run_pure, Result.andThen_ok, run_underlying hT w, hb, run_sizeOf hs]
theorem c_sliceNil {T e : TypeId} {sz : Nat} (hT : P.underlying T = some (.slice e)) (hs : tsize P e = some sz) {k : IntKind} :
    AOk P P.funcs.size (pa 18 T [.sc (.slice none 0 0), .sc (.bool false), .sc undef, .sc (.bool true), .sc (.int k 0), .sc (.bool false), .sc undef]) H (.sc (.slice none 0 0)) H := by
  have := c_sliceBare (H := H) (P := P) (sz := sz) (kl := .i64) (kh := k) (km := .i64) hT hs (a := none) (len := 0) (cap := 0) none (some 0) none (l := 0) (h := 0) (m := 0) rfl (Nat.le_refl 0) rfl (Nat.le_refl 0) rfl (Nat.le_refl 0) (by simp)
  simpa [obv] using this
theorem c_sliceTo {T e : TypeId} {sz : Nat} (hT : P.underlying T = some (.slice e)) (hs : tsize P e = some sz) {g o len cap hi : Nat} {k : IntKind} (h : hi ≤ cap) :
    AOk P P.funcs.size (pa 18 T [.sc (.slice (some ⟨g, o, none⟩) len cap), .sc (.bool false), .sc undef, .sc (.bool true), .sc (.int k (hi : Int)), .sc (.bool false), .sc undef]) H (.sc (.slice (some ⟨g, o, none⟩) hi cap)) H := by
  have := c_sliceBare (H := H) (P := P) (sz := sz) (kl := .i64) (kh := k) (km := .i64) hT hs (a := some ⟨g, o, none⟩) (len := len) (cap := cap) none (some hi) none (l := 0) (h := hi) (m := cap) rfl (Nat.le_refl _) rfl h rfl (Nat.zero_le _) (by simp)
  have e1 : (if cap = 0 then some (⟨g, o, none⟩ : Addr) else (some (⟨g, o, none⟩ : Addr)).map (·.add (0 * sz))) = some ⟨g, o, none⟩ := by
    split
    · rfl
    · rw [Nat.zero_mul, Option.map_some, addr_add, Nat.add_zero]
  rw [e1, Nat.sub_zero, Nat.sub_zero] at this
  exact this
theorem c_appendMake {T T2 e : TypeId} {by_ sz : Nat} {k2 k : IntKind} (he : ElemOk P T e sz by_) (h2 : P.underlying T2 = some (.int k2)) {n : Nat} (h0 : 0 < n) (hb : n * by_ ≤ 140737488355328) (hm : n ≤ maxLen) (hz1 : ∀ z, tzero P e = some z → ∀ q ∈ z.cells.toList, q.oneCell' = true) :
    ACalls P P.funcs.size (pa 17 T [.sc (.int .i64 ((T2 : Nat) : Int)), .sc (.slice none 0 0), .sc (.int k (n : Int))]) H (fun v H' => ∃ g cap, ∃ zs : List Value, H g = none ∧ n ≤ cap ∧ cap ≤ maxLen ∧ zs.length = cap * sz ∧ v = .sc (.slice (some ⟨g, 0, none⟩) n cap) ∧ H' = H.set g (.cells (zs.map .sc) e)) := by
  refine ACalls.prim fun W0 C w vs hi ha ty => ?_
  obtain ⟨x1, vs1, rfl, hx1, ha⟩ := ha.uncons
  obtain ⟨x2, vs2, rfl, hx2, ha⟩ := ha.uncons
  obtain ⟨x3, vs3, rfl, hx3, ha⟩ := ha.uncons
  obtain rfl := ha.nil_inv
  obtain rfl := hx1.sc_inv
  obtain rfl := hx2.sc_inv
  obtain rfl := hx3.sc_inv
  obtain ⟨i, z, hinf, hsz, hby, hz, hz2⟩ := he.info
  have hT := telem_spec he.el
  have htz : tzero P e = some z := by unfold tzero; rw [hinf]; simpa using hz
  have hcapm := grownCap_le_maxLen w n 0 e hm
  have hcapn : n ≤ grownCap w n 0 e := by simpa using grownCap_ge w n 0 e
  have hrun : (Builtin.append_ #[T, T2] ty #[.slice none 0 0, .int k (n : Int)]).run P w = .ok (.slice (some ⟨w.heap.size, 0, none⟩) n (grownCap w n 0 e)) (w.drew.alloc (.cells (Builtin.zeroCells z.cells n ++ Builtin.zeroCells z.cells (grownCap w n 0 e - n)) e)) := by
    have hn : n ≠ 0 := by omega
    have hw : IntKind.i64.wrap (n : Int) = (n : Int) := wrap_i64 (by omega) (by simp [maxLen] at hm; omega)
    have h63 : ¬ (9223372036854775807 < (n : Int)) := by simp [maxLen] at hm; omega
    have h48 : ¬ (281474976710656 < (n : Int) * (i.bytes : Int)) := by
      rw [hby, ← Int.natCast_mul]
      generalize n * by_ = q at hb
      omega
    have h48' : ¬ (281474976710656 < Builtin.nextslicecap n 0 * i.bytes) := by rw [nextslicecap_zero h0, hby]; omega
    have hneg : ¬ ((n : Int) < 0) := by omega
    by_cases hs0 : i.size = 0
    · have hz0 : z.cells.size = 0 := by rw [hz2, ← hsz, hs0]
      have hzc : Builtin.zeroCells z.cells n = #[] := by simp [Builtin.zeroCells, hz0]
      simp [Builtin.append_, run_underlying hT, run_underlying h2, Go.sizeOf, typeInfo, zeroValue, hinf, hz, asInt, asIntOf, hw, hneg, h48, hn, h63, h48', Question.forced, run_firstCells_none, newRow, grownCap, hs0, hzc]
    · simp [Builtin.append_, run_underlying hT, run_underlying h2, Go.sizeOf, typeInfo, zeroValue, hinf, hz, asInt, asIntOf, hw, hneg, h48, hn, h63, h48', Question.forced, run_firstCells_none, newRow, grownCap, hs0]
      intro h
      exact absurd h (Nat.ne_of_gt (Nat.mul_pos h0 (Nat.pos_of_ne_zero hs0)))
  obtain ⟨zl, hzl⟩ : ∃ zl, (Builtin.zeroCells z.cells n ++ Builtin.zeroCells z.cells (grownCap w n 0 e - n)).toList = zl := ⟨_, rfl⟩
  have hzlen : zl.length = grownCap w n 0 e * sz := by
    rw [← hzl, Array.length_toList, Array.size_append, size_zeroCells, size_zeroCells, hz2, ← Nat.add_mul]
    congr 1
    omega
  have hz1c : ∀ q ∈ zl, q.oneCell' = true := by
    rw [← hzl, Array.toList_append]
    intro q hq
    have hpos : 0 < z.cells.size := by
      rw [hz2]
      rcases Nat.eq_zero_or_pos sz with e0 | e0
      · exfalso
        subst e0
        rw [← hzl, Array.length_toList] at hzlen
        have : (Builtin.zeroCells z.cells n ++ Builtin.zeroCells z.cells (grownCap w n 0 e - n)).toList = [] := List.length_eq_zero_iff.1 (by rw [Array.length_toList]; omega)
        rw [Array.toList_append] at this
        rw [this] at hq
        cases hq
      · exact e0
    rcases List.mem_append.1 hq with hq | hq
    · exact zero_one (hz1 z htz) hpos _ q hq
    · exact zero_one (hz1 z htz) hpos _ q hq
  have hI := hi.draw.allocObj (zl.map .sc) zl e (relL_scs zl) hz1c
  refine ⟨_, _, hrun, _, _, C, ⟨w.heap.size, grownCap w n 0 e, zl, hi.heap_fresh, hcapn, hcapm, hzlen, rfl, rfl⟩, CLe.refl C, Rel.sc _, ?_⟩
  have ea : (Builtin.zeroCells z.cells n ++ Builtin.zeroCells z.cells (grownCap w n 0 e - n)) = zl.toArray := by rw [← hzl]
  rw [ea]
  exact hI
theorem Inv.ownRow {g : Nat} {xs : List AV} {cs : List AV} {sz cap : Nat} {e : TypeId} (hI : Inv W0 C H w) (hKg : H g = some (.cells cs e)) (hx : szs sz xs = true) {zs : List AV} (hcs : cs = xs.flatMap AV.cells ++ zs) (hc : cs.length = cap * sz) (hn : xs.length ≤ cap) (hm : cap ≤ maxLen) :
    ∃ C', CLe C C' ∧ Inv W0 C' (H.set g (.open xs.length cap sz e)) w ∧ Rel C' (.sl xs (.own g cap sz e)) (.slice (some ⟨g, 0, none⟩) xs.length cap) := by
  obtain ⟨hb, vs0, hv0, hrel0, hone0, hC0⟩ := hI.obj _ _ hKg
  subst hcs
  obtain ⟨o1, o2, rfl, hr1, hr2⟩ := hrel0.split
  have l1 := hr1.length
  have l2 := hr2.length
  have hCC : CLe C (commit C g 0 o1) := commit_le fun k _ _ => hC0 k
  have hx' : ∀ x ∈ xs, x.cells.length = sz := fun x h => by
    simp only [szs, List.all_eq_true, beq_iff_eq] at hx
    exact hx x h
  have hlen := flat_length hx'
  refine ⟨commit C g 0 o1, hCC, ⟨hI.below, fun b o u hc => ?_, fun b ob hob => ?_⟩, ?_⟩
  · rcases commit_inv hc with ⟨rfl, _, hu⟩ | hc
    · rw [cell_of_row w b o _ e _ hv0]
      have hlt := (List.getElem?_eq_some_iff.1 hu).1
      simp only [Nat.sub_zero] at hu hlt
      simp [List.getElem?_append_left hlt, hu]
    · exact hI.com b o u hc
  · unfold Heap.set at hob
    by_cases hbg : b = g
    · rw [if_pos hbg] at hob; cases hob; subst hbg
      refine ⟨hb, _, hv0, ?_, hn, hm, fun o ho => ?_⟩
      · rw [List.size_toArray, List.length_append, ← l1, ← l2, ← List.length_append]; exact hc
      · cases hcc : commit C b 0 o1 b o with
        | none => rfl
        | some u =>
          rcases commit_inv hcc with ⟨_, _, hu⟩ | hu
          · have := (List.getElem?_eq_some_iff.1 hu).1; omega
          · rw [hC0] at hu; cases hu
    · rw [if_neg hbg] at hob
      exact ⟨(hI.obj b ob hob).1, (hI.obj b ob hob).2.com hCC fun o ho => by rw [commit_other hbg]; exact ho⟩
  · exact .sl _ g 0 cap sz (hr1.mono hCC) hx' (fun q hq => hone0 q (List.mem_append.2 (.inl hq))) (fun j q hq => by rw [Nat.zero_add]; have := commit_at (C := C) (b := g) (o := 0) hq; rwa [Nat.zero_add] at this) hn hm ⟨rfl, rfl, rfl, rfl⟩ .nil
theorem ACalls.ownRes {f : FuncId} {args : List AV} {R : AV → Heap → Prop} (h : ACalls P f args H (fun v K => R v K ∨ (v = .sc (.slice none 0 0) ∧ R (.sl [] .nil) K) ∨ ∃ g xs zs cap sz e, v = .sc (.slice (some ⟨g, 0, none⟩) xs.length cap) ∧ K g = some (.cells (xs.flatMap AV.cells ++ zs) e) ∧ szs sz xs = true ∧
      (xs.flatMap AV.cells ++ zs).length = cap * sz ∧ xs.length ≤ cap ∧ cap ≤ maxLen ∧ R (.sl xs (.own g cap sz e)) (K.set g (.open xs.length cap sz e)))) : ACalls P f args H R := by
  intro W0 C w vs hi ha
  refine (h W0 C w vs hi ha).mono fun e w' ⟨r, H', C', v, h1, h2, h3, h4, h5⟩ => ?_
  rcases h2 with h2 | ⟨rfl, h2⟩ | ⟨g, xs, zs, cap, sz, el, rfl, k1, k2, k3, k4, k5, k6⟩
  · exact ⟨r, H', C', v, h1, h2, h3, h4, h5⟩
  · exact ⟨_, H', C', v, h1, h2, h3, h4.nilBare, h5⟩
  · obtain rfl := h4.sc_inv
    obtain ⟨C'', c1, c2, c3⟩ := h5.ownRow k1 k2 rfl k3 k4 k5
    exact ⟨_, _, C'', _, h1, k6, h3.trans c1, c3, c2⟩
theorem ACalls.ownRes' {f : FuncId} {args : List AV} {R : AV → Heap → Prop} (h : ∀ R' : AV → Heap → Prop, (∀ v K, R v K → R' v K) → (∀ K, R (.sl [] .nil) K → R' (.sc (.slice none 0 0)) K) →
    (∀ g (xs zs : List AV) cap sz e (K : Heap), K g = some (.cells (xs.flatMap AV.cells ++ zs) e) → szs sz xs = true → (xs.flatMap AV.cells ++ zs).length = cap * sz → xs.length ≤ cap → cap ≤ maxLen → R (.sl xs (.own g cap sz e)) (K.set g (.open xs.length cap sz e)) →
      R' (.sc (.slice (some ⟨g, 0, none⟩) xs.length cap)) K) → ACalls P f args H R') : ACalls P f args H R :=
  ACalls.ownRes (h _ (fun _ _ h => .inl h) (fun _ h => .inr (.inl ⟨rfl, h⟩)) (fun g xs zs cap sz e K h1 h2 h3 h4 h5 h6 => .inr (.inr ⟨g, xs, zs, cap, sz, e, rfl, h1, h2, h3, h4, h5, h6⟩)))
theorem AApp.grows0 {n : Nat} {Q : Post} {ρ : Nat → AV} {k : List AItem} {full : Array Oper} {dst : Option Tmp} {r : List Oper} {T e : TypeId} {xs ys : List AV} {t : Tok} {sz by_ : Nat} {H0 K : Heap} (he : ElemOk P T e sz by_) (hg : Grows H0 xs sz e t K) (hl : HLe K H)
    (hx : szs sz xs = true) (hy : szs sz ys = true) (hb : (xs.length + ys.length) * by_ ≤ 140737488355328) (hm : xs.length + ys.length ≤ maxLen)
    (h : ∀ t' K' Hn, Grows H0 (xs ++ ys) sz e t' K' → HLe K' Hn → AGo P n Q (.ops full r :: k) (aput n dst (.sl (xs ++ ys) t') ρ) Hn) : AApp P n Q full dst r k ρ H T e xs t ys := by
  by_cases h0 : ys = []
  · subst h0
    rw [List.length_nil, Nat.add_zero] at hb hm
    refine AApp.same he hx hb hm ?_
    have := h t K H (by rwa [List.append_nil]) hl
    rwa [List.append_nil] at this
  · exact AApp.grows he hg hl h0 hx hy hb hm h
def GrowsF (H0 : Heap) (xs : List AV) (sz : Nat) (e : TypeId) (t : Tok) (K : Heap) : Prop :=
  (xs = [] ∧ (t = .nil ∨ t = .full) ∧ K = H0) ∨ ∃ g cap, H0 g = none ∧ t = .own g cap sz e ∧ K = H0.set g (.open xs.length cap sz e)
theorem GrowsF.zero {H0 : Heap} {sz : Nat} {e : TypeId} : GrowsF H0 [] sz e .full H0 := .inl ⟨rfl, .inr rfl, rfl⟩
theorem GrowsF.le {H0 K : Heap} {xs : List AV} {sz : Nat} {e : TypeId} {t : Tok} (h : GrowsF H0 xs sz e t K) : HLe H0 K := by
  rcases h with ⟨_, _, rfl⟩ | ⟨g, cap, h1, _, rfl⟩
  · exact HLe.refl _
  · exact (HLe.refl _).set_new h1
end Rg
namespace Rg
open Go Go.RowKit
variable {P : Program} {W0 w : World} {C : Com} {H : Heap}
def RawRowZ (sz : Nat) (H0 : Heap) (e : TypeId) (xs : List AV) (v : AV) (K : Heap) : Prop :=
  HLe H0 K ∧ ((xs = [] ∧ v = .sc (.slice none 0 0)) ∨ ∃ g zs cap, H0 g = none ∧ v = .sc (.slice (some ⟨g, 0, none⟩) xs.length cap) ∧ K g = some (.cells (xs.flatMap AV.cells ++ zs) e) ∧ xs.length * sz + zs.length = cap * sz ∧ xs.length ≤ cap ∧ cap ≤ maxLen)
theorem RawRowZ.none {sz : Nat} {H0 : Heap} {e : TypeId} : RawRowZ sz H0 e [] (.sc (.slice none 0 0)) H0 := ⟨HLe.refl _, .inl ⟨rfl, rfl⟩⟩
end Rg
