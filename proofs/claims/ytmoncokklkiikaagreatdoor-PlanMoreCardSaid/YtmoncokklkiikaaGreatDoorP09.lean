/- Rows that are changed in place: a slot holds the bare slice, the heap the row's cells. Regions that draw their order, walked by hand: those that only give values are put first, then each order that is left. Rows changed in place: append of many; cells told as bare ones; what is handed over is changed no more. Maps: what the machine's primitives on them do, told as calls. Bare slices: capacity, parts, rows of zeros; a row of one's own, told as one that grows. A law's arguments take no more than a process's addresses: what its row says of their sizes is handed on. -/
import Derived.Test.YtmoncokklkiikaaGreatDoorP08
set_option linter.unusedSimpArgs false
set_option linter.unusedVariables false
set_option linter.unnecessarySimpa false
namespace Rg
open Go Go.RowKit
variable {P : Program} {W0 w : World} {C : Com} {H : Heap} {n : Nat} {Q : Post} {ρ : Nat → AV} {k : List AItem}
theorem zero_one {z : Value} (hz : ∀ q ∈ z.cells.toList, q.oneCell' = true) (h0 : 0 < z.cells.size) (m : Nat) : ∀ q ∈ (Builtin.zeroCells z.cells m).toList, q.oneCell' = true := by
  intro q hq
  simp only [Builtin.zeroCells, Array.toList_map, List.mem_map] at hq
  obtain ⟨i, _, rfl⟩ := hq
  have hlt : i % z.cells.size < z.cells.size := Nat.mod_lt _ h0
  rw [getElem!_pos z.cells _ hlt]
  exact hz _ (Array.getElem_mem_toList hlt)
theorem Inv.setRow (h : Inv W0 C H w) {g : Nat} {cs cs' : List AV} {e : TypeId} (hg : H g = some (.cells cs e)) {row : List Value} (hr : RelL C cs' row) (h1 : ∀ v ∈ row, v.oneCell' = true) :
    Inv W0 C (H.set g (.cells cs' e)) (w.setRow g row.toArray) := by
  obtain ⟨hb, vs, hv, _, _, hC⟩ := h.obj _ _ hg
  have hW : W0.heap.size ≤ g := hb
  have hsame : ∀ k, k ≠ g → (w.setRow g row.toArray).heap[k]? = w.heap[k]? := fun k hk => setRow_other w g k row.toArray hk
  have hnew : (w.setRow g row.toArray).heap[g]? = some (.cells row.toArray e (0, 0)) := setRow_heap w g vs.toArray row.toArray e _ hv
  refine ⟨h.below.trans ⟨rfl, rfl, rfl, by simp [World.setRow], fun k hk => hsame k (by omega)⟩, ?_, ?_⟩
  · intro b o u hc
    have hb' : b ≠ g := by rintro rfl; rw [hC] at hc; cases hc
    rw [World.cell?_of_block (w := w) (a := ⟨b, o, none⟩) (hsame b hb')]
    exact h.com b o u hc
  · intro b ob hob
    unfold Heap.set at hob
    by_cases hbg : b = g
    · rw [if_pos hbg] at hob; cases hob; subst hbg
      exact ⟨hb, row, hnew, hr, h1, hC⟩
    · rw [if_neg hbg] at hob
      exact ⟨(h.obj b ob hob).1, (h.obj b ob hob).2.heap (hsame b hbg)⟩
def RawRow (H0 : Heap) (e : TypeId) (xs : List AV) (v : AV) (K : Heap) : Prop :=
  HLe H0 K ∧ ((xs = [] ∧ v = .sc (.slice none 0 0)) ∨ ∃ g zs, H0 g = none ∧ v = .sc (.slice (some ⟨g, 0, none⟩) xs.length (xs.length + zs.length)) ∧ K g = some (.cells (xs ++ zs) e) ∧ xs.length + zs.length ≤ maxLen)
theorem RawRow.none {H0 : Heap} {e : TypeId} : RawRow H0 e [] (.sc (.slice none 0 0)) H0 := ⟨HLe.refl _, .inl ⟨rfl, rfl⟩⟩
theorem ACalls.freeze {f : FuncId} {args : List AV} {H0 : Heap} {e : TypeId} {X : List AV → Prop} (hx : ∀ xs, X xs → ∀ x ∈ xs, x.cells = [x])
    (h : ACalls P f args H (fun v K => ∃ xs, X xs ∧ RawRow H0 e xs v K)) :
    ACalls P f args H (fun v K => ∃ xs, X xs ∧ v = .sl xs .no ∧ HLe H0 K) := by
  intro W0 C w vs hi hargs
  refine (h W0 C w vs hi hargs).mono fun e1 w1 ⟨r, H', C', u, he1, ⟨xs, hX, hle, hcase⟩, hC, hrel, hI⟩ => ?_
  rcases hcase with ⟨rfl, rfl⟩ | ⟨g, zs, hg0, rfl, hKg, hKm⟩
  · obtain rfl := hrel.sc_inv
    exact ⟨.sl [] .no, H', C', _, he1, ⟨[], hX, rfl, hle⟩, hC, .nils _ rfl .nil, hI⟩
  · obtain rfl := hrel.sc_inv
    obtain ⟨hb, vs0, hv0, hrel0, hone0, hC0⟩ := hI.obj _ _ hKg
    obtain ⟨o1, o2, rfl, hr1, hr2⟩ := hrel0.split
    have l1 := hr1.length
    have hCC : CLe C' (commit C' g 0 o1) := commit_le fun k _ _ => hC0 k
    have hI2 : Inv W0 (commit C' g 0 o1) (H'.del g) w1 := by
      refine ⟨hI.below, fun b o u hc => ?_, fun b ob hob => ?_⟩
      · rcases commit_inv hc with ⟨rfl, _, hu⟩ | hc
        · rw [cell_of_row w1 b o _ e _ hv0]
          have hlt := (List.getElem?_eq_some_iff.1 hu).1
          simp only [Nat.sub_zero] at hu hlt
          simp [List.getElem?_append_left hlt, hu]
        · exact hI.com b o u hc
      · unfold Heap.del at hob
        by_cases hbg : b = g
        · rw [if_pos hbg] at hob; cases hob
        · rw [if_neg hbg] at hob
          exact ⟨(hI.obj b ob hob).1, (hI.obj b ob hob).2.com hCC fun o ho => by rw [commit_other hbg]; exact ho⟩
    refine ⟨.sl xs .no, H'.del g, commit C' g 0 o1, _, he1, ⟨xs, hX, rfl, fun b ob hob => ?_⟩, hC.trans hCC, ?_, hI2⟩
    · have hbg : b ≠ g := by rintro rfl; rw [hg0] at hob; cases hob
      unfold Heap.del
      rw [if_neg hbg]
      exact hle b ob hob
    · have hfl : xs.flatMap AV.cells = xs := by
        have : ∀ l : List AV, (∀ x ∈ l, x.cells = [x]) → l.flatMap AV.cells = l := by
          intro l
          induction l with
          | nil => intro _; rfl
          | cons a l ih => intro h; rw [List.flatMap_cons, h a (by simp), ih fun x hx => h x (by simp [hx])]; rfl
        exact this xs (hx xs hX)
      have hr1' : RelL (commit C' g 0 o1) (xs.flatMap AV.cells) o1 := by rw [hfl]; exact hr1.mono hCC
      exact .sl .no g 0 _ 1 hr1' (fun x hx2 => by rw [hx xs hX x hx2]; rfl) (fun q hq => hone0 q (List.mem_append.2 (.inl hq))) (fun j q hq => commit_at hq) (by omega) hKm trivial .nil
end Rg
namespace Rg
open Go Go.RowKit
variable {P : Program} {n : Nat} {Q : Post} {ρ : Nat → AV} {k : List AItem} {H : Heap}
theorem RawRow.le {H0 H1 K : Heap} {e : TypeId} {xs : List AV} {v : AV} (hl : HLe H0 H1) (h : RawRow H1 e xs v K) : RawRow H0 e xs v K :=
  ⟨hl.trans h.1, h.2.imp id fun ⟨g, zs, h1, h2⟩ => ⟨g, zs, HLe.none hl h1, h2⟩⟩
theorem AGo.roundsB {c : Code} (i : Nat) (I : Nat → (Nat → AV) → Heap → Prop)
    (h : ∀ m ρ H, (∀ m' ρ' H', m' < m → I m' ρ' H' → AGo P n Q (.lp c :: k) ρ' H') → I m ρ H → AGo P n Q (.code c :: .lp c :: k) ρ H) {m : Nat} (hi : ρ i = .sl [] .nil)
    (hI : I m (fun j => if j = i then .sc (.slice none 0 0) else ρ j) H) : AGo P n Q (.lp c :: k) ρ H :=
  AGo.roundsN I h _ (fun j => by
    by_cases e : j = i
    · subst e; exact .inr ⟨hi, by simp⟩
    · exact .inl (by simp [e])) hI
end Rg
namespace Rg
open Go Go.RowKit
variable {P : Program} {n : Nat} {Q : Post} {ρ : Nat → AV} {k : List AItem} {H H0 : Heap}
def markL (m : Nat) (l : List Nat) : Array Bool := l.foldl (fun a i => a.setIfInBounds i true) (Array.replicate m false)
theorem markL_snoc (m : Nat) (l : List Nat) (i : Nat) : markL m (l ++ [i]) = (markL m l).setIfInBounds i true := by simp [markL]
def AWK (P : Program) (n : Nat) (H0 : Heap) (J : (Nat → AV) → Heap → Prop) (full : Array Oper) (d : List Nat) (ρ : Nat → AV) (H : Heap) : Prop :=
  wAny P n H0 full full.size (fun l ρ' H' => Region.ready .any full l = [] ∧ J ρ' H') (full.size - d.length) (markL full.size d) ρ H
def AQ3 (P : Program) (n : Nat) (H0 : Heap) (full : Array Oper) (K : (Nat → AV) → Prop) (l : List Oper) (ρ : Nat → AV) : Prop := AQ2 P n H0 full K l ρ
def AQ3S (P : Program) (n : Nat) (H0 : Heap) (full : Array Oper) (K : (Nat → AV) → Prop) (dst : Option Tmp) (l : List Oper) (ρ : Nat → AV) : ASR → Prop
  | .val v => AQ3 P n H0 full K l (aput n dst v ρ)
  | .call f args => ∃ v, (∀ H', HC H0 H' → ACalls P f args H' (fun r H'' => r = v ∧ H'' = H')) ∧ AQ3 P n H0 full K l (aput n dst v ρ)
  | _ => False
@[congr] theorem AQ3S_congr {x x' : ASR} (h : x = x') (full : Array Oper) (K : (Nat → AV) → Prop) (dst : Option Tmp) (l : List Oper) (ρ : Nat → AV) : AQ3S P n H0 full K dst l ρ x = AQ3S P n H0 full K dst l ρ x' := by rw [h]
@[congr] theorem AQ3_congr {ρ ρ' : Nat → AV} (h : ρ = ρ') (full : Array Oper) (K : (Nat → AV) → Prop) (l : List Oper) : AQ3 P n H0 full K l ρ = AQ3 P n H0 full K l ρ' := by rw [h]
@[congr] theorem AWK_congr {H H' : Heap} (h : H = H') (J : (Nat → AV) → Heap → Prop) (full : Array Oper) (d : List Nat) (ρ : Nat → AV) : AWK P n H0 J full d ρ H = AWK P n H0 J full d ρ H' := by rw [h]
section
variable {full : Array Oper} {K : (Nat → AV) → Prop} {l : List Oper} {dst : Option Tmp}
@[simp] theorem aq3_nil : AQ3 P n H0 full K [] ρ = K ρ := rfl
@[simp] theorem AQ3S_val (v : AV) : AQ3S P n H0 full K dst l ρ (.val v) = AQ3 P n H0 full K l (aput n dst v ρ) := rfl
end
def AWE (P : Program) (n : Nat) (H0 : Heap) (full : Array Oper) (K : (Nat → AV) → Heap → Prop) (ρ : Nat → AV) (H : Heap) : Option Oper → Prop
  | some o => AE P n H0 full o K ρ H
  | none => False
def AWS (P : Program) (n : Nat) (H0 : Heap) (K : (Nat → AV) → Heap → Prop) (dst : Option Tmp) (ρ : Nat → AV) (H : Heap) : ASR → Prop
  | .val v => K (aput n dst v ρ) H
  | .alloc cs T => ∀ b, H b = none → K (aput n dst (.sc (.pointer (some ⟨b, 0, none⟩))) ρ) (H.set b (.cells cs T))
  | .store b off ds => ∃ cs T, H b = some (.cells cs T) ∧ HC H0 (H.set b (.cells (lset cs off ds) T)) ∧ K (aput n dst (.sc undef) ρ) (H.set b (.cells (lset cs off ds) T))
  | .call f args => ∃ R, ACalls P f args H R ∧ ∀ v H', R v H' → HC H0 H' ∧ K (aput n dst v ρ) H'
  | .app T e xs t ys => ∃ sz by_, ElemOk P T e sz by_ ∧ szs sz xs = true ∧ szs sz ys = true ∧ (xs.length + ys.length) * by_ ≤ 140737488355328 ∧ xs.length + ys.length ≤ maxLen ∧
      (((t = .nil ∨ t = .full) ∧ ys = [] ∧ K (aput n dst (.sl xs t) ρ) H) ∨
       ((t = .nil ∨ t = .full) ∧ ys ≠ [] ∧ ∀ g cap, H g = none → K (aput n dst (.sl (xs ++ ys) (.own g cap sz e)) ρ) (H.set g (.open (xs.length + ys.length) cap sz e))) ∨
       (∃ g cap, t = .own g cap sz e ∧ H g = some (.open xs.length cap sz e) ∧
         ∀ g' cap', (H.del g) g' = none → K (aput n dst (.sl (xs ++ ys) (.own g' cap' sz e)) ρ) ((H.del g).set g' (.open (xs.length + ys.length) cap' sz e))))
  | _ => False
@[congr] theorem AWS_congr {x x' : ASR} (h : x = x') (K : (Nat → AV) → Heap → Prop) (dst : Option Tmp) (ρ : Nat → AV) (H : Heap) : AWS P n H0 K dst ρ H x = AWS P n H0 K dst ρ H x' := by rw [h]
@[congr] theorem AWE_congr {x x' : Option Oper} (h : x = x') (full : Array Oper) (K : (Nat → AV) → Heap → Prop) (ρ : Nat → AV) (H : Heap) : AWE P n H0 full K ρ H x = AWE P n H0 full K ρ H x' := by rw [h]
section
variable {full : Array Oper} {K : (Nat → AV) → Heap → Prop} {dst : Option Tmp}
theorem AWE.op {op : Op} {ty : TypeId} {pos : String} {after : Array Edge} {x : Option Oper} (hx : x = some ⟨dst, op, ty, pos, after, none⟩) (h : AWS P n H0 K dst ρ H (astepV P op (evA ρ) H)) : AWE P n H0 full K ρ H x := by
  subst hx
  refine .inr ⟨rfl, ?_⟩
  simp only
  cases hv : astepV P op (evA ρ) H <;> rw [hv] at h <;> first | exact h | exact h.elim
@[simp] theorem AWS_val (v : AV) : AWS P n H0 K dst ρ H (.val v) = K (aput n dst v ρ) H := rfl
theorem AWS.alloc {cs : List AV} {T : TypeId} (h : ∀ b, H b = none → K (aput n dst (.sc (.pointer (some ⟨b, 0, none⟩))) ρ) (H.set b (.cells cs T))) : AWS P n H0 K dst ρ H (.alloc cs T) := h
theorem AWS.store {b off : Nat} {ds cs : List AV} {T : TypeId} (hb : H b = some (.cells cs T)) (hc : HC H0 (H.set b (.cells (lset cs off ds) T))) (h : K (aput n dst (.sc undef) ρ) (H.set b (.cells (lset cs off ds) T))) : AWS P n H0 K dst ρ H (.store b off ds) := ⟨cs, T, hb, hc, h⟩
theorem AWS.grows0 {T e : TypeId} {xs ys : List AV} {t : Tok} {sz by_ : Nat} {G0 G : Heap} (he : ElemOk P T e sz by_) (hg : Grows G0 xs sz e t G) (hl : HLe G H)
    (hx : szs sz xs = true) (hy : szs sz ys = true) (hb : (xs.length + ys.length) * by_ ≤ 140737488355328) (hm : xs.length + ys.length ≤ maxLen)
    (h : ∀ t' K' Hn, Grows G0 (xs ++ ys) sz e t' K' → HLe K' Hn → (∀ b o, H b = some o → G b = none ∨ G0 b = some o → Hn b = some o) → K (aput n dst (.sl (xs ++ ys) t') ρ) Hn) : AWS P n H0 K dst ρ H (.app T e xs t ys) := by
  refine ⟨sz, by_, he, hx, hy, hb, hm, ?_⟩
  rcases hg with ⟨rfl, rfl, rfl⟩ | ⟨g, cap, h1, rfl, rfl⟩
  · by_cases h0 : ys = []
    · subst h0
      exact .inl ⟨.inl rfl, rfl, h _ G _ .zero hl (fun b o e _ => e)⟩
    · refine .inr (.inl ⟨.inl rfl, h0, fun g cap hgn => h _ (G.set g (.open ([].length + ys.length) cap sz e)) _ (.inr ⟨g, cap, hl.none hgn, rfl, by simp⟩) hl.set_mono fun b o e _ => ?_⟩)
      have : b ≠ g := by rintro rfl; rw [hgn] at e; cases e
      simp [this, e]
  · have hlG : HLe G0 H := (HLe.refl G0).set_new h1 |>.trans hl
    refine .inr (.inr ⟨g, cap, rfl, hl g _ (by simp [Heap.set]), fun g' cap' hgn => h _ (G0.set g' (.open (xs.length + ys.length) cap' sz e)) _ (.inr ⟨g', cap', ?_, rfl, by simp⟩) ?_ fun b o eb hb2 => ?_⟩)
    · by_cases hgg : g' = g
      · subst hgg; exact h1
      · exact hlG.none (by simpa [Heap.del, hgg] using hgn)
    · refine HLe.set_mono fun c ob hc => ?_
      have hcg : c ≠ g := by rintro rfl; rw [h1] at hc; cases hc
      simp only [Heap.del, if_neg hcg]
      exact hlG c ob hc
    · have hbg : b ≠ g := by
        rintro rfl
        rcases hb2 with hb2 | hb2
        · simp [Heap.set] at hb2
        · rw [h1] at hb2; cases hb2
      have hbg' : b ≠ g' := by
        rintro rfl
        simp only [Heap.del, if_neg hbg] at hgn
        rw [hgn] at eb
        cases eb
      simp only [Heap.set, Heap.del, if_neg hbg, if_neg hbg']
      exact eb
end
def readyB (full : Array Oper) (d l : List Nat) : Bool := decide (Region.ready .any full (markL full.size d) = l) && decide (l ≠ []) && l.all (fun i => decide (i < full.size)) && decide (d.length < full.size)
def doneB (full : Array Oper) (d : List Nat) : Bool := decide (Region.ready .any full (markL full.size d) = []) && decide (d.length = full.size)
variable {J : (Nat → AV) → Heap → Prop}
theorem AWK.step {full : Array Oper} {d : List Nat} (l : List Nat) (hr : readyB full d l = true) (h : ∀ i ∈ l, AWE P n H0 full (AWK P n H0 J full (d ++ [i])) ρ H full[i]?) : AWK P n H0 J full d ρ H := by
  simp only [readyB, Bool.and_eq_true, decide_eq_true_eq] at hr
  obtain ⟨⟨⟨h1, h2⟩, h3⟩, h4⟩ := hr
  unfold AWK
  rw [show full.size - d.length = (full.size - (d.length + 1)) + 1 by omega]
  refine ⟨by rw [h1]; exact h2, fun i hi => ?_⟩
  rw [h1] at hi
  have hlt : i < full.size := by simpa using List.all_eq_true.1 h3 i hi
  refine ⟨hlt, full[i], Array.getElem?_eq_getElem hlt, .inr ?_⟩
  have := h i hi
  rw [Array.getElem?_eq_getElem hlt] at this
  unfold AWE AWK at this
  rw [markL_snoc, List.length_append, List.length_singleton] at this
  exact this
theorem AWK.one {l0 : List Oper} {d : List Nat} (i : Nat) (hr : readyB l0.toArray d [i] = true) (h : AWE P n H0 l0.toArray (AWK P n H0 J l0.toArray (d ++ [i])) ρ H l0[i]?) : AWK P n H0 J l0.toArray d ρ H :=
  AWK.step [i] hr fun j hj => by
    obtain rfl := List.mem_singleton.1 hj
    rw [List.getElem?_toArray]
    exact h
theorem AWK.two {l0 : List Oper} {d : List Nat} (i j : Nat) (hr : readyB l0.toArray d [i, j] = true) (h1 : AWE P n H0 l0.toArray (AWK P n H0 J l0.toArray (d ++ [i])) ρ H l0[i]?)
    (h2 : AWE P n H0 l0.toArray (AWK P n H0 J l0.toArray (d ++ [j])) ρ H l0[j]?) : AWK P n H0 J l0.toArray d ρ H :=
  AWK.step [i, j] hr fun q hq => by
    rw [List.getElem?_toArray]
    rcases List.mem_cons.1 hq with rfl | hq
    · exact h1
    · obtain rfl := List.mem_singleton.1 hq
      exact h2
theorem AWK.fin {full : Array Oper} {d : List Nat} (hr : doneB full d = true) (h : J ρ H) : AWK P n H0 J full d ρ H := by
  simp only [doneB, Bool.and_eq_true, decide_eq_true_eq] at hr
  unfold AWK
  rw [show full.size - d.length = 0 by omega]
  exact ⟨hr.1, h⟩
end Rg
namespace Rg
open Go Go.RowKit
variable {P : Program} {W0 w : World} {C : Com} {H : Heap} {n : Nat} {Q : Post} {ρ : Nat → AV} {k : List AItem}
theorem flat_one {l : List AV} (h : ∀ x ∈ l, x.cells = [x]) : l.flatMap AV.cells = l := by
  induction l with
  | nil => rfl
  | cons a l ih => rw [List.flatMap_cons, h a (by simp), ih fun x hx => h x (by simp [hx])]; rfl
theorem Inv.freeze {g : Nat} {xs zs : List AV} {e : TypeId} (hI : Inv W0 C H w) (hKg : H g = some (.cells (xs ++ zs) e)) (hx : ∀ x ∈ xs, x.cells = [x]) (hm : xs.length + zs.length ≤ maxLen) :
    ∃ C', CLe C C' ∧ Inv W0 C' (H.del g) w ∧ Rel C' (.sl xs .no) (.slice (some ⟨g, 0, none⟩) xs.length (xs.length + zs.length)) := by
  obtain ⟨hb, vs0, hv0, hrel0, hone0, hC0⟩ := hI.obj _ _ hKg
  obtain ⟨o1, o2, rfl, hr1, hr2⟩ := hrel0.split
  have l1 := hr1.length
  have hCC : CLe C (commit C g 0 o1) := commit_le fun k _ _ => hC0 k
  refine ⟨commit C g 0 o1, hCC, ⟨hI.below, fun b o u hc => ?_, fun b ob hob => ?_⟩, ?_⟩
  · rcases commit_inv hc with ⟨rfl, _, hu⟩ | hc
    · rw [cell_of_row w b o _ e _ hv0]
      have hlt := (List.getElem?_eq_some_iff.1 hu).1
      simp only [Nat.sub_zero] at hu hlt
      simp [List.getElem?_append_left hlt, hu]
    · exact hI.com b o u hc
  · unfold Heap.del at hob
    by_cases hbg : b = g
    · rw [if_pos hbg] at hob; cases hob
    · rw [if_neg hbg] at hob
      exact ⟨(hI.obj b ob hob).1, (hI.obj b ob hob).2.com hCC fun o ho => by rw [commit_other hbg]; exact ho⟩
  · have hr1' : RelL (commit C g 0 o1) (xs.flatMap AV.cells) o1 := by rw [flat_one hx]; exact hr1.mono hCC
    exact .sl .no g 0 _ 1 hr1' (fun x hx2 => by rw [hx x hx2]; rfl) (fun q hq => hone0 q (List.mem_append.2 (.inl hq))) (fun j q hq => commit_at hq) (by omega) hm trivial .nil
inductive FzL (b f : AV) : List AV → List AV → Prop
  | nil : FzL b f [] []
  | hit {az bs : List AV} : FzL b f az bs → FzL b f (b :: az) (f :: bs)
  | keep (a : AV) {az bs : List AV} : FzL b f az bs → FzL b f (a :: az) (a :: bs)
  | deep {xs ys : List AV} {t : Tok} {az bs : List AV} : FzL b f xs ys → (∀ x ∈ xs, x.cells = [x]) → (∀ y ∈ ys, y.cells = [y]) → FzL b f az bs → FzL b f (.sl xs t :: az) (.sl ys .no :: bs)
theorem FzL.length {b f : AV} {az bs : List AV} (h : FzL b f az bs) : az.length = bs.length := by
  induction h with
  | nil => rfl
  | hit _ ih => simp [ih]
  | keep _ _ ih => simp [ih]
  | deep _ _ _ _ _ ih => simp [ih]
theorem RawRow.get {H0 K : Heap} {e : TypeId} {xs : List AV} {v : AV} (h : RawRow H0 e xs v K) {b : Nat} {o : AObj} (hb : H0 b = some o) : K b = some o := h.1 b o hb
end Rg
namespace Rg
open Go Go.RowKit
variable {P : Program} {W0 w : World} {C : Com} {H : Heap}
abbrev pa (g : Nat) (T : TypeId) (xs : List AV) : List AV := .sc (.bool true) :: .sc (.int .i64 (g : Nat)) :: .sc (.int .i64 ((T : Nat) : Int)) :: xs
theorem ACalls.prim {g : Nat} {T : TypeId} {xs : List AV} {R : AV → Heap → Prop} (h : ∀ (W0 : World) (C : Com) (w : World) (vs : List Value), Inv W0 C H w → RelL C xs vs → ∀ ty : TypeId, ∃ r w', (primRun g T ty vs).run P w = .ok r w' ∧ ∃ v H' C', R v H' ∧ CLe C C' ∧ Rel C' v r ∧ Inv W0 C' H' w') :
    ACalls P P.funcs.size (pa g T xs) H R := by
  intro W0 C w vs hi ha
  obtain ⟨v0, vs0, rfl, h0, a1⟩ := ha.uncons
  obtain ⟨v1, vs1, rfl, h1, a2⟩ := a1.uncons
  obtain ⟨v2, vs2, rfl, h2, a3⟩ := a2.uncons
  obtain rfl := h0.sc_inv
  obtain rfl := h1.sc_inv
  obtain rfl := h2.sc_inv
  refine .inr <| .inr <| .inr ⟨rfl, g, T, vs2, rfl, fun ty => ?_⟩
  obtain ⟨r, w', h1, v, H', C', h2, h3, h4, h5⟩ := h W0 C w vs2 hi a3 ty
  exact ⟨r, w', h1, v, H', C', r, rfl, h2, h3, h4, h5⟩
theorem run_getMap {r : Nat} {es : Array MapEntry} {ck : Nat} (h : w.heap[r]? = some (.map es ck)) : (getObj r).run P w = .ok (.map es ck) w := by simp [getObj, Sem.run, h]
theorem run_setObj_put {r : Nat} {es : Array MapEntry} {ck : Nat} (o : Obj) (h : w.heap[r]? = some (.map es ck)) : (setObj r o).run P w = .ok () (w.putObj r o) := by simp [setObj, Sem.run, h, World.putObj]
theorem Inv.putObj (hi : Inv W0 C H w) {r : Nat} {ob0 ob : AObj} {o : Obj} (h0 : H r = some ob0) (hb : W0.heap.size ≤ r) (hC : ∀ k, C r k = none) (ho : ObjOk C (w.putObj r o) r ob) (hb2 : ob.base W0 r) : Inv W0 C (H.set r ob) (w.putObj r o) := by
  have hd := hi.del o hb hC
  refine ⟨hd.below, hd.com, fun b ob' e => ?_⟩
  unfold Heap.set at e
  by_cases hbl : b = r
  · rw [if_pos hbl] at e; cases e; subst hbl; exact ⟨hb2, ho⟩
  · rw [if_neg hbl] at e; exact hd.obj b ob' (by unfold Heap.del; rw [if_neg hbl]; exact e)
theorem putObj_at {r : Nat} (o : Obj) (h : r < w.heap.size) : (w.putObj r o).heap[r]? = some o := by
  simp [World.putObj, h]
theorem RelE.get {es : List (AV × AV × Nat)} {ens : List MapEntry} (h : RelE C es ens) {i : Nat} {e : AV × AV × Nat} (he : es[i]? = some e) : ∃ x, ens[i]? = some x ∧ Rel C e.1 x.key ∧ Rel C e.2.1 x.val ∧ e.2.2 = x.born := by
  obtain ⟨h1, h2, h3⟩ := h
  obtain ⟨k, hk, hk2⟩ := h1.get (i := i) (a := e.1) (by simp [he])
  obtain ⟨v, hv, hv2⟩ := h2.get (i := i) (a := e.2.1) (by simp [he])
  cases hx : ens[i]? with
  | none => simp [hx] at hk
  | some x =>
    simp only [List.getElem?_map, hx, Option.map_some, Option.some.injEq] at hk hv
    subst hk; subst hv
    refine ⟨x, rfl, hk2, hv2, ?_⟩
    have := congrArg (fun l => l[i]?) h3
    simpa [he, hx] using this
theorem RelE.length {es : List (AV × AV × Nat)} {ens : List MapEntry} (h : RelE C es ens) : es.length = ens.length := by have := h.1.length; simpa using this
theorem RelE.cons_inv {e : AV × AV × Nat} {es : List (AV × AV × Nat)} {ens : List MapEntry} (h : RelE C (e :: es) ens) : ∃ x r, ens = x :: r ∧ Rel C e.1 x.key ∧ Rel C e.2.1 x.val ∧ e.2.2 = x.born ∧ RelE C es r := by
  cases ens with
  | nil => have := h.length; simp at this
  | cons x r =>
    obtain ⟨h1, h2, h3⟩ := h
    simp only [List.map_cons] at h1 h2 h3
    obtain ⟨k, ks, e1, h4, h5⟩ := h1.uncons
    obtain ⟨v, vs, e2, h6, h7⟩ := h2.uncons
    cases e1; cases e2
    simp only [List.cons.injEq] at h3
    exact ⟨x, r, rfl, h4, h6, h3.1, h5, h7, h3.2⟩
theorem RelE.nil_inv {ens : List MapEntry} (h : RelE C [] ens) : ens = [] := by have := h.length; exact List.length_eq_zero_iff.1 this.symm
theorem RelE.snoc {es : List (AV × AV × Nat)} {ens : List MapEntry} (h : RelE C es ens) {k v : AV} {x y : Value} (b : Nat) (hk : Rel C k x) (hv : Rel C v y) : RelE C (es ++ [(k, v, b)]) (ens ++ [{ key := x, val := y, born := b }]) := by
  refine ⟨?_, ?_, ?_⟩
  · simp only [List.map_append, List.map_cons, List.map_nil]; exact h.1.append hk
  · simp only [List.map_append, List.map_cons, List.map_nil]; exact h.2.1.append hv
  · simp [h.2.2]
theorem RelE.modify {es : List (AV × AV × Nat)} {ens : List MapEntry} (h : RelE C es ens) {i : Nat} {e : AV × AV × Nat} {en : MapEntry} (he : ens[i]? = some en) {k v : AV} {x y : Value} (hk : Rel C k x) (hv : Rel C v y) (hb : es[i]? = some e) :
    RelE C (es.set i (k, v, e.2.2)) (ens.set i { en with key := x, val := y }) := by
  obtain ⟨h1, h2, h3⟩ := h
  refine ⟨?_, ?_, ?_⟩
  · rw [List.map_set, List.map_set]; exact h1.set hk
  · rw [List.map_set, List.map_set]; exact h2.set hv
  · rw [List.map_set, List.map_set, h3]
    have := congrArg (fun l => l[i]?) h3
    simp [he, hb] at this
    rw [this]
def acheck (P : Program) : Nat → TypeId → AV → Bool
  | 0, _, _ => false
  | n + 1, t, v =>
    match P.underlying t, v with
    | some (.struct fs), .agg cs => fs.toList.all fun f => f.name == "_" || (match apart P f.type cs f.offset with | .val x => acheck P n f.type x | _ => false)
    | some (.int _), .sc _ => true
    | some .string, .sc _ => true
    | some .bool, .sc _ => true
    | _, _ => false
theorem for_unit {α : Type} (f : α → PUnit → Sem (ForInStep PUnit)) : ∀ (l : List α), (∀ a ∈ l, (f a PUnit.unit).run P w = .ok (.yield PUnit.unit) w) → (forIn (m := Sem) l PUnit.unit f).run P w = .ok PUnit.unit w
  | [], _ => rfl
  | a :: l, h => by
    rw [List.forIn_cons]
    simp only [Sem.run_bind, h a (by simp), Result.andThen_ok]
    exact for_unit f l fun b hb => h b (by simp [hb])
theorem acheck_run (em : Bool) : ∀ (n m : Nat) (t : TypeId) (x : AV) (v : Value), n ≤ m → Rel C x v → acheck P n t x = true → (Instr.checkKey em m t v).run P w = .ok () w
  | 0, _, _, _, _, _, _, h => by cases h
  | n + 1, 0, _, _, _, hm, _, _ => by omega
  | n + 1, m + 1, t, x, v, hm, hr, h => by
    unfold acheck at h
    split at h
    · rename_i fs cs hu
      obtain ⟨us, rfl, h1, h2⟩ := hr.agg_inv
      unfold Instr.checkKey
      simp only [Sem.run_bind, run_underlying hu w, Result.andThen_ok]
      rw [List.all_eq_true] at h
      rw [← Array.forIn_toList, for_unit _ fs.toList fun f hf => ?_]
      · rfl
      · have hh := h f hf
        by_cases hn : f.name = "_"
        · simp [hn]
        · simp only [beq_eq_false_iff_ne.2 hn, Bool.false_or] at hh
          split at hh
          · rename_i y hy
            obtain ⟨q, hq, hq2⟩ := part_run (P := P) (w := w) h1 h2 hy
            simp only [hn, ne_eq, not_false_iff, if_true, Sem.run_bind, hq, Result.andThen_ok, acheck_run em n m f.type y q (by omega) hq2 hh, Sem.run_pure]
          · cases hh
    · rename_i k x' hu
      unfold Instr.checkKey
      simp only [Sem.run_bind, run_underlying hu w, Result.andThen_ok, Sem.run_pure]
    · rename_i x' hu
      unfold Instr.checkKey
      simp only [Sem.run_bind, run_underlying hu w, Result.andThen_ok, Sem.run_pure]
    · rename_i x' hu
      unfold Instr.checkKey
      simp only [Sem.run_bind, run_underlying hu w, Result.andThen_ok, Sem.run_pure]
    · cases h
def afind (P : Program) (kt : TypeId) (k : AV) : List (AV × AV × Nat) → Nat → Option (Option (Nat × AV))
  | [], _ => some none
  | e :: es, i =>
    match aeqv P 5 kt k e.1 with
    | some true => some (some (i, e.2.1))
    | some false => afind P kt k es (i + 1)
    | none => none
def RelO (C : Com) : Option (Nat × AV) → Option (Nat × Value) → Prop
  | none, none => True
  | some (i, a), some (j, v) => i = j ∧ Rel C a v
  | _, _ => False
theorem same_eqv {d : TypeDesc} {T : TypeId} {x y : AV} {u v : Value} {b b' : Bool} (hu : P.underlying T = some d) (hx : Rel C x u) (hy : Rel C y v) (h : aeqv P 5 T x y = some b) (hs : Instr.sameNow d u v = some b') : b = b' := by
  unfold aeqv at h
  split at h
  · obtain rfl := hx.sc_inv
    obtain rfl := hy.sc_inv
    split at h
    · cases h; unfold Instr.sameNow at hs; split at hs <;> simp_all
    · cases h
  · obtain rfl := hx.sc_inv
    obtain rfl := hy.sc_inv
    split at h
    · cases h; unfold Instr.sameNow at hs; split at hs <;> simp_all
    · cases h
  · obtain rfl := hx.sc_inv
    obtain rfl := hy.sc_inv
    split at h
    · rename_i a b _ hk
      cases h
      unfold Instr.sameNow at hs
      split at hs
      · simp_all
      · rename_i h1 h2
        cases h1; cases h2
        cases hs
        rw [beq_toListBytes]
      · simp_all
      · cases hs
    · cases h
  · obtain ⟨us, rfl, _⟩ := hx.agg_inv
    obtain ⟨vs, rfl, _⟩ := hy.agg_inv
    unfold Instr.sameNow at hs
    split at hs <;> simp_all
  · cases h
theorem findNow_spec {d : TypeDesc} {kt : TypeId} {k : AV} {u : Value} (hu : P.underlying kt = some d) (hk : Rel C k u) : ∀ (es : List (AV × AV × Nat)) (ens : List MapEntry) (i : Nat) (r : Option (Nat × AV)) (r' : Option (Nat × Value)), RelE C es ens → afind P kt k es i = some r → Instr.findNow d u ens i = some r' → RelO C r r'
  | [], ens, i, r, r', he, h, h' => by
    obtain rfl := he.nil_inv
    cases h; cases h'; trivial
  | e :: es, ens, i, r, r', he, h, h' => by
    obtain ⟨x, rest, rfl, h1, h2, _, h4⟩ := he.cons_inv
    simp only [Instr.findNow] at h'
    simp only [afind] at h
    split at h'
    · rename_i hs
      cases h'
      split at h
      · cases h; exact ⟨rfl, h2⟩
      · rename_i hq
        have := same_eqv hu hk h1 hq hs
        cases this
      · cases h
    · rename_i hs
      split at h
      · rename_i hq
        have := same_eqv hu hk h1 hq hs
        cases this
      · exact findNow_spec hu hk es rest (i + 1) r r' h4 h h'
      · cases h
    · cases h'
theorem findAsking_spec {kt : TypeId} {k : AV} {u : Value} (hk : Rel C k u) : ∀ (es : List (AV × AV × Nat)) (ens : List MapEntry) (i : Nat) (r : Option (Nat × AV)), RelE C es ens → afind P kt k es i = some r → ∃ r', (Instr.findAsking kt u ens i).run P w = .ok r' w ∧ RelO C r r'
  | [], ens, i, r, he, h => by
    obtain rfl := he.nil_inv
    cases h
    exact ⟨none, rfl, trivial⟩
  | e :: es, ens, i, r, he, h => by
    obtain ⟨x, rest, rfl, h1, h2, _, h4⟩ := he.cons_inv
    simp only [afind] at h
    unfold Instr.findAsking
    split at h
    · rename_i hq
      cases h
      have hr := aeqv_run (P := P) (w := w) 5 Op.maxDepth kt k e.1 u x.key true (by decide) hk h1 hq
      exact ⟨some (i, x.val), by simp only [Op.equal, Sem.run_bind, hr, Result.andThen_ok, if_true, Sem.run_pure], rfl, h2⟩
    · rename_i hq
      have hr := aeqv_run (P := P) (w := w) 5 Op.maxDepth kt k e.1 u x.key false (by decide) hk h1 hq
      obtain ⟨r', h5, h6⟩ := findAsking_spec hk es rest (i + 1) r h4 h
      exact ⟨r', by simp only [Op.equal, Sem.run_bind, hr, Result.andThen_ok, Bool.false_eq_true, if_false, h5], h6⟩
    · cases h
theorem findKey_spec {kt : TypeId} {d : TypeDesc} {k : AV} {u : Value} (hu : P.underlying kt = some d) (hk : Rel C k u) {es : List (AV × AV × Nat)} {ens : List MapEntry} {r : Option (Nat × AV)} (he : RelE C es ens) (h : afind P kt k es 0 = some r) :
    ∃ r', (Instr.findKey kt u ens).run P w = .ok r' w ∧ RelO C r r' := by
  unfold Instr.findKey
  simp only [Sem.run_bind, run_underlying hu w, Result.andThen_ok]
  cases hf : Instr.findNow d u ens 0 with
  | some r' => exact ⟨r', rfl, findNow_spec hu hk es ens 0 r r' he h hf⟩
  | none => exact findAsking_spec hk es ens 0 r he h
theorem c_makeMap (T : TypeId) : ACalls P P.funcs.size (pa 4 T []) H (fun v H' => ∃ m, H m = none ∧ v = .sc (.map (some m)) ∧ H' = H.set m (.map [] 0)) := by
  refine ACalls.prim fun W0 C w vs hi ha ty => ?_
  obtain rfl := ha.nil_inv
  refine ⟨.map (some w.heap.size), w.alloc (.map #[] 0), by simp [primRun, Instr.makeMap, Sem.run_bind], _, _, C, ⟨w.heap.size, hi.heap_fresh, rfl, rfl⟩, CLe.refl C, Rel.sc _, ?_⟩
  exact hi.newObj _ _ ⟨[], heap_alloc_new w _, ⟨.nil, .nil, rfl⟩, hi.fresh⟩ hi.below.size
theorem map_open (hi : Inv W0 C H w) {m : Nat} {es : List (AV × AV × Nat)} {ck : Nat} (hm : H m = some (.map es ck)) : ∃ ens : List MapEntry, w.heap[m]? = some (.map ens.toArray ck) ∧ RelE C es ens ∧ (∀ o, C m o = none) ∧ W0.heap.size ≤ m :=
  let h := hi.obj _ _ hm; let ⟨ens, h1, h2, h3⟩ := h.2; ⟨ens, h1, h2, h3, h.1⟩
section
variable {T kt et : TypeId} {d : TypeDesc} {m ck : Nat} {es : List (AV × AV × Nat)} {k : AV}
theorem lookup_run (hT : P.underlying T = some (.map kt et)) (hd : P.underlying kt = some d) (hi : Inv W0 C H w) (hm : H m = some (.map es ck)) (hc : acheck P 3 kt k = true) {r : Option (Nat × AV)} (hf : afind P kt k es 0 = some r) {u : Value} (hk : Rel C k u) (z : Value) (hz : r = none → tzero P et = some z) (ok : Bool) :
    ∃ q, (Instr.lookup T (.map (some m)) u ok).run P w = .ok (if ok then .tuple #[q, .bool r.isSome] else q) w ∧ Rel C (match r with | some p => p.2 | none => ofV z) q := by
  obtain ⟨ens, h1, h2, _⟩ := map_open hi hm
  obtain ⟨r', h3, h4⟩ := findKey_spec (P := P) (w := w) hd hk h2 hf
  have h5 := acheck_run (P := P) (w := w) ens.toArray.isEmpty 3 10000 kt k u (by decide) hk hc
  cases r with
  | none =>
    cases r' with
    | some p => exact h4.elim
    | none =>
      exact ⟨z, by
        simp only [Instr.lookup, Sem.run_bind, run_underlying hT w, Result.andThen_ok, run_getMap h1, Sem.run_pure, h5, h3, run_zeroValue (hz rfl) w]
        cases ok <;> rfl, rel_ofV z⟩
  | some p =>
    cases r' with
    | none => exact h4.elim
    | some p' =>
      exact ⟨p'.2, by
        simp only [Instr.lookup, Sem.run_bind, run_underlying hT w, Result.andThen_ok, run_getMap h1, Sem.run_pure, h5, h3]
        cases ok <;> rfl, h4.2⟩
theorem c_lookup2 (hT : P.underlying T = some (.map kt et)) (hd : P.underlying kt = some d) (hm : H m = some (.map es ck)) (hc : acheck P 3 kt k = true) {i : Nat} {v : AV} (hf : afind P kt k es 0 = some (some (i, v))) :
    AOk P P.funcs.size (pa 2 T [.sc (.map (some m)), k]) H (.tup [v, .sc (.bool true)]) H := by
  refine ACalls.prim fun W0 C w vs hi ha ty => ?_
  obtain ⟨x, vs', rfl, hx, ha⟩ := ha.uncons
  obtain ⟨u, vs'', rfl, hu, ha⟩ := ha.uncons
  obtain rfl := ha.nil_inv
  obtain rfl := hx.sc_inv
  obtain ⟨q, h1, h2⟩ := lookup_run hT hd hi hm hc hf hu undef (by simp) true
  exact ⟨_, _, h1, _, _, C, ⟨rfl, rfl⟩, CLe.refl C, RelL.tup (vs := []) (us := [q, .bool true]) (RelL.cons h2 (Rel.sc _)) .nil, hi⟩
theorem c_lookup2_no (hT : P.underlying T = some (.map kt et)) (hd : P.underlying kt = some d) (hm : H m = some (.map es ck)) (hc : acheck P 3 kt k = true) {z : Value} (hz : tzero P et = some z) (hf : afind P kt k es 0 = some none) :
    AOk P P.funcs.size (pa 2 T [.sc (.map (some m)), k]) H (.tup [ofV z, .sc (.bool false)]) H := by
  refine ACalls.prim fun W0 C w vs hi ha ty => ?_
  obtain ⟨x, vs', rfl, hx, ha⟩ := ha.uncons
  obtain ⟨u, vs'', rfl, hu, ha⟩ := ha.uncons
  obtain rfl := ha.nil_inv
  obtain rfl := hx.sc_inv
  obtain ⟨q, h1, h2⟩ := lookup_run hT hd hi hm hc hf hu z (fun _ => hz) true
  exact ⟨_, _, h1, _, _, C, ⟨rfl, rfl⟩, CLe.refl C, RelL.tup (vs := []) (us := [q, .bool false]) (RelL.cons h2 (Rel.sc _)) .nil, hi⟩
theorem c_insert (hT : P.underlying T = some (.map kt et)) (hd : P.underlying kt = some d) (hm : H m = some (.map es ck)) (hc : acheck P 3 kt k = true) (hf : afind P kt k es 0 = some none) (v : AV) :
    AOk P P.funcs.size (pa 3 T [.sc (.map (some m)), k, v]) H (.sc undef) (H.set m (.map (es ++ [(k, v, ck)]) (ck + 1))) := by
  refine ACalls.prim fun W0 C w vs hi ha ty => ?_
  obtain ⟨x, vs', rfl, hx, ha⟩ := ha.uncons
  obtain ⟨u, vs'', rfl, hu, ha⟩ := ha.uncons
  obtain ⟨y, vs3, rfl, hy, ha⟩ := ha.uncons
  obtain rfl := ha.nil_inv
  obtain rfl := hx.sc_inv
  obtain ⟨ens, h1, h2, h3, h4⟩ := map_open hi hm
  obtain ⟨r', h5, h6⟩ := findKey_spec (P := P) (w := w) hd hu h2 hf
  have h7 := acheck_run (P := P) (w := w) false 3 10000 kt k u (by decide) hu hc
  cases r' with
  | some p => exact h6.elim
  | none =>
    refine ⟨undef, w.putObj m (.map (ens.toArray.push { key := u, val := y, born := ck }) (ck + 1)), ?_, _, _, C, ⟨rfl, rfl⟩, CLe.refl C, Rel.sc _, ?_⟩
    · simp only [primRun, Instr.mapUpdate, Sem.run_bind, run_underlying hT w, Result.andThen_ok, run_getMap h1, Sem.run_pure, h7, h5, run_setObj_put _ h1]
    · refine hi.putObj hm h4 h3 ⟨ens ++ [{ key := u, val := y, born := ck }], ?_, h2.snoc ck hu hy, h3⟩ h4
      rw [putObj_at _ (Array.getElem?_eq_some_iff.1 h1).1, List.push_toArray]
end
theorem afind_hit {α : Type} {kt : TypeId} {k : AV} (kf vf : α → AV) (bf : α → Nat) (p : α → Bool) : ∀ (L : List α) (i j : Nat) (e : α), (∀ a ∈ L, aeqv P 5 kt k (kf a) = some (p a)) → L[j]? = some e → p e = true → (∀ j' a, j' < j → L[j']? = some a → p a = false) →
    afind P kt k (L.map fun a => (kf a, vf a, bf a)) i = some (some (i + j, vf e))
  | [], i, j, e, _, h, _, _ => by simp at h
  | a :: L, i, j, e, hp, h, h1, h2 => by
    simp only [List.map_cons, afind]
    rw [hp a (by simp)]
    cases j with
    | zero =>
      simp at h
      subst h
      rw [h1]
      rfl
    | succ j =>
      rw [h2 0 a (by omega) (by simp)]
      simp only
      rw [afind_hit kf vf bf p L (i + 1) j e (fun b hb => hp b (by simp [hb])) (by simpa using h) h1 (fun j' b hj hb => h2 (j' + 1) b (by omega) (by simpa using hb))]
      congr 3
      omega
theorem afind_miss {α : Type} {kt : TypeId} {k : AV} (kf vf : α → AV) (bf : α → Nat) (p : α → Bool) : ∀ (L : List α) (i : Nat), (∀ a ∈ L, aeqv P 5 kt k (kf a) = some (p a)) → (∀ a ∈ L, p a = false) →
    afind P kt k (L.map fun a => (kf a, vf a, bf a)) i = some none
  | [], i, _, _ => rfl
  | a :: L, i, hp, h => by
    simp only [List.map_cons, afind]
    rw [hp a (by simp), h a (by simp)]
    exact afind_miss kf vf bf p L (i + 1) (fun b hb => hp b (by simp [hb])) (fun b hb => h b (by simp [hb]))
end Rg
namespace Rg
open Go Go.RowKit
variable {P : Program} {W0 w : World} {C : Com} {H : Heap}
def obv (k : IntKind) : Option Nat → AV
  | some i => .sc (.int k (i : Int))
  | none => .sc undef
theorem c_sliceBare {T e : TypeId} {sz : Nat} (hT : P.underlying T = some (.slice e)) (hs : tsize P e = some sz) {a : Option Addr} {len cap : Nat} {kl kh km : IntKind} (lo hi mx : Option Nat) {l h m : Nat}
    (hm : mx.getD cap = m) (hmc : m ≤ cap) (hh : hi.getD len = h) (hhm : h ≤ m) (hl : lo.getD 0 = l) (hlh : l ≤ h) (hx : mx.isSome = true → hi.isSome = true) :
    AOk P P.funcs.size (pa 18 T [.sc (.slice a len cap), .sc (.bool lo.isSome), obv kl lo, .sc (.bool hi.isSome), obv kh hi, .sc (.bool mx.isSome), obv km mx]) H (.sc (.slice (if m = l then a else a.map (·.add (l * sz))) (h - l) (m - l))) H := by
  refine ACalls.prim fun W0 C w vs hiv ha ty => ?_
  obtain ⟨x, vs', rfl, hxv, ha⟩ := ha.uncons
  obtain ⟨x1, vs1, rfl, hx1, ha⟩ := ha.uncons
  obtain ⟨x2, vs2, rfl, hx2, ha⟩ := ha.uncons
  obtain ⟨x3, vs3, rfl, hx3, ha⟩ := ha.uncons
  obtain ⟨x4, vs4, rfl, hx4, ha⟩ := ha.uncons
  obtain ⟨x5, vs5, rfl, hx5, ha⟩ := ha.uncons
  obtain ⟨x6, vs6, rfl, hx6, ha⟩ := ha.uncons
  obtain rfl := ha.nil_inv
  obtain rfl := hxv.sc_inv
  obtain rfl := hx1.sc_inv
  obtain rfl := hx3.sc_inv
  obtain rfl := hx5.sc_inv
  refine ⟨.slice (if m = l then a else a.map (·.add (l * sz))) (h - l) (m - l), w, ?_, _, _, C, ⟨rfl, rfl⟩, CLe.refl C, Rel.sc _, hiv⟩
  have bound : ∀ (k : IntKind) (i y : Nat) (c : BoundsCode), i ≤ y → (Instr.sliceBound (.int k (i : Int)) y c).run P w = .ok i w := by
    intro k i y c hiy
    have h1 : (0 : Int) ≤ (i : Int) ∧ (i : Int) ≤ (y : Int) := by omega
    simp only [Instr.sliceBound, Sem.run_bind, asIntOf, Sem.run_pure, Result.andThen_ok, if_pos h1, Int.toNat_natCast]
  have hb : (Instr.sliceBounds true len cap (if lo.isSome then some x2 else none) (if hi.isSome then some x4 else none) (if mx.isSome then some x6 else none)).run P w = .ok (l, h, m) w := by
    have b1 : ∀ i, lo = some i → x2 = .int kl (i : Int) := fun i e => by subst e; exact hx2.sc_inv
    have b2 : ∀ i, hi = some i → x4 = .int kh (i : Int) := fun i e => by subst e; exact hx4.sc_inv
    have b3 : ∀ i, mx = some i → x6 = .int km (i : Int) := fun i e => by subst e; exact hx6.sc_inv
    cases mx with
    | none =>
      simp only [Option.getD_none] at hm
      subst hm
      cases hi with
      | none =>
        simp only [Option.getD_none] at hh
        subst hh
        cases lo with
        | none =>
          simp only [Option.getD_none] at hl
          subst hl
          simp [Instr.sliceBounds, Sem.run_bind]
        | some i =>
          simp only [Option.getD_some] at hl
          subst hl
          rw [b1 i rfl]
          simp [Instr.sliceBounds, Sem.run_bind, bound kl i _ _ hlh]
      | some j =>
        simp only [Option.getD_some] at hh
        subst hh
        rw [b2 j rfl]
        cases lo with
        | none =>
          simp only [Option.getD_none] at hl
          subst hl
          simp [Instr.sliceBounds, Sem.run_bind, bound kh j _ _ hhm]
        | some i =>
          simp only [Option.getD_some] at hl
          subst hl
          rw [b1 i rfl]
          simp [Instr.sliceBounds, Sem.run_bind, bound kh j _ _ hhm, bound kl i _ _ hlh]
    | some q =>
      simp only [Option.getD_some] at hm
      subst hm
      rw [b3 q rfl]
      cases hi with
      | none => exact absurd (hx rfl) (by simp)
      | some j =>
        simp only [Option.getD_some] at hh
        subst hh
        rw [b2 j rfl]
        cases lo with
        | none =>
          simp only [Option.getD_none] at hl
          subst hl
          simp [Instr.sliceBounds, Sem.run_bind, bound km q _ _ hmc, bound kh j _ _ hhm]
        | some i =>
          simp only [Option.getD_some] at hl
          subst hl
          rw [b1 i rfl]
          simp [Instr.sliceBounds, Sem.run_bind, bound km q _ _ hmc, bound kh j _ _ hhm, bound kl i _ _ hlh]
  simp only [primRun, Instr.sliceAt, Instr.sureAddr, Instr.slice, Sem.run_bind, Sem.run_pure, Result.andThen_ok, run_underlying hT w, hb, run_sizeOf hs]
theorem c_sliceTo {T e : TypeId} {sz : Nat} (hT : P.underlying T = some (.slice e)) (hs : tsize P e = some sz) {g o len cap hi : Nat} {k : IntKind} (h : hi ≤ cap) :
    AOk P P.funcs.size (pa 18 T [.sc (.slice (some ⟨g, o, none⟩) len cap), .sc (.bool false), .sc undef, .sc (.bool true), .sc (.int k (hi : Int)), .sc (.bool false), .sc undef]) H (.sc (.slice (some ⟨g, o, none⟩) hi cap)) H := by
  have := c_sliceBare (H := H) (P := P) (sz := sz) (kl := .i64) (kh := k) (km := .i64) hT hs (a := some ⟨g, o, none⟩) (len := len) (cap := cap) none (some hi) none (l := 0) (h := hi) (m := cap) rfl (Nat.le_refl _) rfl h rfl (Nat.zero_le _) (by simp)
  have e1 : (if cap = 0 then some (⟨g, o, none⟩ : Addr) else (some (⟨g, o, none⟩ : Addr)).map (·.add (0 * sz))) = some ⟨g, o, none⟩ := by
    split
    · rfl
    · rw [Nat.zero_mul, Option.map_some, addr_add, Nat.add_zero]
  rw [e1, Nat.sub_zero, Nat.sub_zero] at this
  exact this
theorem c_sliceFrom {T e : TypeId} {sz : Nat} (hT : P.underlying T = some (.slice e)) (hs : tsize P e = some sz) {g o len cap lo : Nat} {k : IntKind} (h : lo ≤ len) (h2 : len ≤ cap) :
    AOk P P.funcs.size (pa 18 T [.sc (.slice (some ⟨g, o, none⟩) len cap), .sc (.bool true), .sc (.int k (lo : Int)), .sc (.bool false), .sc undef, .sc (.bool false), .sc undef]) H (.sc (.slice (some ⟨g, if cap = lo then o else o + lo * sz, none⟩) (len - lo) (cap - lo))) H := by
  have := c_sliceBare (H := H) (P := P) (sz := sz) (kl := k) (kh := .i64) (km := .i64) hT hs (a := some ⟨g, o, none⟩) (len := len) (cap := cap) (some lo) none none (l := lo) (h := len) (m := cap) rfl (Nat.le_refl _) rfl h2 rfl h (by simp)
  have e1 : (if cap = lo then some (⟨g, o, none⟩ : Addr) else (some (⟨g, o, none⟩ : Addr)).map (·.add (lo * sz))) = some ⟨g, if cap = lo then o else o + lo * sz, none⟩ := by
    split
    · rfl
    · rw [Option.map_some, addr_add]
  rw [e1] at this
  exact this
theorem Inv.ownRow {g : Nat} {xs : List AV} {cs : List AV} {sz cap : Nat} {e : TypeId} (hI : Inv W0 C H w) (hKg : H g = some (.cells cs e)) (hx : szs sz xs = true) {zs : List AV} (hcs : cs = xs.flatMap AV.cells ++ zs) (hc : cs.length = cap * sz) (hn : xs.length ≤ cap) (hm : cap ≤ maxLen) :
    ∃ C', CLe C C' ∧ Inv W0 C' (H.set g (.open xs.length cap sz e)) w ∧ Rel C' (.sl xs (.own g cap sz e)) (.slice (some ⟨g, 0, none⟩) xs.length cap) := by
  obtain ⟨hb, vs0, hv0, hrel0, hone0, hC0⟩ := hI.obj _ _ hKg
  subst hcs
  obtain ⟨o1, o2, rfl, hr1, hr2⟩ := hrel0.split
  have l1 := hr1.length
  have l2 := hr2.length
  have hCC : CLe C (commit C g 0 o1) := commit_le fun k _ _ => hC0 k
  have hx' : ∀ x ∈ xs, x.cells.length = sz := fun x h => by
    simp only [szs, List.all_eq_true, beq_iff_eq] at hx
    exact hx x h
  have hlen := flat_length hx'
  refine ⟨commit C g 0 o1, hCC, ⟨hI.below, fun b o u hc => ?_, fun b ob hob => ?_⟩, ?_⟩
  · rcases commit_inv hc with ⟨rfl, _, hu⟩ | hc
    · rw [cell_of_row w b o _ e _ hv0]
      have hlt := (List.getElem?_eq_some_iff.1 hu).1
      simp only [Nat.sub_zero] at hu hlt
      simp [List.getElem?_append_left hlt, hu]
    · exact hI.com b o u hc
  · unfold Heap.set at hob
    by_cases hbg : b = g
    · rw [if_pos hbg] at hob; cases hob; subst hbg
      refine ⟨hb, _, hv0, ?_, hn, hm, fun o ho => ?_⟩
      · rw [List.size_toArray, List.length_append, ← l1, ← l2, ← List.length_append]; exact hc
      · cases hcc : commit C b 0 o1 b o with
        | none => rfl
        | some u =>
          rcases commit_inv hcc with ⟨_, _, hu⟩ | hu
          · have := (List.getElem?_eq_some_iff.1 hu).1; omega
          · rw [hC0] at hu; cases hu
    · rw [if_neg hbg] at hob
      exact ⟨(hI.obj b ob hob).1, (hI.obj b ob hob).2.com hCC fun o ho => by rw [commit_other hbg]; exact ho⟩
  · exact .sl _ g 0 cap sz (hr1.mono hCC) hx' (fun q hq => hone0 q (List.mem_append.2 (.inl hq))) (fun j q hq => by rw [Nat.zero_add]; have := commit_at (C := C) (b := g) (o := 0) hq; rwa [Nat.zero_add] at this) hn hm ⟨rfl, rfl, rfl, rfl⟩ .nil
theorem AApp.grows0 {n : Nat} {Q : Post} {ρ : Nat → AV} {k : List AItem} {full : Array Oper} {dst : Option Tmp} {r : List Oper} {T e : TypeId} {xs ys : List AV} {t : Tok} {sz by_ : Nat} {H0 K : Heap} (he : ElemOk P T e sz by_) (hg : Grows H0 xs sz e t K) (hl : HLe K H)
    (hx : szs sz xs = true) (hy : szs sz ys = true) (hb : (xs.length + ys.length) * by_ ≤ 140737488355328) (hm : xs.length + ys.length ≤ maxLen)
    (h : ∀ t' K' Hn, Grows H0 (xs ++ ys) sz e t' K' → HLe K' Hn → AGo P n Q (.ops full r :: k) (aput n dst (.sl (xs ++ ys) t') ρ) Hn) : AApp P n Q full dst r k ρ H T e xs t ys := by
  by_cases h0 : ys = []
  · subst h0
    rw [List.length_nil, Nat.add_zero] at hb hm
    refine AApp.same he hx hb hm ?_
    have := h t K H (by rwa [List.append_nil]) hl
    rwa [List.append_nil] at this
  · exact AApp.grows he hg hl h0 hx hy hb hm h
def GrowsF (H0 : Heap) (xs : List AV) (sz : Nat) (e : TypeId) (t : Tok) (K : Heap) : Prop :=
  (xs = [] ∧ (t = .nil ∨ t = .full) ∧ K = H0) ∨ ∃ g cap, H0 g = none ∧ t = .own g cap sz e ∧ K = H0.set g (.open xs.length cap sz e)
theorem GrowsF.zero {H0 : Heap} {sz : Nat} {e : TypeId} : GrowsF H0 [] sz e .full H0 := .inl ⟨rfl, .inr rfl, rfl⟩
theorem GrowsF.le {H0 K : Heap} {xs : List AV} {sz : Nat} {e : TypeId} {t : Tok} (h : GrowsF H0 xs sz e t K) : HLe H0 K := by
  rcases h with ⟨_, _, rfl⟩ | ⟨g, cap, h1, _, rfl⟩
  · exact HLe.refl _
  · exact (HLe.refl _).set_new h1
theorem AApp.growsF {n : Nat} {Q : Post} {ρ : Nat → AV} {k : List AItem} {full : Array Oper} {dst : Option Tmp} {r : List Oper} {T e : TypeId} {xs ys : List AV} {t : Tok} {sz by_ : Nat} {H0 K : Heap} (he : ElemOk P T e sz by_) (hg : GrowsF H0 xs sz e t K) (hl : HLe K H)
    (hx : szs sz xs = true) (hy : szs sz ys = true) (hb : (xs.length + ys.length) * by_ ≤ 140737488355328) (hm : xs.length + ys.length ≤ maxLen)
    (h : ∀ t' K' Hn, GrowsF H0 (xs ++ ys) sz e t' K' → HLe K' Hn → AGo P n Q (.ops full r :: k) (aput n dst (.sl (xs ++ ys) t') ρ) Hn) : AApp P n Q full dst r k ρ H T e xs t ys := by
  rcases hg with ⟨rfl, ht, rfl⟩ | hg
  · by_cases h0 : ys = []
    · subst h0
      refine AApp.same he hx (by simp) (by simp [maxLen]) ?_
      exact h t K H (.inl ⟨rfl, ht, rfl⟩) hl
    · refine AApp.new he ht h0 hx hy hb hm fun g cap hgn => h _ (K.set g (.open ([].length + ys.length) cap sz e)) _ (.inr ⟨g, cap, hl.none hgn, rfl, by simp⟩) hl.set_mono
  · refine AApp.grows0 he (.inr hg) hl hx hy hb hm fun t' K' Hn hg' hl' => h t' K' Hn ?_ hl'
    rcases hg' with ⟨h1, h2, h3⟩ | h1
    · exact .inl ⟨h1, .inl h2, h3⟩
    · exact .inr h1
end Rg
namespace Rg
open Go Go.RowKit Go.WideShapes Go.ChangeShapes
def SizedIn {H : Type} (enc : TypeId × Value → H) (P : Program) (fn : Func) (s : ChangeSpec) (apart : Bool) (W : World) (args : Array Value) : Prop :=
  ∃ ds gs before, DataW.Whole enc P fn.params.toList s.vars apart W args.toList ds gs before ∧ (DataW.weightsEach P (fn.params.toList ++ (OpenSpec.ofChange s).bare.plain.varTypes P) (ds ++ gs)).all (· ≤ reachBytes) = true
theorem returnsInHanded_of_change_and_sized {H : Type} {enc : TypeId × Value → H} {a : Assume} {C : Checked} {os : Os} {f : FuncId} {fn : Func} {s : ChangeSpec} {conds : List PathCond} {apart fresh handsOn again : Bool} {X : World → Array Value → Prop}
    (hX : ∀ (w w' : World) (args : Array Value), w.heap = w'.heap → X w args → X w' args)
    (own : ownKnob C.prog.godebug = none) (started : os.Started) (noInit : C.prog.inits.idxOf? f = none) (hfn : C.prog.funcs[f]? = some fn)
    (witness : ∃ (w : World) (tape : Tape) (i : Input), w.os = os ∧ (w.forCall tape i).Shaped C.prog ∧ i.vars = [] ∧ Input.okWide C.prog (w.forCall tape i) .any w.heap.size f i ∧
      ((s.pre enc C.prog fn conds apart (w.forCall tape i).memory i.args ∧ X (w.forCall tape i).memory i.args) ∧ sizedMet enc C.prog fn (OpenSpec.ofChange s) apart (w.forCall tape i).memory i.args) ∧ a.holds C.prog (lone (Frame.enter C.prog f i.args .normal) [] (w.forCall tape i)))
    (contract : ∀ (W : World) (base : Nat) (args : Array Value) (ds gs : List (DataW H)) (before : List MemPlace),
      (∀ (j : Nat) t v, fn.params[j]? = some t → args[j]? = some v → Value.okWide C.prog W .any base t v) →
      DataW.Whole enc C.prog fn.params.toList s.vars apart W args.toList ds gs before → X W args → W.ShapedOpen C.prog → SizedIn enc C.prog fn s apart W args →
      Calls C.prog f args W fun e W' => ∃ v, e = .returned v ∧ s.post enc C.prog fn apart fresh handsOn again W args v W') :
    ReturnsInHanded a C os f .any (fun w args => (s.pre enc C.prog fn conds apart w args ∧ X w args) ∧ sizedMet enc C.prog fn (OpenSpec.ofChange s) apart w args) (s.post enc C.prog fn apart fresh handsOn again) := by
  refine returnsInHanded_of_calls own started noInit witness ?_
  intro w tape i _ hsh _ hok hpre _
  obtain ⟨_, _, _, fn', hfn', _, _, _, _, hval⟩ := hok
  have e : fn' = fn := Option.some.inj (hfn'.symm.trans hfn)
  subst e
  obtain ⟨⟨⟨ds, gs, before, hw, _⟩, hx⟩, _, ds2, gs2, before2, hw2, hsz⟩ := hpre
  have hw' := DataW.Whole.of_heap (w' := w.forCall tape i) (by rfl) hw
  have hw2' := DataW.Whole.of_heap (w' := w.forCall tape i) (by rfl) hw2
  refine (contract (w.forCall tape i) w.heap.size i.args ds gs before hval hw' (hX _ _ _ (by rfl) hx) hsh ⟨ds2, gs2, before2, hw2', hsz⟩).mono fun e W' ⟨v, he, hp⟩ => ?_
  subst he
  exact ChangeSpec.post_blind hp
variable {P : Program}
theorem law_contract3 {H : Type} {enc : TypeId × Value → H} {f : FuncId} {fn : Func} {s : ChangeSpec} {ts : List TypeId} {ss : List Sh} {rt : TypeId} {n : Nat} (hfn : P.funcs[f]? = some fn) (hts : fn.params.toList = ts) (hss : (ts.mapM fun t => shOf P n t) = some ss) (hrt : fn.resultTypes = #[rt]) (hbool : P.underlying rt = some .bool)
    (hvars : s.vars = []) (hspec : ∀ ds : List (DataW H), ds.length = ts.length → s.fn H ds = { results := [.lit (.bool true)], args := ds }) (hl : laidOutB P = true) (hread : (ts.all fun t => P.readableRec t && decide (t < P.types.size)) = true)
    (W : World) {H0 : Heap} (hH0 : Reads W H0)
    (base : Nat) (args : Array Value) (ds gs : List (DataW H)) (before : List MemPlace)
    (hlaw : ∀ as, fitsAll ss as → RelL (comOf W) as args.toList → ∃ K, AOk P f as H0 (.sc (.bool true)) K)
    (hval : ∀ (j : Nat) t v, fn.params[j]? = some t → args[j]? = some v → Value.okWide P W .any base t v) (hW : DataW.Whole enc P fn.params.toList s.vars false W args.toList ds gs before) :
    Calls P f args W fun e W' => ∃ v, e = .returned v ∧ s.post enc P fn false true false false W args v W' := by
  have hlt := hW.lt
  have hW' := hW
  obtain ⟨p, q, hA, hV, rfl, hfz, hnd⟩ := hW
  rw [hvars] at hV
  have hV' := hV
  cases gs with
  | cons g gs => exact hV.elim
  | nil =>
  obtain rfl : q = [] := hV
  obtain ⟨hdl, as, hfit, hrel⟩ := open_args (r := .any) (base := base) hss (fun j t v ht hv => hval j t v (by rw [← hts] at ht; simpa using ht) (by simpa using hv)) (hts ▸ hA)
  obtain ⟨K, hlaw⟩ := hlaw as hfit hrel
  have hcall := hlaw W (comOf W) W args.toList (inv_start_ro hH0) hrel
  rw [Array.toArray_toList] at hcall
  refine (hcall.calls (Array.getElem?_eq_some_iff.1 hfn).1).mono fun e W' ⟨r, H', C', v, he, ⟨hr, _⟩, _, hv, hinv⟩ => ?_
  subst hr
  obtain rfl := hv.sc_inv
  refine ⟨_, he, ds, [], p ++ [], [], p, [], hW', ?_, ?_, ?_, ?_, fun h => by cases h⟩
  · simp only [List.append_nil]
    rw [hspec ds hdl, hrt]
    exact ⟨[], [], ⟨1, by simp [DataW.trod, Value.cells, hbool]⟩, rfl, rfl⟩
  · simp only [List.append_nil]
    rw [hspec ds hdl, hts]
    rw [hts] at hA
    exact stay_args hl hinv.below hread hA (fun x hx => hlt x (by simp [hx])) fun x hx => by simpa using hlt x (by simp [hx])
  · rw [hvars]
    simp only [List.append_nil]
    rw [hspec ds hdl]
    exact rfl
  · exact World.keptBut_mono (fun x hx => hx) (hinv.below.frame _)
end Rg
