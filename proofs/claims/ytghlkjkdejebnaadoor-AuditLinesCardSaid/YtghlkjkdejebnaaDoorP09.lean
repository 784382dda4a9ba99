/- Regions that draw their order, walked by hand: those that only give values are put first, then each order that is left. Rows changed in place: append of many; cells told as bare ones; what is handed over is changed no more. Maps: what the machine's primitives on them do, told as calls. Bare slices: capacity, parts, rows of zeros; a row of one's own, told as one that grows. Rows that are changed in place, of elements of several cells. -/
import Derived.Test.YtghlkjkdejebnaaDoorP08
set_option linter.unusedSimpArgs false
set_option linter.unusedVariables false
set_option linter.unnecessarySimpa false
namespace Rg
open Go Go.RowKit
variable {P : Program} {n : Nat} {Q : Post} {ρ : Nat → AV} {k : List AItem} {H H0 : Heap}
def markL (m : Nat) (l : List Nat) : Array Bool := l.foldl (fun a i => a.setIfInBounds i true) (Array.replicate m false)
theorem markL_snoc (m : Nat) (l : List Nat) (i : Nat) : markL m (l ++ [i]) = (markL m l).setIfInBounds i true := by simp [markL]
def lexAB (full : Array Oper) (A : List Nat) : Bool := lexA full A (Array.replicate full.size false) == some (markL full.size A) && decide (A.length ≤ full.size)
def AWK (P : Program) (n : Nat) (H0 : Heap) (J : (Nat → AV) → Heap → Prop) (full : Array Oper) (d : List Nat) (ρ : Nat → AV) (H : Heap) : Prop :=
  wAny P n H0 full full.size (fun l ρ' H' => Region.ready .any full l = [] ∧ J ρ' H') (full.size - d.length) (markL full.size d) ρ H
def AQ3 (P : Program) (n : Nat) (H0 : Heap) (full : Array Oper) (K : (Nat → AV) → Prop) (l : List Oper) (ρ : Nat → AV) : Prop := AQ2 P n H0 full K l ρ
def AQ3S (P : Program) (n : Nat) (H0 : Heap) (full : Array Oper) (K : (Nat → AV) → Prop) (dst : Option Tmp) (l : List Oper) (ρ : Nat → AV) : ASR → Prop
  | .val v => AQ3 P n H0 full K l (aput n dst v ρ)
  | .call f args => ∃ v, (∀ H', HC H0 H' → ACalls P f args H' (fun r H'' => r = v ∧ H'' = H')) ∧ AQ3 P n H0 full K l (aput n dst v ρ)
  | _ => False
@[congr] theorem AQ3S_congr {x x' : ASR} (h : x = x') (full : Array Oper) (K : (Nat → AV) → Prop) (dst : Option Tmp) (l : List Oper) (ρ : Nat → AV) : AQ3S P n H0 full K dst l ρ x = AQ3S P n H0 full K dst l ρ x' := by rw [h]
@[congr] theorem AQ3_congr {ρ ρ' : Nat → AV} (h : ρ = ρ') (full : Array Oper) (K : (Nat → AV) → Prop) (l : List Oper) : AQ3 P n H0 full K l ρ = AQ3 P n H0 full K l ρ' := by rw [h]
@[congr] theorem AWK_congr {H H' : Heap} (h : H = H') (J : (Nat → AV) → Heap → Prop) (full : Array Oper) (d : List Nat) (ρ : Nat → AV) : AWK P n H0 J full d ρ H = AWK P n H0 J full d ρ H' := by rw [h]
section
variable {full : Array Oper} {K : (Nat → AV) → Prop} {l : List Oper} {dst : Option Tmp}
@[simp] theorem aq3_nil : AQ3 P n H0 full K [] ρ = K ρ := rfl
@[simp] theorem AQ3S_val (v : AV) : AQ3S P n H0 full K dst l ρ (.val v) = AQ3 P n H0 full K l (aput n dst v ρ) := rfl
theorem aq3_op {op : Op} {ty : TypeId} {pos : String} {after : Array Edge} (h : AQ3S P n H0 full K dst l ρ (astepV P op (evA ρ) H0)) : AQ3 P n H0 full K (⟨dst, op, ty, pos, after, none⟩ :: l) ρ := by
  cases hv : astepV P op (evA ρ) H0 with
  | val v => rw [hv] at h; exact ⟨v, fun _ hc => .inl ⟨rfl, .inl (astepV_HC hv hc)⟩, h⟩
  | call f args => rw [hv] at h; obtain ⟨v, h1, h2⟩ := h; exact ⟨v, fun H' hc => .inl ⟨rfl, .inr (.inl ⟨f, args, astepV_other hv (.inl ⟨_, _, rfl⟩), h1 H' hc⟩)⟩, h2⟩
  | app T e xs t ys => rw [hv] at h; exact h.elim
  | alloc cs T => rw [hv] at h; exact h.elim
  | store b off ds => rw [hv] at h; exact h.elim
  | stuck => rw [hv] at h; exact h.elim
  | lits e sz xs => rw [hv] at h; exact h.elim
  | freeze g v => rw [hv] at h; exact h.elim
  | unarr b v => rw [hv] at h; exact h.elim
end
def AWE (P : Program) (n : Nat) (H0 : Heap) (full : Array Oper) (K : (Nat → AV) → Heap → Prop) (ρ : Nat → AV) (H : Heap) : Option Oper → Prop
  | some o => AE P n H0 full o K ρ H
  | none => False
def AWS (P : Program) (n : Nat) (H0 : Heap) (K : (Nat → AV) → Heap → Prop) (dst : Option Tmp) (ρ : Nat → AV) (H : Heap) : ASR → Prop
  | .val v => K (aput n dst v ρ) H
  | .alloc cs T => ∀ b, H b = none → K (aput n dst (.sc (.pointer (some ⟨b, 0, none⟩))) ρ) (H.set b (.cells cs T))
  | .store b off ds => ∃ cs T, H b = some (.cells cs T) ∧ HC H0 (H.set b (.cells (lset cs off ds) T)) ∧ K (aput n dst (.sc undef) ρ) (H.set b (.cells (lset cs off ds) T))
  | .call f args => ∃ R, ACalls P f args H R ∧ ∀ v H', R v H' → HC H0 H' ∧ K (aput n dst v ρ) H'
  | .app T e xs t ys => ∃ sz by_, ElemOk P T e sz by_ ∧ szs sz xs = true ∧ szs sz ys = true ∧ (xs.length + ys.length) * by_ ≤ 140737488355328 ∧ xs.length + ys.length ≤ maxLen ∧
      (((t = .nil ∨ t = .full) ∧ ys = [] ∧ K (aput n dst (.sl xs t) ρ) H) ∨
       ((t = .nil ∨ t = .full) ∧ ys ≠ [] ∧ ∀ g cap, H g = none → K (aput n dst (.sl (xs ++ ys) (.own g cap sz e)) ρ) (H.set g (.open (xs.length + ys.length) cap sz e))) ∨
       (∃ g cap, t = .own g cap sz e ∧ H g = some (.open xs.length cap sz e) ∧
         ∀ g' cap', (H.del g) g' = none → K (aput n dst (.sl (xs ++ ys) (.own g' cap' sz e)) ρ) ((H.del g).set g' (.open (xs.length + ys.length) cap' sz e))))
  | _ => False
@[congr] theorem AWS_congr {x x' : ASR} (h : x = x') (K : (Nat → AV) → Heap → Prop) (dst : Option Tmp) (ρ : Nat → AV) (H : Heap) : AWS P n H0 K dst ρ H x = AWS P n H0 K dst ρ H x' := by rw [h]
@[congr] theorem AWE_congr {x x' : Option Oper} (h : x = x') (full : Array Oper) (K : (Nat → AV) → Heap → Prop) (ρ : Nat → AV) (H : Heap) : AWE P n H0 full K ρ H x = AWE P n H0 full K ρ H x' := by rw [h]
section
variable {full : Array Oper} {K : (Nat → AV) → Heap → Prop} {dst : Option Tmp}
theorem AWE.op {op : Op} {ty : TypeId} {pos : String} {after : Array Edge} {x : Option Oper} (hx : x = some ⟨dst, op, ty, pos, after, none⟩) (h : AWS P n H0 K dst ρ H (astepV P op (evA ρ) H)) : AWE P n H0 full K ρ H x := by
  subst hx
  refine .inr ⟨rfl, ?_⟩
  simp only
  cases hv : astepV P op (evA ρ) H <;> rw [hv] at h <;> first | exact h | exact h.elim
@[simp] theorem AWS_val (v : AV) : AWS P n H0 K dst ρ H (.val v) = K (aput n dst v ρ) H := rfl
theorem AWS.alloc {cs : List AV} {T : TypeId} (h : ∀ b, H b = none → K (aput n dst (.sc (.pointer (some ⟨b, 0, none⟩))) ρ) (H.set b (.cells cs T))) : AWS P n H0 K dst ρ H (.alloc cs T) := h
theorem AWS.store {b off : Nat} {ds cs : List AV} {T : TypeId} (hb : H b = some (.cells cs T)) (hc : HC H0 (H.set b (.cells (lset cs off ds) T))) (h : K (aput n dst (.sc undef) ρ) (H.set b (.cells (lset cs off ds) T))) : AWS P n H0 K dst ρ H (.store b off ds) := ⟨cs, T, hb, hc, h⟩
end
def readyB (full : Array Oper) (d l : List Nat) : Bool := decide (Region.ready .any full (markL full.size d) = l) && decide (l ≠ []) && l.all (fun i => decide (i < full.size)) && decide (d.length < full.size)
def doneB (full : Array Oper) (d : List Nat) : Bool := decide (Region.ready .any full (markL full.size d) = []) && decide (d.length = full.size)
variable {J : (Nat → AV) → Heap → Prop}
theorem AWK.step {full : Array Oper} {d : List Nat} (l : List Nat) (hr : readyB full d l = true) (h : ∀ i ∈ l, AWE P n H0 full (AWK P n H0 J full (d ++ [i])) ρ H full[i]?) : AWK P n H0 J full d ρ H := by
  simp only [readyB, Bool.and_eq_true, decide_eq_true_eq] at hr
  obtain ⟨⟨⟨h1, h2⟩, h3⟩, h4⟩ := hr
  unfold AWK
  rw [show full.size - d.length = (full.size - (d.length + 1)) + 1 by omega]
  refine ⟨by rw [h1]; exact h2, fun i hi => ?_⟩
  rw [h1] at hi
  have hlt : i < full.size := by simpa using List.all_eq_true.1 h3 i hi
  refine ⟨hlt, full[i], Array.getElem?_eq_getElem hlt, .inr ?_⟩
  have := h i hi
  rw [Array.getElem?_eq_getElem hlt] at this
  unfold AWE AWK at this
  rw [markL_snoc, List.length_append, List.length_singleton] at this
  exact this
theorem AWK.one {l0 : List Oper} {d : List Nat} (i : Nat) (hr : readyB l0.toArray d [i] = true) (h : AWE P n H0 l0.toArray (AWK P n H0 J l0.toArray (d ++ [i])) ρ H l0[i]?) : AWK P n H0 J l0.toArray d ρ H :=
  AWK.step [i] hr fun j hj => by
    obtain rfl := List.mem_singleton.1 hj
    rw [List.getElem?_toArray]
    exact h
theorem AWK.two {l0 : List Oper} {d : List Nat} (i j : Nat) (hr : readyB l0.toArray d [i, j] = true) (h1 : AWE P n H0 l0.toArray (AWK P n H0 J l0.toArray (d ++ [i])) ρ H l0[i]?)
    (h2 : AWE P n H0 l0.toArray (AWK P n H0 J l0.toArray (d ++ [j])) ρ H l0[j]?) : AWK P n H0 J l0.toArray d ρ H :=
  AWK.step [i, j] hr fun q hq => by
    rw [List.getElem?_toArray]
    rcases List.mem_cons.1 hq with rfl | hq
    · exact h1
    · obtain rfl := List.mem_singleton.1 hq
      exact h2
theorem AWK.fin {full : Array Oper} {d : List Nat} (hr : doneB full d = true) (h : J ρ H) : AWK P n H0 J full d ρ H := by
  simp only [doneB, Bool.and_eq_true, decide_eq_true_eq] at hr
  unfold AWK
  rw [show full.size - d.length = 0 by omega]
  exact ⟨hr.1, h⟩
theorem go_draw3 {id : Nat} {l : List Oper} (A : List Nat) (H0 : Heap) (hmix : P.follows .mixedOrders = true) (hd : lexAB l.toArray A = true) (hc : HC H0 H)
    (h : AQ3 P n H0 l.toArray (fun r => AWK P n H0 (AGo P n Q k) l.toArray A r H) (picks l.toArray A) ρ) : AGo P n Q (.code (.region id l.toArray true) :: k) ρ H := by
  simp only [lexAB, Bool.and_eq_true, beq_iff_eq, decide_eq_true_eq] at hd
  exact .draw3 A _ H0 _ hmix hd.1 hd.2 hc h fun _ _ h => h
theorem go_draw3J {id : Nat} {l : List Oper} (J : (Nat → AV) → Heap → Prop) (A : List Nat) (H0 : Heap) (hmix : P.follows .mixedOrders = true) (hd : lexAB l.toArray A = true) (hc : HC H0 H)
    (h : AQ3 P n H0 l.toArray (fun r => AWK P n H0 J l.toArray A r H) (picks l.toArray A) ρ) (h2 : ∀ ρ' H', J ρ' H' → AGo P n Q k ρ' H') : AGo P n Q (.code (.region id l.toArray true) :: k) ρ H := by
  simp only [lexAB, Bool.and_eq_true, beq_iff_eq, decide_eq_true_eq] at hd
  exact .draw3 A _ H0 _ hmix hd.1 hd.2 hc h h2
end Rg
namespace Rg
open Go Go.RowKit
variable {P : Program} {W0 w : World} {C : Com} {H : Heap} {n : Nat} {Q : Post} {ρ : Nat → AV} {k : List AItem}
theorem flat_one {l : List AV} (h : ∀ x ∈ l, x.cells = [x]) : l.flatMap AV.cells = l := by
  induction l with
  | nil => rfl
  | cons a l ih => rw [List.flatMap_cons, h a (by simp), ih fun x hx => h x (by simp [hx])]; rfl
theorem Inv.freeze {g : Nat} {xs zs : List AV} {e : TypeId} (hI : Inv W0 C H w) (hKg : H g = some (.cells (xs ++ zs) e)) (hx : ∀ x ∈ xs, x.cells = [x]) (hm : xs.length + zs.length ≤ maxLen) :
    ∃ C', CLe C C' ∧ Inv W0 C' (H.del g) w ∧ Rel C' (.sl xs .no) (.slice (some ⟨g, 0, none⟩) xs.length (xs.length + zs.length)) := by
  obtain ⟨hb, vs0, hv0, hrel0, hone0, hC0⟩ := hI.obj _ _ hKg
  obtain ⟨o1, o2, rfl, hr1, hr2⟩ := hrel0.split
  have l1 := hr1.length
  have hCC : CLe C (commit C g 0 o1) := commit_le fun k _ _ => hC0 k
  refine ⟨commit C g 0 o1, hCC, ⟨hI.below, fun b o u hc => ?_, fun b ob hob => ?_⟩, ?_⟩
  · rcases commit_inv hc with ⟨rfl, _, hu⟩ | hc
    · rw [cell_of_row w b o _ e _ hv0]
      have hlt := (List.getElem?_eq_some_iff.1 hu).1
      simp only [Nat.sub_zero] at hu hlt
      simp [List.getElem?_append_left hlt, hu]
    · exact hI.com b o u hc
  · unfold Heap.del at hob
    by_cases hbg : b = g
    · rw [if_pos hbg] at hob; cases hob
    · rw [if_neg hbg] at hob
      exact ⟨(hI.obj b ob hob).1, (hI.obj b ob hob).2.com hCC fun o ho => by rw [commit_other hbg]; exact ho⟩
  · have hr1' : RelL (commit C g 0 o1) (xs.flatMap AV.cells) o1 := by rw [flat_one hx]; exact hr1.mono hCC
    exact .sl .no g 0 _ 1 hr1' (fun x hx2 => by rw [hx x hx2]; rfl) (fun q hq => hone0 q (List.mem_append.2 (.inl hq))) (fun j q hq => commit_at hq) (by omega) hm trivial .nil
inductive FzL (b f : AV) : List AV → List AV → Prop
  | nil : FzL b f [] []
  | hit {az bs : List AV} : FzL b f az bs → FzL b f (b :: az) (f :: bs)
  | keep (a : AV) {az bs : List AV} : FzL b f az bs → FzL b f (a :: az) (a :: bs)
  | deep {xs ys : List AV} {t : Tok} {az bs : List AV} : FzL b f xs ys → (∀ x ∈ xs, x.cells = [x]) → (∀ y ∈ ys, y.cells = [y]) → FzL b f az bs → FzL b f (.sl xs t :: az) (.sl ys .no :: bs)
theorem FzL.length {b f : AV} {az bs : List AV} (h : FzL b f az bs) : az.length = bs.length := by
  induction h with
  | nil => rfl
  | hit _ ih => simp [ih]
  | keep _ _ ih => simp [ih]
  | deep _ _ _ _ _ ih => simp [ih]
theorem RawRow.get {H0 K : Heap} {e : TypeId} {xs : List AV} {v : AV} (h : RawRow H0 e xs v K) {b : Nat} {o : AObj} (hb : H0 b = some o) : K b = some o := h.1 b o hb
end Rg
namespace Rg
open Go Go.RowKit
variable {P : Program} {W0 w : World} {C : Com} {H : Heap}
abbrev pa (g : Nat) (T : TypeId) (xs : List AV) : List AV := .sc (.bool true) :: .sc (.int .i64 (g : Nat)) :: .sc (.int .i64 ((T : Nat) : Int)) :: xs
theorem ACalls.prim {g : Nat} {T : TypeId} {xs : List AV} {R : AV → Heap → Prop} (h : ∀ (W0 : World) (C : Com) (w : World) (vs : List Value), Inv W0 C H w → RelL C xs vs → ∀ ty : TypeId, ∃ r w', (primRun g T ty vs).run P w = .ok r w' ∧ ∃ v H' C', R v H' ∧ CLe C C' ∧ Rel C' v r ∧ Inv W0 C' H' w') :
    ACalls P P.funcs.size (pa g T xs) H R := by
  intro W0 C w vs hi ha
  obtain ⟨v0, vs0, rfl, h0, a1⟩ := ha.uncons
  obtain ⟨v1, vs1, rfl, h1, a2⟩ := a1.uncons
  obtain ⟨v2, vs2, rfl, h2, a3⟩ := a2.uncons
  obtain rfl := h0.sc_inv
  obtain rfl := h1.sc_inv
  obtain rfl := h2.sc_inv
  refine .inr <| .inr <| .inr ⟨rfl, g, T, vs2, rfl, fun ty => ?_⟩
  obtain ⟨r, w', h1, v, H', C', h2, h3, h4, h5⟩ := h W0 C w vs2 hi a3 ty
  exact ⟨r, w', h1, v, H', C', r, rfl, h2, h3, h4, h5⟩
theorem run_getMap {r : Nat} {es : Array MapEntry} {ck : Nat} (h : w.heap[r]? = some (.map es ck)) : (getObj r).run P w = .ok (.map es ck) w := by simp [getObj, Sem.run, h]
theorem run_setObj_put {r : Nat} {es : Array MapEntry} {ck : Nat} (o : Obj) (h : w.heap[r]? = some (.map es ck)) : (setObj r o).run P w = .ok () (w.putObj r o) := by simp [setObj, Sem.run, h, World.putObj]
theorem Inv.putObj (hi : Inv W0 C H w) {r : Nat} {ob0 ob : AObj} {o : Obj} (h0 : H r = some ob0) (hb : W0.heap.size ≤ r) (hC : ∀ k, C r k = none) (ho : ObjOk C (w.putObj r o) r ob) (hb2 : ob.base W0 r) : Inv W0 C (H.set r ob) (w.putObj r o) := by
  have hd := hi.del o hb hC
  refine ⟨hd.below, hd.com, fun b ob' e => ?_⟩
  unfold Heap.set at e
  by_cases hbl : b = r
  · rw [if_pos hbl] at e; cases e; subst hbl; exact ⟨hb2, ho⟩
  · rw [if_neg hbl] at e; exact hd.obj b ob' (by unfold Heap.del; rw [if_neg hbl]; exact e)
theorem putObj_at {r : Nat} (o : Obj) (h : r < w.heap.size) : (w.putObj r o).heap[r]? = some o := by
  simp [World.putObj, h]
theorem RelE.get {es : List (AV × AV × Nat)} {ens : List MapEntry} (h : RelE C es ens) {i : Nat} {e : AV × AV × Nat} (he : es[i]? = some e) : ∃ x, ens[i]? = some x ∧ Rel C e.1 x.key ∧ Rel C e.2.1 x.val ∧ e.2.2 = x.born := by
  obtain ⟨h1, h2, h3⟩ := h
  obtain ⟨k, hk, hk2⟩ := h1.get (i := i) (a := e.1) (by simp [he])
  obtain ⟨v, hv, hv2⟩ := h2.get (i := i) (a := e.2.1) (by simp [he])
  cases hx : ens[i]? with
  | none => simp [hx] at hk
  | some x =>
    simp only [List.getElem?_map, hx, Option.map_some, Option.some.injEq] at hk hv
    subst hk; subst hv
    refine ⟨x, rfl, hk2, hv2, ?_⟩
    have := congrArg (fun l => l[i]?) h3
    simpa [he, hx] using this
theorem RelE.length {es : List (AV × AV × Nat)} {ens : List MapEntry} (h : RelE C es ens) : es.length = ens.length := by have := h.1.length; simpa using this
theorem RelE.cons_inv {e : AV × AV × Nat} {es : List (AV × AV × Nat)} {ens : List MapEntry} (h : RelE C (e :: es) ens) : ∃ x r, ens = x :: r ∧ Rel C e.1 x.key ∧ Rel C e.2.1 x.val ∧ e.2.2 = x.born ∧ RelE C es r := by
  cases ens with
  | nil => have := h.length; simp at this
  | cons x r =>
    obtain ⟨h1, h2, h3⟩ := h
    simp only [List.map_cons] at h1 h2 h3
    obtain ⟨k, ks, e1, h4, h5⟩ := h1.uncons
    obtain ⟨v, vs, e2, h6, h7⟩ := h2.uncons
    cases e1; cases e2
    simp only [List.cons.injEq] at h3
    exact ⟨x, r, rfl, h4, h6, h3.1, h5, h7, h3.2⟩
theorem RelE.nil_inv {ens : List MapEntry} (h : RelE C [] ens) : ens = [] := by have := h.length; exact List.length_eq_zero_iff.1 this.symm
theorem RelE.snoc {es : List (AV × AV × Nat)} {ens : List MapEntry} (h : RelE C es ens) {k v : AV} {x y : Value} (b : Nat) (hk : Rel C k x) (hv : Rel C v y) : RelE C (es ++ [(k, v, b)]) (ens ++ [{ key := x, val := y, born := b }]) := by
  refine ⟨?_, ?_, ?_⟩
  · simp only [List.map_append, List.map_cons, List.map_nil]; exact h.1.append hk
  · simp only [List.map_append, List.map_cons, List.map_nil]; exact h.2.1.append hv
  · simp [h.2.2]
theorem RelE.modify {es : List (AV × AV × Nat)} {ens : List MapEntry} (h : RelE C es ens) {i : Nat} {e : AV × AV × Nat} {en : MapEntry} (he : ens[i]? = some en) {k v : AV} {x y : Value} (hk : Rel C k x) (hv : Rel C v y) (hb : es[i]? = some e) :
    RelE C (es.set i (k, v, e.2.2)) (ens.set i { en with key := x, val := y }) := by
  obtain ⟨h1, h2, h3⟩ := h
  refine ⟨?_, ?_, ?_⟩
  · rw [List.map_set, List.map_set]; exact h1.set hk
  · rw [List.map_set, List.map_set]; exact h2.set hv
  · rw [List.map_set, List.map_set, h3]
    have := congrArg (fun l => l[i]?) h3
    simp [he, hb] at this
    rw [this]
def acheck (P : Program) : Nat → TypeId → AV → Bool
  | 0, _, _ => false
  | n + 1, t, v =>
    match P.underlying t, v with
    | some (.struct fs), .agg cs => fs.toList.all fun f => f.name == "_" || (match apart P f.type cs f.offset with | .val x => acheck P n f.type x | _ => false)
    | some (.int _), .sc _ => true
    | some .string, .sc _ => true
    | some .bool, .sc _ => true
    | _, _ => false
theorem for_unit {α : Type} (f : α → PUnit → Sem (ForInStep PUnit)) : ∀ (l : List α), (∀ a ∈ l, (f a PUnit.unit).run P w = .ok (.yield PUnit.unit) w) → (forIn (m := Sem) l PUnit.unit f).run P w = .ok PUnit.unit w
  | [], _ => rfl
  | a :: l, h => by
    rw [List.forIn_cons]
    simp only [Sem.run_bind, h a (by simp), Result.andThen_ok]
    exact for_unit f l fun b hb => h b (by simp [hb])
theorem acheck_run (em : Bool) : ∀ (n m : Nat) (t : TypeId) (x : AV) (v : Value), n ≤ m → Rel C x v → acheck P n t x = true → (Instr.checkKey em m t v).run P w = .ok () w
  | 0, _, _, _, _, _, _, h => by cases h
  | n + 1, 0, _, _, _, hm, _, _ => by omega
  | n + 1, m + 1, t, x, v, hm, hr, h => by
    unfold acheck at h
    split at h
    · rename_i fs cs hu
      obtain ⟨us, rfl, h1, h2⟩ := hr.agg_inv
      unfold Instr.checkKey
      simp only [Sem.run_bind, run_underlying hu w, Result.andThen_ok]
      rw [List.all_eq_true] at h
      rw [← Array.forIn_toList, for_unit _ fs.toList fun f hf => ?_]
      · rfl
      · have hh := h f hf
        by_cases hn : f.name = "_"
        · simp [hn]
        · simp only [beq_eq_false_iff_ne.2 hn, Bool.false_or] at hh
          split at hh
          · rename_i y hy
            obtain ⟨q, hq, hq2⟩ := part_run (P := P) (w := w) h1 h2 hy
            simp only [hn, ne_eq, not_false_iff, if_true, Sem.run_bind, hq, Result.andThen_ok, acheck_run em n m f.type y q (by omega) hq2 hh, Sem.run_pure]
          · cases hh
    · rename_i k x' hu
      unfold Instr.checkKey
      simp only [Sem.run_bind, run_underlying hu w, Result.andThen_ok, Sem.run_pure]
    · rename_i x' hu
      unfold Instr.checkKey
      simp only [Sem.run_bind, run_underlying hu w, Result.andThen_ok, Sem.run_pure]
    · rename_i x' hu
      unfold Instr.checkKey
      simp only [Sem.run_bind, run_underlying hu w, Result.andThen_ok, Sem.run_pure]
    · cases h
def afind (P : Program) (kt : TypeId) (k : AV) : List (AV × AV × Nat) → Nat → Option (Option (Nat × AV))
  | [], _ => some none
  | e :: es, i =>
    match aeqv P 5 kt k e.1 with
    | some true => some (some (i, e.2.1))
    | some false => afind P kt k es (i + 1)
    | none => none
def RelO (C : Com) : Option (Nat × AV) → Option (Nat × Value) → Prop
  | none, none => True
  | some (i, a), some (j, v) => i = j ∧ Rel C a v
  | _, _ => False
theorem same_eqv {d : TypeDesc} {T : TypeId} {x y : AV} {u v : Value} {b b' : Bool} (hu : P.underlying T = some d) (hx : Rel C x u) (hy : Rel C y v) (h : aeqv P 5 T x y = some b) (hs : Instr.sameNow d u v = some b') : b = b' := by
  unfold aeqv at h
  split at h
  · obtain rfl := hx.sc_inv
    obtain rfl := hy.sc_inv
    split at h
    · cases h; unfold Instr.sameNow at hs; split at hs <;> simp_all
    · cases h
  · obtain rfl := hx.sc_inv
    obtain rfl := hy.sc_inv
    split at h
    · cases h; unfold Instr.sameNow at hs; split at hs <;> simp_all
    · cases h
  · obtain rfl := hx.sc_inv
    obtain rfl := hy.sc_inv
    split at h
    · rename_i a b _ hk
      cases h
      unfold Instr.sameNow at hs
      split at hs
      · simp_all
      · rename_i h1 h2
        cases h1; cases h2
        cases hs
        rw [beq_toListBytes]
      · simp_all
      · cases hs
    · cases h
  · obtain ⟨us, rfl, _⟩ := hx.agg_inv
    obtain ⟨vs, rfl, _⟩ := hy.agg_inv
    unfold Instr.sameNow at hs
    split at hs <;> simp_all
  · cases h
theorem findNow_spec {d : TypeDesc} {kt : TypeId} {k : AV} {u : Value} (hu : P.underlying kt = some d) (hk : Rel C k u) : ∀ (es : List (AV × AV × Nat)) (ens : List MapEntry) (i : Nat) (r : Option (Nat × AV)) (r' : Option (Nat × Value)), RelE C es ens → afind P kt k es i = some r → Instr.findNow d u ens i = some r' → RelO C r r'
  | [], ens, i, r, r', he, h, h' => by
    obtain rfl := he.nil_inv
    cases h; cases h'; trivial
  | e :: es, ens, i, r, r', he, h, h' => by
    obtain ⟨x, rest, rfl, h1, h2, _, h4⟩ := he.cons_inv
    simp only [Instr.findNow] at h'
    simp only [afind] at h
    split at h'
    · rename_i hs
      cases h'
      split at h
      · cases h; exact ⟨rfl, h2⟩
      · rename_i hq
        have := same_eqv hu hk h1 hq hs
        cases this
      · cases h
    · rename_i hs
      split at h
      · rename_i hq
        have := same_eqv hu hk h1 hq hs
        cases this
      · exact findNow_spec hu hk es rest (i + 1) r r' h4 h h'
      · cases h
    · cases h'
theorem findAsking_spec {kt : TypeId} {k : AV} {u : Value} (hk : Rel C k u) : ∀ (es : List (AV × AV × Nat)) (ens : List MapEntry) (i : Nat) (r : Option (Nat × AV)), RelE C es ens → afind P kt k es i = some r → ∃ r', (Instr.findAsking kt u ens i).run P w = .ok r' w ∧ RelO C r r'
  | [], ens, i, r, he, h => by
    obtain rfl := he.nil_inv
    cases h
    exact ⟨none, rfl, trivial⟩
  | e :: es, ens, i, r, he, h => by
    obtain ⟨x, rest, rfl, h1, h2, _, h4⟩ := he.cons_inv
    simp only [afind] at h
    unfold Instr.findAsking
    split at h
    · rename_i hq
      cases h
      have hr := aeqv_run (P := P) (w := w) 5 Op.maxDepth kt k e.1 u x.key true (by decide) hk h1 hq
      exact ⟨some (i, x.val), by simp only [Op.equal, Sem.run_bind, hr, Result.andThen_ok, if_true, Sem.run_pure], rfl, h2⟩
    · rename_i hq
      have hr := aeqv_run (P := P) (w := w) 5 Op.maxDepth kt k e.1 u x.key false (by decide) hk h1 hq
      obtain ⟨r', h5, h6⟩ := findAsking_spec hk es rest (i + 1) r h4 h
      exact ⟨r', by simp only [Op.equal, Sem.run_bind, hr, Result.andThen_ok, Bool.false_eq_true, if_false, h5], h6⟩
    · cases h
theorem findKey_spec {kt : TypeId} {d : TypeDesc} {k : AV} {u : Value} (hu : P.underlying kt = some d) (hk : Rel C k u) {es : List (AV × AV × Nat)} {ens : List MapEntry} {r : Option (Nat × AV)} (he : RelE C es ens) (h : afind P kt k es 0 = some r) :
    ∃ r', (Instr.findKey kt u ens).run P w = .ok r' w ∧ RelO C r r' := by
  unfold Instr.findKey
  simp only [Sem.run_bind, run_underlying hu w, Result.andThen_ok]
  cases hf : Instr.findNow d u ens 0 with
  | some r' => exact ⟨r', rfl, findNow_spec hu hk es ens 0 r r' he h hf⟩
  | none => exact findAsking_spec hk es ens 0 r he h
theorem c_makeMap (T : TypeId) : ACalls P P.funcs.size (pa 4 T []) H (fun v H' => ∃ m, H m = none ∧ v = .sc (.map (some m)) ∧ H' = H.set m (.map [] 0)) := by
  refine ACalls.prim fun W0 C w vs hi ha ty => ?_
  obtain rfl := ha.nil_inv
  refine ⟨.map (some w.heap.size), w.alloc (.map #[] 0), by simp [primRun, Instr.makeMap, Sem.run_bind], _, _, C, ⟨w.heap.size, hi.heap_fresh, rfl, rfl⟩, CLe.refl C, Rel.sc _, ?_⟩
  exact hi.newObj _ _ ⟨[], heap_alloc_new w _, ⟨.nil, .nil, rfl⟩, hi.fresh⟩ hi.below.size
theorem map_open (hi : Inv W0 C H w) {m : Nat} {es : List (AV × AV × Nat)} {ck : Nat} (hm : H m = some (.map es ck)) : ∃ ens : List MapEntry, w.heap[m]? = some (.map ens.toArray ck) ∧ RelE C es ens ∧ (∀ o, C m o = none) ∧ W0.heap.size ≤ m :=
  let h := hi.obj _ _ hm; let ⟨ens, h1, h2, h3⟩ := h.2; ⟨ens, h1, h2, h3, h.1⟩
section
variable {T kt et : TypeId} {d : TypeDesc} {m ck : Nat} {es : List (AV × AV × Nat)} {k : AV}
theorem lookup_run (hT : P.underlying T = some (.map kt et)) (hd : P.underlying kt = some d) (hi : Inv W0 C H w) (hm : H m = some (.map es ck)) (hc : acheck P 3 kt k = true) {r : Option (Nat × AV)} (hf : afind P kt k es 0 = some r) {u : Value} (hk : Rel C k u) (z : Value) (hz : r = none → tzero P et = some z) (ok : Bool) :
    ∃ q, (Instr.lookup T (.map (some m)) u ok).run P w = .ok (if ok then .tuple #[q, .bool r.isSome] else q) w ∧ Rel C (match r with | some p => p.2 | none => ofV z) q := by
  obtain ⟨ens, h1, h2, _⟩ := map_open hi hm
  obtain ⟨r', h3, h4⟩ := findKey_spec (P := P) (w := w) hd hk h2 hf
  have h5 := acheck_run (P := P) (w := w) ens.toArray.isEmpty 3 10000 kt k u (by decide) hk hc
  cases r with
  | none =>
    cases r' with
    | some p => exact h4.elim
    | none =>
      exact ⟨z, by
        simp only [Instr.lookup, Sem.run_bind, run_underlying hT w, Result.andThen_ok, run_getMap h1, Sem.run_pure, h5, h3, run_zeroValue (hz rfl) w]
        cases ok <;> rfl, rel_ofV z⟩
  | some p =>
    cases r' with
    | none => exact h4.elim
    | some p' =>
      exact ⟨p'.2, by
        simp only [Instr.lookup, Sem.run_bind, run_underlying hT w, Result.andThen_ok, run_getMap h1, Sem.run_pure, h5, h3]
        cases ok <;> rfl, h4.2⟩
theorem c_lookup2 (hT : P.underlying T = some (.map kt et)) (hd : P.underlying kt = some d) (hm : H m = some (.map es ck)) (hc : acheck P 3 kt k = true) {i : Nat} {v : AV} (hf : afind P kt k es 0 = some (some (i, v))) :
    AOk P P.funcs.size (pa 2 T [.sc (.map (some m)), k]) H (.tup [v, .sc (.bool true)]) H := by
  refine ACalls.prim fun W0 C w vs hi ha ty => ?_
  obtain ⟨x, vs', rfl, hx, ha⟩ := ha.uncons
  obtain ⟨u, vs'', rfl, hu, ha⟩ := ha.uncons
  obtain rfl := ha.nil_inv
  obtain rfl := hx.sc_inv
  obtain ⟨q, h1, h2⟩ := lookup_run hT hd hi hm hc hf hu undef (by simp) true
  exact ⟨_, _, h1, _, _, C, ⟨rfl, rfl⟩, CLe.refl C, RelL.tup (vs := []) (us := [q, .bool true]) (RelL.cons h2 (Rel.sc _)) .nil, hi⟩
theorem c_lookup2_no (hT : P.underlying T = some (.map kt et)) (hd : P.underlying kt = some d) (hm : H m = some (.map es ck)) (hc : acheck P 3 kt k = true) {z : Value} (hz : tzero P et = some z) (hf : afind P kt k es 0 = some none) :
    AOk P P.funcs.size (pa 2 T [.sc (.map (some m)), k]) H (.tup [ofV z, .sc (.bool false)]) H := by
  refine ACalls.prim fun W0 C w vs hi ha ty => ?_
  obtain ⟨x, vs', rfl, hx, ha⟩ := ha.uncons
  obtain ⟨u, vs'', rfl, hu, ha⟩ := ha.uncons
  obtain rfl := ha.nil_inv
  obtain rfl := hx.sc_inv
  obtain ⟨q, h1, h2⟩ := lookup_run hT hd hi hm hc hf hu z (fun _ => hz) true
  exact ⟨_, _, h1, _, _, C, ⟨rfl, rfl⟩, CLe.refl C, RelL.tup (vs := []) (us := [q, .bool false]) (RelL.cons h2 (Rel.sc _)) .nil, hi⟩
theorem toArray_modify {α : Type} (l : List α) (i : Nat) (f : α → α) : l.toArray.modify i f = (l.modify i f).toArray := by
  apply Array.ext'
  simp
theorem modify_set {α : Type} {l : List α} {i : Nat} {x : α} (f : α → α) (h : l[i]? = some x) : l.modify i f = l.set i (f x) := by
  apply List.ext_getElem?
  intro j
  rw [List.getElem?_modify, List.getElem?_set]
  by_cases hj : i = j
  · subst hj
    rw [if_pos rfl, h, if_pos (List.getElem?_eq_some_iff.1 h).1]
    simp
  · rw [if_neg hj]
    simp [hj]
theorem c_insert (hT : P.underlying T = some (.map kt et)) (hd : P.underlying kt = some d) (hm : H m = some (.map es ck)) (hc : acheck P 3 kt k = true) (hf : afind P kt k es 0 = some none) (v : AV) :
    AOk P P.funcs.size (pa 3 T [.sc (.map (some m)), k, v]) H (.sc undef) (H.set m (.map (es ++ [(k, v, ck)]) (ck + 1))) := by
  refine ACalls.prim fun W0 C w vs hi ha ty => ?_
  obtain ⟨x, vs', rfl, hx, ha⟩ := ha.uncons
  obtain ⟨u, vs'', rfl, hu, ha⟩ := ha.uncons
  obtain ⟨y, vs3, rfl, hy, ha⟩ := ha.uncons
  obtain rfl := ha.nil_inv
  obtain rfl := hx.sc_inv
  obtain ⟨ens, h1, h2, h3, h4⟩ := map_open hi hm
  obtain ⟨r', h5, h6⟩ := findKey_spec (P := P) (w := w) hd hu h2 hf
  have h7 := acheck_run (P := P) (w := w) false 3 10000 kt k u (by decide) hu hc
  cases r' with
  | some p => exact h6.elim
  | none =>
    refine ⟨undef, w.putObj m (.map (ens.toArray.push { key := u, val := y, born := ck }) (ck + 1)), ?_, _, _, C, ⟨rfl, rfl⟩, CLe.refl C, Rel.sc _, ?_⟩
    · simp only [primRun, Instr.mapUpdate, Sem.run_bind, run_underlying hT w, Result.andThen_ok, run_getMap h1, Sem.run_pure, h7, h5, run_setObj_put _ h1]
    · refine hi.putObj hm h4 h3 ⟨ens ++ [{ key := u, val := y, born := ck }], ?_, h2.snoc ck hu hy, h3⟩ h4
      rw [putObj_at _ (Array.getElem?_eq_some_iff.1 h1).1, List.push_toArray]
theorem stays_run {a b : Value} : ∃ c w', (Instr.keyThatStays a b).run P w = .ok c w' ∧ (c = a ∨ c = b) ∧ (w' = w ∨ w' = w.drew) := by
  unfold Instr.keyThatStays
  by_cases h : Instr.sameBits 10000 a b = true
  · exact ⟨b, w, by rw [if_pos h]; rfl, .inr rfl, .inl rfl⟩
  · rw [if_neg h]
    simp only [Sem.run_bind, run_choose_drew]
    have hf : Question.forced (.extern "map.whichKeyStays" 2) = false := by rfl
    rw [hf]
    simp only [Bool.false_eq_true, if_false, Result.andThen_ok, Sem.run_pure]
    exact ⟨_, _, rfl, by split <;> simp, .inr rfl⟩
theorem c_update (hT : P.underlying T = some (.map kt et)) (hd : P.underlying kt = some d) (hm : H m = some (.map es ck)) (hc : acheck P 3 kt k = true) {i b : Nat} {v0 : AV} (hf : afind P kt k es 0 = some (some (i, v0))) (he : es[i]? = some (k, v0, b)) (v : AV) :
    AOk P P.funcs.size (pa 3 T [.sc (.map (some m)), k, v]) H (.sc undef) (H.set m (.map (es.set i (k, v, b)) ck)) := by
  refine ACalls.prim fun W0 C w vs hi ha ty => ?_
  obtain ⟨x, vs', rfl, hx, ha⟩ := ha.uncons
  obtain ⟨u, vs'', rfl, hu, ha⟩ := ha.uncons
  obtain ⟨y, vs3, rfl, hy, ha⟩ := ha.uncons
  obtain rfl := ha.nil_inv
  obtain rfl := hx.sc_inv
  obtain ⟨ens, h1, h2, h3, h4⟩ := map_open hi hm
  obtain ⟨r', h5, h6⟩ := findKey_spec (P := P) (w := w) hd hu h2 hf
  have h7 := acheck_run (P := P) (w := w) false 3 10000 kt k u (by decide) hu hc
  cases r' with
  | none => exact h6.elim
  | some p =>
    obtain ⟨j, v'⟩ := p
    obtain ⟨rfl, _⟩ := h6
    obtain ⟨en, hen, e1, e2, e3⟩ := h2.get he
    obtain ⟨c, w', h8, h9, h10⟩ := stays_run (P := P) (w := w) (a := en.key) (b := u)
    have hcR : Rel C k c := by
      rcases h9 with rfl | rfl
      · exact e1
      · exact hu
    have hi' : Inv W0 C H w' := by
      rcases h10 with rfl | rfl
      · exact hi
      · exact hi.draw
    have h1' : w'.heap[m]? = some (.map ens.toArray ck) := by
      rcases h10 with rfl | rfl
      · exact h1
      · exact h1
    refine ⟨undef, w'.putObj m (.map (ens.toArray.modify i fun e => { e with key := c, val := y }) ck), ?_, _, _, C, ⟨rfl, rfl⟩, CLe.refl C, Rel.sc _, ?_⟩
    · have ea : (((ens.toArray)[i]?).map (·.key)).getD u = en.key := by simp [hen]
      simp only [primRun, Instr.mapUpdate, Sem.run_bind, run_underlying hT w, Result.andThen_ok, run_getMap h1, Sem.run_pure, h7, h5, ea, h8, run_setObj_put _ h1']
    · refine hi'.putObj hm h4 h3 ⟨ens.set i { en with key := c, val := y }, ?_, h2.modify hen hcR hy he, h3⟩ h4
      rw [putObj_at _ (Array.getElem?_eq_some_iff.1 h1').1, toArray_modify, modify_set _ hen]
end
end Rg
namespace Rg
open Go Go.RowKit
variable {P : Program} {W0 w : World} {C : Com} {H : Heap}
def GrowsF (H0 : Heap) (xs : List AV) (sz : Nat) (e : TypeId) (t : Tok) (K : Heap) : Prop :=
  (xs = [] ∧ (t = .nil ∨ t = .full) ∧ K = H0) ∨ ∃ g cap, H0 g = none ∧ t = .own g cap sz e ∧ K = H0.set g (.open xs.length cap sz e)
theorem GrowsF.zero {H0 : Heap} {sz : Nat} {e : TypeId} : GrowsF H0 [] sz e .full H0 := .inl ⟨rfl, .inr rfl, rfl⟩
theorem GrowsF.le {H0 K : Heap} {xs : List AV} {sz : Nat} {e : TypeId} {t : Tok} (h : GrowsF H0 xs sz e t K) : HLe H0 K := by
  rcases h with ⟨_, _, rfl⟩ | ⟨g, cap, h1, _, rfl⟩
  · exact HLe.refl _
  · exact (HLe.refl _).set_new h1
end Rg
namespace Rg
open Go Go.RowKit
variable {P : Program} {W0 w : World} {C : Com} {H : Heap}
def RawRowZ (sz : Nat) (H0 : Heap) (e : TypeId) (xs : List AV) (v : AV) (K : Heap) : Prop :=
  HLe H0 K ∧ ((xs = [] ∧ v = .sc (.slice none 0 0)) ∨ ∃ g zs cap, H0 g = none ∧ v = .sc (.slice (some ⟨g, 0, none⟩) xs.length cap) ∧ K g = some (.cells (xs.flatMap AV.cells ++ zs) e) ∧ xs.length * sz + zs.length = cap * sz ∧ xs.length ≤ cap ∧ cap ≤ maxLen)
theorem RawRowZ.none {sz : Nat} {H0 : Heap} {e : TypeId} : RawRowZ sz H0 e [] (.sc (.slice none 0 0)) H0 := ⟨HLe.refl _, .inl ⟨rfl, rfl⟩⟩
end Rg
