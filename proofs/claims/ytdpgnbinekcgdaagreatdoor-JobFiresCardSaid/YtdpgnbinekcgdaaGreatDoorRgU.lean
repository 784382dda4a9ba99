/- Regions that draw their order, walked by hand: those that only give values are put first, then each order that is left. -/
import Derived.Test.YtdpgnbinekcgdaaGreatDoorRgT
namespace Rg
open Go Go.RowKit

variable {P : Program} {n : Nat} {Q : Post} {ρ : Nat → AV} {k : List AItem} {H H0 : Heap}

def markL (m : Nat) (l : List Nat) : Array Bool := l.foldl (fun a i => a.setIfInBounds i true) (Array.replicate m false)
theorem markL_snoc (m : Nat) (l : List Nat) (i : Nat) : markL m (l ++ [i]) = (markL m l).setIfInBounds i true := by simp [markL]

def lexAB (full : Array Oper) (A : List Nat) : Bool := lexA full A (Array.replicate full.size false) == some (markL full.size A) && decide (A.length ≤ full.size)

/-- The run of a region's operations, those of d done. -/
def AWK (P : Program) (n : Nat) (H0 : Heap) (J : (Nat → AV) → Heap → Prop) (full : Array Oper) (d : List Nat) (ρ : Nat → AV) (H : Heap) : Prop :=
  wAny P n H0 full full.size (fun l ρ' H' => Region.ready .any full l = [] ∧ J ρ' H') (full.size - d.length) (markL full.size d) ρ H
/-- Values that are put first, whatever the heap becomes. -/
def AQ3 (P : Program) (n : Nat) (H0 : Heap) (full : Array Oper) (K : (Nat → AV) → Prop) (l : List Oper) (ρ : Nat → AV) : Prop := AQ2 P n H0 full K l ρ
def AQ3S (P : Program) (n : Nat) (H0 : Heap) (full : Array Oper) (K : (Nat → AV) → Prop) (dst : Option Tmp) (l : List Oper) (ρ : Nat → AV) : ASR → Prop
  | .val v => AQ3 P n H0 full K l (aput n dst v ρ)
  | .call f args => ∃ v, (∀ H', HC H0 H' → ACalls P f args H' (fun r H'' => r = v ∧ H'' = H')) ∧ AQ3 P n H0 full K l (aput n dst v ρ)
  | _ => False
@[congr] theorem AQ3S_congr {x x' : ASR} (h : x = x') (full : Array Oper) (K : (Nat → AV) → Prop) (dst : Option Tmp) (l : List Oper) (ρ : Nat → AV) : AQ3S P n H0 full K dst l ρ x = AQ3S P n H0 full K dst l ρ x' := by rw [h]
@[congr] theorem AQ3_congr {ρ ρ' : Nat → AV} (h : ρ = ρ') (full : Array Oper) (K : (Nat → AV) → Prop) (l : List Oper) : AQ3 P n H0 full K l ρ = AQ3 P n H0 full K l ρ' := by rw [h]
@[congr] theorem AWK_congr {H H' : Heap} (h : H = H') (J : (Nat → AV) → Heap → Prop) (full : Array Oper) (d : List Nat) (ρ : Nat → AV) : AWK P n H0 J full d ρ H = AWK P n H0 J full d ρ H' := by rw [h]

section
variable {full : Array Oper} {K : (Nat → AV) → Prop} {l : List Oper} {dst : Option Tmp}
@[simp] theorem aq3_nil : AQ3 P n H0 full K [] ρ = K ρ := rfl
@[simp] theorem AQ3S_val (v : AV) : AQ3S P n H0 full K dst l ρ (.val v) = AQ3 P n H0 full K l (aput n dst v ρ) := rfl
theorem aq3_op {op : Op} {ty : TypeId} {pos : String} {after : Array Edge} (h : AQ3S P n H0 full K dst l ρ (astepV P op (evA ρ) H0)) : AQ3 P n H0 full K (⟨dst, op, ty, pos, after, none⟩ :: l) ρ := by
  cases hv : astepV P op (evA ρ) H0 with
  | val v => rw [hv] at h; exact ⟨v, fun _ hc => .inl ⟨rfl, .inl (astepV_HC hv hc)⟩, h⟩
  | call f args => rw [hv] at h; obtain ⟨v, h1, h2⟩ := h; exact ⟨v, fun H' hc => .inl ⟨rfl, .inr (.inl ⟨f, args, astepV_other hv (.inl ⟨_, _, rfl⟩), h1 H' hc⟩)⟩, h2⟩
  | app T e xs t ys => rw [hv] at h; exact h.elim
  | alloc cs T => rw [hv] at h; exact h.elim
  | store b off ds => rw [hv] at h; exact h.elim
  | stuck => rw [hv] at h; exact h.elim
  | lits e sz xs => rw [hv] at h; exact h.elim
  | freeze g v => rw [hv] at h; exact h.elim
  | unarr b v => rw [hv] at h; exact h.elim
theorem aq3_inv {op : Op} {ty : TypeId} {pos : String} {after : Array Edge} (h : AQ3 P n H0 full K (⟨dst, op, ty, pos, after, none⟩ :: l) ρ) (hv : ∃ v, astepV P op (evA ρ) H0 = .val v) : AQ3S P n H0 full K dst l ρ (astepV P op (evA ρ) H0) := by
  obtain ⟨v0, hv⟩ := hv
  obtain ⟨v, hy, h⟩ := h
  rcases hy H0 (fun _ _ h => h) with ⟨hg, h1 | ⟨f, args, h1, hc⟩ | ⟨T, e, xs, t, ys, sz, by_, h1, _⟩⟩ | ⟨hg, rfl⟩
  · rw [h1]; exact h
  · rw [hv] at h1; cases h1
  · rw [hv] at h1; cases h1
  · cases hg
end

/-- One operation, with what follows it. -/
def AWE (P : Program) (n : Nat) (H0 : Heap) (full : Array Oper) (K : (Nat → AV) → Heap → Prop) (ρ : Nat → AV) (H : Heap) : Option Oper → Prop
  | some o => AE P n H0 full o K ρ H
  | none => False
def AWS (P : Program) (n : Nat) (H0 : Heap) (K : (Nat → AV) → Heap → Prop) (dst : Option Tmp) (ρ : Nat → AV) (H : Heap) : ASR → Prop
  | .val v => K (aput n dst v ρ) H
  | .alloc cs T => ∀ b, H b = none → K (aput n dst (.sc (.pointer (some ⟨b, 0, none⟩))) ρ) (H.set b (.cells cs T))
  | .store b off ds => ∃ cs T, H b = some (.cells cs T) ∧ HC H0 (H.set b (.cells (lset cs off ds) T)) ∧ K (aput n dst (.sc undef) ρ) (H.set b (.cells (lset cs off ds) T))
  | .call f args => ∃ R, ACalls P f args H R ∧ ∀ v H', R v H' → HC H0 H' ∧ K (aput n dst v ρ) H'
  | _ => False
@[congr] theorem AWS_congr {x x' : ASR} (h : x = x') (K : (Nat → AV) → Heap → Prop) (dst : Option Tmp) (ρ : Nat → AV) (H : Heap) : AWS P n H0 K dst ρ H x = AWS P n H0 K dst ρ H x' := by rw [h]
@[congr] theorem AWE_congr {x x' : Option Oper} (h : x = x') (full : Array Oper) (K : (Nat → AV) → Heap → Prop) (ρ : Nat → AV) (H : Heap) : AWE P n H0 full K ρ H x = AWE P n H0 full K ρ H x' := by rw [h]
section
variable {full : Array Oper} {K : (Nat → AV) → Heap → Prop} {dst : Option Tmp}
theorem AWE.op {op : Op} {ty : TypeId} {pos : String} {after : Array Edge} {x : Option Oper} (hx : x = some ⟨dst, op, ty, pos, after, none⟩) (h : AWS P n H0 K dst ρ H (astepV P op (evA ρ) H)) : AWE P n H0 full K ρ H x := by
  subst hx
  refine .inr ⟨rfl, ?_⟩
  simp only
  cases hv : astepV P op (evA ρ) H <;> rw [hv] at h <;> first | exact h | exact h.elim
@[simp] theorem AWS_val (v : AV) : AWS P n H0 K dst ρ H (.val v) = K (aput n dst v ρ) H := rfl
theorem AWS.alloc {cs : List AV} {T : TypeId} (h : ∀ b, H b = none → K (aput n dst (.sc (.pointer (some ⟨b, 0, none⟩))) ρ) (H.set b (.cells cs T))) : AWS P n H0 K dst ρ H (.alloc cs T) := h
theorem AWS.store {b off : Nat} {ds cs : List AV} {T : TypeId} (hb : H b = some (.cells cs T)) (hc : HC H0 (H.set b (.cells (lset cs off ds) T))) (h : K (aput n dst (.sc undef) ρ) (H.set b (.cells (lset cs off ds) T))) : AWS P n H0 K dst ρ H (.store b off ds) := ⟨cs, T, hb, hc, h⟩
end

def readyB (full : Array Oper) (d l : List Nat) : Bool := decide (Region.ready .any full (markL full.size d) = l) && decide (l ≠ []) && l.all (fun i => decide (i < full.size)) && decide (d.length < full.size)
def doneB (full : Array Oper) (d : List Nat) : Bool := decide (Region.ready .any full (markL full.size d) = []) && decide (d.length = full.size)
variable {J : (Nat → AV) → Heap → Prop}
theorem AWK.step {full : Array Oper} {d : List Nat} (l : List Nat) (hr : readyB full d l = true) (h : ∀ i ∈ l, AWE P n H0 full (AWK P n H0 J full (d ++ [i])) ρ H full[i]?) : AWK P n H0 J full d ρ H := by
  simp only [readyB, Bool.and_eq_true, decide_eq_true_eq] at hr
  obtain ⟨⟨⟨h1, h2⟩, h3⟩, h4⟩ := hr
  unfold AWK
  rw [show full.size - d.length = (full.size - (d.length + 1)) + 1 by omega]
  refine ⟨by rw [h1]; exact h2, fun i hi => ?_⟩
  rw [h1] at hi
  have hlt : i < full.size := by simpa using List.all_eq_true.1 h3 i hi
  refine ⟨hlt, full[i], Array.getElem?_eq_getElem hlt, .inr ?_⟩
  have := h i hi
  rw [Array.getElem?_eq_getElem hlt] at this
  unfold AWE AWK at this
  rw [markL_snoc, List.length_append, List.length_singleton] at this
  exact this
theorem AWK.one {l0 : List Oper} {d : List Nat} (i : Nat) (hr : readyB l0.toArray d [i] = true) (h : AWE P n H0 l0.toArray (AWK P n H0 J l0.toArray (d ++ [i])) ρ H l0[i]?) : AWK P n H0 J l0.toArray d ρ H :=
  AWK.step [i] hr fun j hj => by
    obtain rfl := List.mem_singleton.1 hj
    rw [List.getElem?_toArray]
    exact h
theorem AWK.two {l0 : List Oper} {d : List Nat} (i j : Nat) (hr : readyB l0.toArray d [i, j] = true) (h1 : AWE P n H0 l0.toArray (AWK P n H0 J l0.toArray (d ++ [i])) ρ H l0[i]?)
    (h2 : AWE P n H0 l0.toArray (AWK P n H0 J l0.toArray (d ++ [j])) ρ H l0[j]?) : AWK P n H0 J l0.toArray d ρ H :=
  AWK.step [i, j] hr fun q hq => by
    rw [List.getElem?_toArray]
    rcases List.mem_cons.1 hq with rfl | hq
    · exact h1
    · obtain rfl := List.mem_singleton.1 hq
      exact h2
theorem AWK.fin {full : Array Oper} {d : List Nat} (hr : doneB full d = true) (h : J ρ H) : AWK P n H0 J full d ρ H := by
  simp only [doneB, Bool.and_eq_true, decide_eq_true_eq] at hr
  unfold AWK
  rw [show full.size - d.length = 0 by omega]
  exact ⟨hr.1, h⟩
/-- The values of A first, then whatever order. -/
theorem go_draw3 {id : Nat} {l : List Oper} (A : List Nat) (H0 : Heap) (hmix : P.follows .mixedOrders = true) (hd : lexAB l.toArray A = true) (hc : HC H0 H)
    (h : AQ3 P n H0 l.toArray (fun r => AWK P n H0 (AGo P n Q k) l.toArray A r H) (picks l.toArray A) ρ) : AGo P n Q (.code (.region id l.toArray true) :: k) ρ H := by
  simp only [lexAB, Bool.and_eq_true, beq_iff_eq, decide_eq_true_eq] at hd
  exact .draw3 A _ H0 _ hmix hd.1 hd.2 hc h fun _ _ h => h
/-- The same, with what holds at the region's end told once. -/
theorem go_draw3J {id : Nat} {l : List Oper} (J : (Nat → AV) → Heap → Prop) (A : List Nat) (H0 : Heap) (hmix : P.follows .mixedOrders = true) (hd : lexAB l.toArray A = true) (hc : HC H0 H)
    (h : AQ3 P n H0 l.toArray (fun r => AWK P n H0 J l.toArray A r H) (picks l.toArray A) ρ) (h2 : ∀ ρ' H', J ρ' H' → AGo P n Q k ρ' H') : AGo P n Q (.code (.region id l.toArray true) :: k) ρ H := by
  simp only [lexAB, Bool.and_eq_true, beq_iff_eq, decide_eq_true_eq] at hd
  exact .draw3 A _ H0 _ hmix hd.1 hd.2 hc h h2
theorem HC.nothing {H : Heap} : HC (fun _ => none) H := fun b cs e => by simp [rd] at e
end Rg
