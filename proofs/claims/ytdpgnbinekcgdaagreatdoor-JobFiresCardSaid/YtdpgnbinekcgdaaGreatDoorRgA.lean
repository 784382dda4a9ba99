/- Abstract values and their reading in a world: slices that nobody writes are lists, structs are rows of cells, pointers lead to objects alone. -/
import Derived.WalkKit
import Derived.Still
namespace Rg
open Go Go.RowKit

/-- What is known of a slice's spare places. -/
inductive Tok where
  | no
  | nil
  | live
  | full
  | own (g cap sz : Nat) (T : TypeId)

/-- May the slice be nil? -/
def Tok.mayNil : Tok → Bool
  | .own _ _ _ _ | .live => false
  | _ => true

inductive AV where
  | sc (v : Value)
  | sl (xs : List AV) (t : Tok)
  | agg (cs : List AV)
  | tup (cs : List AV)
  | ip (cs : List AV) (o : Nat)

def AV.cells : AV → List AV
  | .agg cs => cs
  | v => [v]

/-- Is it a value of one cell? -/
def AV.one : AV → Bool
  | .sc x => x.oneCell'
  | .agg _ | .tup _ => false
  | _ => true

/-- The record of a range over a function: its state, the jump that a round has left by, the loop's left sides, their assignment, the body, the block for its deferred calls; the slots of the one who loops. -/
structure ARec where
  st : LoopState
  pe : Option Code
  ps : Array Tmp
  asg : Code
  bod : Code
  dfr : Nat
  n : Nat
  ρ : Nat → AV

inductive AObj where
  | cells (cs : List AV) (T : TypeId)
  | open (n cap sz : Nat) (T : TypeId)
  | ro (us : List Value)
  | dfr
  | lrec (r : ARec)

/-- The cells that may be read of it. -/
def rd : Option AObj → Option (List AV)
  | some (.cells cs _) => some cs
  | some (.ro us) => some (us.map .sc)
  | _ => none

abbrev Heap := Nat → Option AObj
abbrev Com := Nat → Nat → Option Value

def Heap.set (H : Heap) (b : Nat) (o : AObj) : Heap := fun k => if k = b then some o else H k
def Heap.del (H : Heap) (b : Nat) : Heap := fun k => if k = b then none else H k

def CLe (C C' : Com) : Prop := ∀ b o u, C b o = some u → C' b o = some u
theorem CLe.refl (C : Com) : CLe C C := fun _ _ _ h => h
theorem CLe.trans {A B C : Com} (h : CLe A B) (k : CLe B C) : CLe A C := fun b o u e => k b o u (h b o u e)

def TokOk (t : Tok) (b o n cap sz : Nat) : Prop :=
  match t with
  | .no => True
  | .live => True
  | .nil => False
  | .full => cap = n
  | .own g cap' sz' _ => g = b ∧ o = 0 ∧ cap' = cap ∧ sz' = sz

inductive RelL (C : Com) : List AV → List Value → Prop
  | nil : RelL C [] []
  | sc {as : List AV} {vs : List Value} (x : Value) : RelL C as vs → RelL C (.sc x :: as) (x :: vs)
  | agg {as cs : List AV} {vs us : List Value} : RelL C cs us → (∀ u ∈ us, u.oneCell' = true) → RelL C as vs → RelL C (.agg cs :: as) (.agg us.toArray :: vs)
  | tup {as cs : List AV} {vs us : List Value} : RelL C cs us → RelL C as vs → RelL C (.tup cs :: as) (.tuple us.toArray :: vs)
  | ip {as cs : List AV} {vs us : List Value} (b k o : Nat) : RelL C cs us → (∀ u ∈ us, u.oneCell' = true) → (∀ j u, us[j]? = some u → C b (k + j) = some u) → RelL C as vs →
      RelL C (.ip cs o :: as) (.pointer (some ⟨b, k + o, none⟩) :: vs)
  | nils {as : List AV} {vs : List Value} (t : Tok) : t.mayNil = true → RelL C as vs → RelL C (.sl [] t :: as) (.slice none 0 0 :: vs)
  | emp {as : List AV} {vs : List Value} (t : Tok) (a : Addr) (cap : Nat) : (t = .no ∨ t = .live ∨ (t = .full ∧ cap = 0)) → cap ≤ maxLen → RelL C as vs → RelL C (.sl [] t :: as) (.slice (some a) 0 cap :: vs)
  | sl {as xs : List AV} {vs us : List Value} (t : Tok) (b o cap sz : Nat) : RelL C (xs.flatMap AV.cells) us → (∀ x ∈ xs, x.cells.length = sz) → (∀ u ∈ us, u.oneCell' = true) →
      (∀ j u, us[j]? = some u → C b (o + j) = some u) → xs.length ≤ cap → cap ≤ maxLen → TokOk t b o xs.length cap sz → RelL C as vs →
      RelL C (.sl xs t :: as) (.slice (some ⟨b, o, none⟩) xs.length cap :: vs)

def Rel (C : Com) (a : AV) (v : Value) : Prop := RelL C [a] [v]

variable {C C' : Com}

theorem RelL.mono (hC : CLe C C') {as : List AV} {vs : List Value} (h : RelL C as vs) : RelL C' as vs := by
  induction h with
  | nil => exact .nil
  | sc x _ ih => exact .sc x ih
  | agg _ h1 _ ih1 ih2 => exact .agg ih1 h1 ih2
  | tup _ _ ih1 ih2 => exact .tup ih1 ih2
  | ip b k o _ h1 h2 _ ih1 ih2 => exact .ip b k o ih1 h1 (fun j u hu => hC _ _ _ (h2 j u hu)) ih2
  | nils t ht _ ih => exact .nils t ht ih
  | emp t a cap ht hm _ ih => exact .emp t a cap ht hm ih
  | sl t b o cap sz _ h1 h2 h3 h4 h5 h6 _ ih1 ih2 => exact .sl t b o cap sz ih1 h1 h2 (fun j u hu => hC _ _ _ (h3 j u hu)) h4 h5 h6 ih2

theorem Rel.mono (hC : CLe C C') {a : AV} {v : Value} (h : Rel C a v) : Rel C' a v := RelL.mono hC h

theorem RelL.length {as : List AV} {vs : List Value} (h : RelL C as vs) : as.length = vs.length := by
  induction h <;> simp_all

theorem RelL.cons {a : AV} {v : Value} {as : List AV} {vs : List Value} (h : Rel C a v) (k : RelL C as vs) : RelL C (a :: as) (v :: vs) := by
  unfold Rel at h
  cases h with
  | sc _ _ => exact .sc _ k
  | agg h1 h2 _ => exact .agg h1 h2 k
  | tup h1 _ => exact .tup h1 k
  | ip b k' o h1 h2 h3 _ => exact .ip b k' o h1 h2 h3 k
  | nils t ht _ => exact .nils t ht k
  | emp t a cap ht hm _ => exact .emp t a cap ht hm k
  | sl t b o cap sz h1 h2 h3 h4 h5 h6 h7 _ => exact .sl t b o cap sz h1 h2 h3 h4 h5 h6 h7 k

theorem RelL.uncons {a : AV} {as : List AV} {vs : List Value} (h : RelL C (a :: as) vs) : ∃ v vs', vs = v :: vs' ∧ Rel C a v ∧ RelL C as vs' := by
  cases h with
  | sc _ k => exact ⟨_, _, rfl, .sc _ .nil, k⟩
  | agg h1 h2 k => exact ⟨_, _, rfl, .agg h1 h2 .nil, k⟩
  | tup h1 k => exact ⟨_, _, rfl, .tup h1 .nil, k⟩
  | ip b k' o h1 h2 h3 k => exact ⟨_, _, rfl, .ip b k' o h1 h2 h3 .nil, k⟩
  | nils t ht k => exact ⟨_, _, rfl, .nils t ht .nil, k⟩
  | emp t a cap ht hm k => exact ⟨_, _, rfl, .emp t a cap ht hm .nil, k⟩
  | sl t b o cap sz h1 h2 h3 h4 h5 h6 h7 k => exact ⟨_, _, rfl, .sl t b o cap sz h1 h2 h3 h4 h5 h6 h7 .nil, k⟩

theorem RelL.nil_inv {vs : List Value} (h : RelL C [] vs) : vs = [] := by cases h; rfl

theorem RelL.append {as bs : List AV} {vs us : List Value} (h : RelL C as vs) (k : RelL C bs us) : RelL C (as ++ bs) (vs ++ us) := by
  induction as generalizing vs with
  | nil => cases h; exact k
  | cons a as ih =>
    obtain ⟨v, vs', rfl, hv, hr⟩ := h.uncons
    exact RelL.cons hv (ih hr)

theorem RelL.split {as bs : List AV} {vs : List Value} (h : RelL C (as ++ bs) vs) : ∃ us ws, vs = us ++ ws ∧ RelL C as us ∧ RelL C bs ws := by
  induction as generalizing vs with
  | nil => exact ⟨[], vs, rfl, .nil, h⟩
  | cons a as ih =>
    obtain ⟨v, vs', rfl, hv, hr⟩ := RelL.uncons h
    obtain ⟨us, ws, rfl, h1, h2⟩ := ih hr
    exact ⟨v :: us, ws, rfl, RelL.cons hv h1, h2⟩

theorem RelL.get {as : List AV} {vs : List Value} (h : RelL C as vs) {i : Nat} {a : AV} (ha : as[i]? = some a) : ∃ v, vs[i]? = some v ∧ Rel C a v := by
  induction as generalizing vs i with
  | nil => simp at ha
  | cons x as ih =>
    obtain ⟨v, vs', rfl, hv, hr⟩ := RelL.uncons h
    cases i with
    | zero => simp at ha; subst ha; exact ⟨v, by simp, hv⟩
    | succ i => simp at ha; simpa using ih hr ha

theorem RelL.getNone {as : List AV} {vs : List Value} (h : RelL C as vs) {i : Nat} (ha : as[i]? = none) : vs[i]? = none := by
  have := h.length
  simp at ha ⊢
  omega

theorem RelL.set {as : List AV} {vs : List Value} (h : RelL C as vs) {i : Nat} {a : AV} {v : Value} (hv : Rel C a v) : RelL C (as.set i a) (vs.set i v) := by
  induction as generalizing vs i with
  | nil => cases h; exact .nil
  | cons x as ih =>
    obtain ⟨u, vs', rfl, hu, hr⟩ := RelL.uncons h
    cases i with
    | zero => exact RelL.cons hv hr
    | succ i => exact RelL.cons hu (ih hr)

theorem RelL.take {as : List AV} {vs : List Value} (h : RelL C as vs) (n : Nat) : RelL C (as.take n) (vs.take n) := by
  induction as generalizing vs n with
  | nil => cases h; simpa using RelL.nil
  | cons x as ih =>
    obtain ⟨u, vs', rfl, hu, hr⟩ := RelL.uncons h
    cases n with
    | zero => exact .nil
    | succ n => exact RelL.cons hu (ih hr n)

theorem RelL.drop {as : List AV} {vs : List Value} (h : RelL C as vs) (n : Nat) : RelL C (as.drop n) (vs.drop n) := by
  induction as generalizing vs n with
  | nil => cases h; simpa using RelL.nil
  | cons x as ih =>
    obtain ⟨u, vs', rfl, hu, hr⟩ := RelL.uncons h
    cases n with
    | zero => exact RelL.cons hu hr
    | succ n => simpa using ih hr n

theorem Rel.sc (x : Value) : Rel C (.sc x) x := RelL.sc x .nil
theorem Rel.sc_inv {x v : Value} (h : Rel C (.sc x) v) : v = x := by unfold Rel at h; cases h; rfl
theorem Rel.agg_inv {cs : List AV} {v : Value} (h : Rel C (.agg cs) v) : ∃ us : List Value, v = .agg us.toArray ∧ RelL C cs us ∧ ∀ u ∈ us, u.oneCell' = true := by
  unfold Rel at h; cases h with | agg h1 h2 _ => exact ⟨_, rfl, h1, h2⟩
theorem Rel.tup_inv {cs : List AV} {v : Value} (h : Rel C (.tup cs) v) : ∃ us : List Value, v = .tuple us.toArray ∧ RelL C cs us := by
  unfold Rel at h; cases h with | tup h1 _ => exact ⟨_, rfl, h1⟩

/-- The cells of a value. -/
theorem Rel.cells {a : AV} {v : Value} (h : Rel C a v) (hnt : ∀ cs, a ≠ .tup cs) (ha : ∀ x, a = .sc x → x.oneCell' = true) : RelL C a.cells v.cells.toList ∧ ∀ u ∈ v.cells.toList, u.oneCell' = true := by
  cases a with
  | sc x =>
    obtain rfl := h.sc_inv
    have h1 := ha v rfl
    cases v <;> simp [Value.oneCell'] at h1 <;> simp [Value.cells, AV.cells, Value.oneCell'] <;> exact .sc _ .nil
  | agg cs =>
    obtain ⟨us, rfl, h1, h2⟩ := h.agg_inv
    exact ⟨by simpa [Value.cells, AV.cells] using h1, by simpa [Value.cells] using h2⟩
  | tup cs => exact absurd rfl (hnt cs)
  | sl xs t =>
    unfold Rel at h
    have hk := h
    cases h <;> simp [Value.cells, AV.cells, Value.oneCell'] <;> exact hk
  | ip cs o =>
    unfold Rel at h
    have hk := h
    cases h; simp [Value.cells, AV.cells, Value.oneCell']; exact hk

theorem Rel.one {a : AV} {v : Value} (h : Rel C a v) (ha : a.one = true) : v.oneCell' = true := by
  cases a with
  | sc x => obtain rfl := h.sc_inv; exact ha
  | agg cs => simp [AV.one] at ha
  | tup cs => simp [AV.one] at ha
  | sl xs t => unfold Rel at h; cases h <;> rfl
  | ip cs o => unfold Rel at h; cases h; rfl

theorem RelL.one {as : List AV} {vs : List Value} (h : RelL C as vs) (ha : as.all AV.one = true) : ∀ v ∈ vs, v.oneCell' = true := by
  induction as generalizing vs with
  | nil => cases h; simp
  | cons a as ih =>
    obtain ⟨v, vs', rfl, hv, hr⟩ := RelL.uncons h
    simp at ha
    intro u hu
    rcases List.mem_cons.1 hu with rfl | hu
    · exact hv.one ha.1
    · exact ih hr (by simpa using ha.2) u hu

/-- Of a slice one forgets what its spare places are. -/
theorem Rel.forget {xs : List AV} {t : Tok} {v : Value} (h : Rel C (.sl xs t) v) : Rel C (.sl xs .no) v := by
  unfold Rel at h ⊢
  cases h with
  | nils t ht k => exact .nils _ rfl k
  | emp t a cap ht hm k => exact .emp _ a cap (.inl rfl) hm k
  | sl t b o cap sz h1 h2 h3 h4 h5 h6 h7 k => exact .sl _ b o cap sz h1 h2 h3 h4 h5 h6 trivial k

/-- A slice of which nothing is known is nil, or it is not. -/
theorem Rel.nilCase {xs : List AV} {v : Value} (h : Rel C (.sl xs .no) v) : (xs = [] ∧ Rel C (.sl [] .nil) v) ∨ Rel C (.sl xs .live) v := by
  unfold Rel at *
  cases h with
  | nils t ht k => exact .inl ⟨rfl, .nils _ rfl k⟩
  | emp t a cap ht hm k => exact .inr (.emp _ a cap (.inr (.inl rfl)) hm k)
  | sl t b o cap sz h1 h2 h3 h4 h5 h6 h7 k => exact .inr (.sl _ b o cap sz h1 h2 h3 h4 h5 h6 trivial k)

/-- What every slice's value is like. -/
theorem Rel.sl_form {xs : List AV} {t : Tok} {v : Value} (h : Rel C (.sl xs t) v) : ∃ a cap, v = .slice a xs.length cap ∧ xs.length ≤ cap ∧ cap ≤ maxLen := by
  unfold Rel at h
  cases h with
  | nils t ht k => exact ⟨_, _, rfl, by simp, by simp [maxLen]⟩
  | emp t a cap ht hm k => exact ⟨_, _, rfl, by simp, hm⟩
  | sl t b o cap sz h1 h2 h3 h4 h5 h6 h7 k => exact ⟨_, _, rfl, h5, h6⟩

/-! ### Worlds -/

def ObjOk (C : Com) (w : World) (b : Nat) : AObj → Prop
  | .cells cs T => ∃ vs : List Value, w.heap[b]? = some (.cells vs.toArray T (0, 0)) ∧ RelL C cs vs ∧ (∀ v ∈ vs, v.oneCell' = true) ∧ ∀ o, C b o = none
  | .open n cap sz T => ∃ cur : Array Value, w.heap[b]? = some (.cells cur T (0, 0)) ∧ cur.size = cap * sz ∧ n ≤ cap ∧ cap ≤ maxLen ∧ ∀ o, n * sz ≤ o → C b o = none
  | .ro us => b < w.heap.size ∧ (∀ u ∈ us, u.oneCell' = true) ∧ ∀ j u, us[j]? = some u → C b j = some u
  | .dfr => w.heap[b]? = some (.deferred (some [])) ∧ ∀ o, C b o = none
  | .lrec r => ∃ (fn : FuncId) (tmps : Array Value), w.heap[b]? = some (.loop { state := r.st, pending := r.pe, fn, tmps, params := r.ps, assign := r.asg, body := r.bod, defers := r.dfr }) ∧ tmps.size = r.n ∧
      (∀ i, Rel C (r.ρ i) (tmps.getD i undef)) ∧ ∀ o, C b o = none

/-- Is it the call's own memory? -/
def AObj.base (W0 : World) (b : Nat) : AObj → Prop
  | .ro _ => True
  | .cells _ _ | .open _ _ _ _ | .dfr | .lrec _ => W0.heap.size ≤ b

structure Inv (W0 : World) (C : Com) (H : Heap) (w : World) : Prop where
  below : Below W0.heap.size W0 w
  com : ∀ b o u, C b o = some u → w.cell? ⟨b, o, none⟩ = some u
  obj : ∀ b ob, H b = some ob → ob.base W0 b ∧ ObjOk C w b ob

theorem ObjOk.lt {w : World} {b : Nat} {ob : AObj} (h : ObjOk C w b ob) : b < w.heap.size := by
  cases ob with
  | cells cs T => obtain ⟨vs, h1, _⟩ := h; exact (Array.getElem?_eq_some_iff.1 h1).1
  | «open» n cap sz T => obtain ⟨cur, h1, _⟩ := h; exact (Array.getElem?_eq_some_iff.1 h1).1
  | ro us => exact h.1
  | dfr => exact (Array.getElem?_eq_some_iff.1 h.1).1
  | lrec r => obtain ⟨fn, tmps, h1, _⟩ := h; exact (Array.getElem?_eq_some_iff.1 h1).1

theorem com_lt {W0 w : World} {H : Heap} (h : Inv W0 C H w) {b o : Nat} {u : Value} (hc : C b o = some u) : b < w.heap.size := by
  have := h.com b o u hc
  unfold World.cell? at this
  simp only at this
  rcases Nat.lt_or_ge b w.heap.size with h1 | h1
  · exact h1
  · simp [Array.getElem?_eq_none h1] at this

/-- Objects may be forgotten. -/
def HLe (H0 H : Heap) : Prop := ∀ b ob, H0 b = some ob → H b = some ob
theorem HLe.refl (H : Heap) : HLe H H := fun _ _ h => h
theorem HLe.trans {A B D : Heap} (h : HLe A B) (k : HLe B D) : HLe A D := fun b ob e => k b ob (h b ob e)

theorem Inv.weaken {W0 w : World} {H H0 : Heap} (h : Inv W0 C H w) (hl : HLe H0 H) : Inv W0 C H0 w :=
  ⟨h.below, h.com, fun b ob e => h.obj b ob (hl b ob e)⟩

theorem HLe.set_fresh {H : Heap} {b : Nat} {o : AObj} (hb : H b = none) : HLe H (H.set b o) := fun k ob e => by
  unfold Heap.set
  by_cases hk : k = b
  · subst hk; rw [hb] at e; cases e
  · rw [if_neg hk]; exact e

theorem HLe.set_mono {H K : Heap} {b : Nat} {o : AObj} (h : HLe H K) : HLe (H.set b o) (K.set b o) := fun k ob e => by
  unfold Heap.set at *
  by_cases hk : k = b
  · rw [if_pos hk] at *; exact e
  · rw [if_neg hk] at *; exact h k ob e

/-! ### New blocks and draws -/

theorem hao (w : World) (ob : Obj) (b : Nat) (h : b < w.heap.size) : (w.alloc ob).heap[b]? = w.heap[b]? := by
  show (w.heap.push ob)[b]? = w.heap[b]?
  rw [Array.getElem?_push, if_neg (Nat.ne_of_lt h)]


theorem cell_alloc_old {w : World} {ob : Obj} {b o : Nat} {u : Value} (h : w.cell? ⟨b, o, none⟩ = some u) : (w.alloc ob).cell? ⟨b, o, none⟩ = some u := by
  have hlt := World.block_lt_of_cell? w _ h
  rw [World.cell?_of_block (w := w) (a := ⟨b, o, none⟩) (hao w ob b hlt)]
  exact h

theorem ObjOk.heap {w w' : World} {b : Nat} {ob : AObj} (h : ObjOk C w b ob) (e : w'.heap[b]? = w.heap[b]?) : ObjOk C w' b ob := by
  cases ob with
  | ro us => exact ⟨by
      have h1 := h.1
      rw [Array.getElem?_eq_getElem h1] at e
      exact (Array.getElem?_eq_some_iff.1 e).1, h.2⟩
  | cells cs T => obtain ⟨vs, h1, h2⟩ := h; exact ⟨vs, e.trans h1, h2⟩
  | «open» n cap sz T => obtain ⟨cur, h1, h2⟩ := h; exact ⟨cur, e.trans h1, h2⟩
  | dfr => exact ⟨e.trans h.1, h.2⟩
  | lrec r => obtain ⟨fn, tmps, h1, h2⟩ := h; exact ⟨fn, tmps, e.trans h1, h2⟩

/-- More is committed, elsewhere. -/
theorem ObjOk.com {w : World} {b : Nat} {ob : AObj} (h : ObjOk C w b ob) (hC : CLe C C') (e : ∀ o, C b o = none → C' b o = none) : ObjOk C' w b ob := by
  cases ob with
  | ro us => exact ⟨h.1, h.2.1, fun j u hu => hC _ _ _ (h.2.2 j u hu)⟩
  | cells cs T => obtain ⟨vs, h1, h2, h3, h4⟩ := h; exact ⟨vs, h1, h2.mono hC, h3, fun o => e o (h4 o)⟩
  | «open» n cap sz T => obtain ⟨cur, h1, h2, h3, h4, h5⟩ := h; exact ⟨cur, h1, h2, h3, h4, fun o ho => e o (h5 o ho)⟩
  | dfr => exact ⟨h.1, fun o => e o (h.2 o)⟩
  | lrec r => obtain ⟨fn, tmps, h1, h2, h3, h4⟩ := h; exact ⟨fn, tmps, h1, h2, fun i => (h3 i).mono hC, fun o => e o (h4 o)⟩

theorem Inv.draw {W0 w : World} {H : Heap} (h : Inv W0 C H w) : Inv W0 C H w.drew :=
  ⟨h.below.drew, fun b o u e => h.com b o u e, fun b ob e => ⟨(h.obj b ob e).1, (h.obj b ob e).2.heap rfl⟩⟩

theorem size_of_below {W0 w : World} (h : Below W0.heap.size W0 w) : W0.heap.size ≤ w.heap.size := h.size

/-- A new block that nobody is told of. -/
theorem Inv.alloc {W0 w : World} {H : Heap} (h : Inv W0 C H w) (ob : Obj) : Inv W0 C H (w.alloc ob) :=
  ⟨h.below.alloc h.below.size ob, fun b o u e => cell_alloc_old (h.com b o u e), fun b o e => ⟨(h.obj b o e).1, (h.obj b o e).2.heap (hao w ob b (h.obj b o e).2.lt)⟩⟩

/-- New committed cells in a block of which nothing was committed. -/
def commit (C : Com) (b : Nat) (o : Nat) (us : List Value) : Com := fun b' o' => if b' = b ∧ o ≤ o' ∧ o' < o + us.length then us[o' - o]? else C b' o'

theorem commit_at {b o : Nat} {us : List Value} {j : Nat} {u : Value} (h : us[j]? = some u) : commit C b o us b (o + j) = some u := by
  have hj := (List.getElem?_eq_some_iff.1 h).1
  unfold commit
  rw [if_pos ⟨rfl, by omega, by omega⟩]
  simpa using h

theorem commit_le {b o : Nat} {us : List Value} (h : ∀ k, o ≤ k → k < o + us.length → C b k = none) : CLe C (commit C b o us) := by
  intro b' o' u e
  unfold commit
  by_cases hb : b' = b ∧ o ≤ o' ∧ o' < o + us.length
  · obtain ⟨rfl, h1, h2⟩ := hb
    rw [h o' h1 h2] at e; cases e
  · rw [if_neg hb]; exact e

theorem commit_inv {b o b' o' : Nat} {us : List Value} {u : Value} (h : commit C b o us b' o' = some u) : (b' = b ∧ o ≤ o' ∧ us[o' - o]? = some u) ∨ C b' o' = some u := by
  unfold commit at h
  by_cases hb : b' = b ∧ o ≤ o' ∧ o' < o + us.length
  · rw [if_pos hb] at h; exact .inl ⟨hb.1, hb.2.1, h⟩
  · rw [if_neg hb] at h; exact .inr h

theorem commit_other {b o b' o' : Nat} {us : List Value} (h : b' ≠ b) : commit C b o us b' o' = C b' o' := by
  unfold commit; rw [if_neg (fun e => h e.1)]

theorem Inv.fresh {W0 w : World} {H : Heap} (h : Inv W0 C H w) (o : Nat) : C w.heap.size o = none := by
  cases hc : C w.heap.size o with
  | none => rfl
  | some u => exact absurd (com_lt h hc) (Nat.lt_irrefl _)

theorem Inv.heap_fresh {W0 w : World} {H : Heap} (h : Inv W0 C H w) : H w.heap.size = none := by
  cases hc : H w.heap.size with
  | none => rfl
  | some u => exact absurd (h.obj _ _ hc).2.lt (Nat.lt_irrefl _)

theorem cell_alloc_new (w : World) (cs : Array Value) (T : TypeId) (fr : Nat × Nat) (j : Nat) : (w.alloc (.cells cs T fr)).cell? ⟨w.heap.size, j, none⟩ = cs[j]? :=
  cell_of_row _ _ _ _ T fr (heap_alloc_new w _)

/-- A new block whose cells are committed at once. -/
theorem Inv.allocCom {W0 w : World} {H : Heap} (h : Inv W0 C H w) (us : List Value) (rest : List Value) (T : TypeId) (fr : Nat × Nat) :
    Inv W0 (commit C w.heap.size 0 us) H (w.alloc (.cells (us ++ rest).toArray T fr)) ∧ CLe C (commit C w.heap.size 0 us) := by
  have hle : CLe C (commit C w.heap.size 0 us) := commit_le fun k _ _ => h.fresh k
  refine ⟨⟨h.below.alloc h.below.size _, ?_, ?_⟩, hle⟩
  · intro b o u e
    rcases commit_inv e with ⟨rfl, _, hu⟩ | hc
    · rw [cell_alloc_new]
      have hlt := (List.getElem?_eq_some_iff.1 hu).1
      simp at hu hlt
      simp [List.getElem?_append_left hlt, hu]
    · exact cell_alloc_old (h.com b o u hc)
  · intro b ob e
    have hlt := (h.obj b ob e).2.lt
    refine ⟨(h.obj b ob e).1, ((h.obj b ob e).2.heap (hao w _ b hlt)).com hle fun o ho => ?_⟩
    rw [commit_other (by omega)]; exact ho

/-- A new object. -/
theorem Inv.allocObj {W0 w : World} {H : Heap} (h : Inv W0 C H w) (cs : List AV) (vs : List Value) (T : TypeId) (hr : RelL C cs vs) (h1 : ∀ v ∈ vs, v.oneCell' = true) :
    Inv W0 C (H.set w.heap.size (.cells cs T)) (w.alloc (.cells vs.toArray T)) := by
  have ha := h.alloc (.cells vs.toArray T)
  refine ⟨ha.below, ha.com, fun b ob e => ?_⟩
  unfold Heap.set at e
  by_cases hb : b = w.heap.size
  · rw [if_pos hb] at e
    cases e; subst hb
    exact ⟨h.below.size, vs, heap_alloc_new w _, hr, h1, h.fresh⟩
  · rw [if_neg hb] at e
    exact ha.obj b ob e

/-- A new block of which a beginning is committed and the rest is the call's own. -/
theorem Inv.allocOpen {W0 w : World} {H : Heap} (h : Inv W0 C H w) (us rest : List Value) (T : TypeId) (n cap sz : Nat) (hn : us.length = n * sz) (hs : (us ++ rest).length = cap * sz) (hc : n ≤ cap) (hm : cap ≤ maxLen) :
    Inv W0 (commit C w.heap.size 0 us) (H.set w.heap.size (.open n cap sz T)) (w.alloc (.cells (us ++ rest).toArray T)) ∧ CLe C (commit C w.heap.size 0 us) := by
  obtain ⟨ha, hle⟩ := h.allocCom us rest T (0, 0)
  refine ⟨⟨ha.below, ha.com, fun b ob e => ?_⟩, hle⟩
  unfold Heap.set at e
  by_cases hb : b = w.heap.size
  · rw [if_pos hb] at e
    cases e; subst hb
    refine ⟨h.below.size, (us ++ rest).toArray, heap_alloc_new w _, by simpa using hs, hc, hm, fun o ho => ?_⟩
    cases hcc : commit C w.heap.size 0 us w.heap.size o with
    | none => rfl
    | some u =>
      rcases commit_inv hcc with ⟨_, _, hu⟩ | hu
      · have := (List.getElem?_eq_some_iff.1 hu).1; omega
      · rw [h.fresh] at hu; cases hu
  · rw [if_neg hb] at e
    exact ha.obj b ob e

end Rg
