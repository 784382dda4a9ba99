/- Abstract values and their reading in a world: slices that nobody writes are lists, structs are rows of cells, pointers lead to objects alone. What one operation does to abstract values. -/
import Derived.WalkKit
import Derived.Still
set_option linter.unusedSimpArgs false
set_option linter.unusedVariables false
set_option linter.unnecessarySimpa false
namespace Rg
open Go Go.RowKit
inductive Tok where
  | no
  | nil
  | live
  | full
  | own (g cap sz : Nat) (T : TypeId)
def Tok.mayNil : Tok → Bool
  | .own _ _ _ _ | .live => false
  | _ => true
inductive AV where
  | sc (v : Value)
  | sl (xs : List AV) (t : Tok)
  | agg (cs : List AV)
  | tup (cs : List AV)
  | ip (cs : List AV) (o : Nat)
def AV.cells : AV → List AV
  | .agg cs => cs
  | v => [v]
def AV.one : AV → Bool
  | .sc x => x.oneCell'
  | .agg _ | .tup _ => false
  | _ => true
structure ARec where
  st : LoopState
  pe : Option Code
  ps : Array Tmp
  asg : Code
  bod : Code
  dfr : Nat
  n : Nat
  ρ : Nat → AV
inductive AObj where
  | cells (cs : List AV) (T : TypeId)
  | open (n cap sz : Nat) (T : TypeId)
  | ro (us : List Value)
  | dfr
  | lrec (r : ARec)
  | map (es : List (AV × AV × Nat)) (ck : Nat)
  | iter (m : Option Nat) (since : Nat) (seen : List Nat) (last : Nat)
def rd : Option AObj → Option (List AV)
  | some (.cells cs _) => some cs
  | some (.ro us) => some (us.map .sc)
  | _ => none
abbrev Heap := Nat → Option AObj
abbrev Com := Nat → Nat → Option Value
def Heap.set (H : Heap) (b : Nat) (o : AObj) : Heap := fun k => if k = b then some o else H k
def Heap.del (H : Heap) (b : Nat) : Heap := fun k => if k = b then none else H k
def CLe (C C' : Com) : Prop := ∀ b o u, C b o = some u → C' b o = some u
theorem CLe.refl (C : Com) : CLe C C := fun _ _ _ h => h
theorem CLe.trans {A B C : Com} (h : CLe A B) (k : CLe B C) : CLe A C := fun b o u e => k b o u (h b o u e)
def TokOk (t : Tok) (b o n cap sz : Nat) : Prop :=
  match t with
  | .no => True
  | .live => True
  | .nil => False
  | .full => cap = n
  | .own g cap' sz' _ => g = b ∧ o = 0 ∧ cap' = cap ∧ sz' = sz
inductive RelL (C : Com) : List AV → List Value → Prop
  | nil : RelL C [] []
  | sc {as : List AV} {vs : List Value} (x : Value) : RelL C as vs → RelL C (.sc x :: as) (x :: vs)
  | agg {as cs : List AV} {vs us : List Value} : RelL C cs us → (∀ u ∈ us, u.oneCell' = true) → RelL C as vs → RelL C (.agg cs :: as) (.agg us.toArray :: vs)
  | tup {as cs : List AV} {vs us : List Value} : RelL C cs us → RelL C as vs → RelL C (.tup cs :: as) (.tuple us.toArray :: vs)
  | ip {as cs : List AV} {vs us : List Value} (b k o : Nat) : RelL C cs us → (∀ u ∈ us, u.oneCell' = true) → (∀ j u, us[j]? = some u → C b (k + j) = some u) → RelL C as vs →
      RelL C (.ip cs o :: as) (.pointer (some ⟨b, k + o, none⟩) :: vs)
  | nils {as : List AV} {vs : List Value} (t : Tok) : t.mayNil = true → RelL C as vs → RelL C (.sl [] t :: as) (.slice none 0 0 :: vs)
  | emp {as : List AV} {vs : List Value} (t : Tok) (a : Addr) (cap : Nat) : (t = .no ∨ t = .live ∨ (t = .full ∧ cap = 0)) → cap ≤ maxLen → RelL C as vs → RelL C (.sl [] t :: as) (.slice (some a) 0 cap :: vs)
  | sl {as xs : List AV} {vs us : List Value} (t : Tok) (b o cap sz : Nat) : RelL C (xs.flatMap AV.cells) us → (∀ x ∈ xs, x.cells.length = sz) → (∀ u ∈ us, u.oneCell' = true) →
      (∀ j u, us[j]? = some u → C b (o + j) = some u) → xs.length ≤ cap → cap ≤ maxLen → TokOk t b o xs.length cap sz → RelL C as vs →
      RelL C (.sl xs t :: as) (.slice (some ⟨b, o, none⟩) xs.length cap :: vs)
def Rel (C : Com) (a : AV) (v : Value) : Prop := RelL C [a] [v]
variable {C C' : Com}
theorem RelL.mono (hC : CLe C C') {as : List AV} {vs : List Value} (h : RelL C as vs) : RelL C' as vs := by
  induction h with
  | nil => exact .nil
  | sc x _ ih => exact .sc x ih
  | agg _ h1 _ ih1 ih2 => exact .agg ih1 h1 ih2
  | tup _ _ ih1 ih2 => exact .tup ih1 ih2
  | ip b k o _ h1 h2 _ ih1 ih2 => exact .ip b k o ih1 h1 (fun j u hu => hC _ _ _ (h2 j u hu)) ih2
  | nils t ht _ ih => exact .nils t ht ih
  | emp t a cap ht hm _ ih => exact .emp t a cap ht hm ih
  | sl t b o cap sz _ h1 h2 h3 h4 h5 h6 _ ih1 ih2 => exact .sl t b o cap sz ih1 h1 h2 (fun j u hu => hC _ _ _ (h3 j u hu)) h4 h5 h6 ih2
theorem Rel.mono (hC : CLe C C') {a : AV} {v : Value} (h : Rel C a v) : Rel C' a v := RelL.mono hC h
theorem RelL.length {as : List AV} {vs : List Value} (h : RelL C as vs) : as.length = vs.length := by
  induction h <;> simp_all
theorem RelL.cons {a : AV} {v : Value} {as : List AV} {vs : List Value} (h : Rel C a v) (k : RelL C as vs) : RelL C (a :: as) (v :: vs) := by
  unfold Rel at h
  cases h with
  | sc _ _ => exact .sc _ k
  | agg h1 h2 _ => exact .agg h1 h2 k
  | tup h1 _ => exact .tup h1 k
  | ip b k' o h1 h2 h3 _ => exact .ip b k' o h1 h2 h3 k
  | nils t ht _ => exact .nils t ht k
  | emp t a cap ht hm _ => exact .emp t a cap ht hm k
  | sl t b o cap sz h1 h2 h3 h4 h5 h6 h7 _ => exact .sl t b o cap sz h1 h2 h3 h4 h5 h6 h7 k
theorem RelL.uncons {a : AV} {as : List AV} {vs : List Value} (h : RelL C (a :: as) vs) : ∃ v vs', vs = v :: vs' ∧ Rel C a v ∧ RelL C as vs' := by
  cases h with
  | sc _ k => exact ⟨_, _, rfl, .sc _ .nil, k⟩
  | agg h1 h2 k => exact ⟨_, _, rfl, .agg h1 h2 .nil, k⟩
  | tup h1 k => exact ⟨_, _, rfl, .tup h1 .nil, k⟩
  | ip b k' o h1 h2 h3 k => exact ⟨_, _, rfl, .ip b k' o h1 h2 h3 .nil, k⟩
  | nils t ht k => exact ⟨_, _, rfl, .nils t ht .nil, k⟩
  | emp t a cap ht hm k => exact ⟨_, _, rfl, .emp t a cap ht hm .nil, k⟩
  | sl t b o cap sz h1 h2 h3 h4 h5 h6 h7 k => exact ⟨_, _, rfl, .sl t b o cap sz h1 h2 h3 h4 h5 h6 h7 .nil, k⟩
theorem RelL.nil_inv {vs : List Value} (h : RelL C [] vs) : vs = [] := by cases h; rfl
theorem RelL.append {as bs : List AV} {vs us : List Value} (h : RelL C as vs) (k : RelL C bs us) : RelL C (as ++ bs) (vs ++ us) := by
  induction as generalizing vs with
  | nil => cases h; exact k
  | cons a as ih =>
    obtain ⟨v, vs', rfl, hv, hr⟩ := h.uncons
    exact RelL.cons hv (ih hr)
theorem RelL.split {as bs : List AV} {vs : List Value} (h : RelL C (as ++ bs) vs) : ∃ us ws, vs = us ++ ws ∧ RelL C as us ∧ RelL C bs ws := by
  induction as generalizing vs with
  | nil => exact ⟨[], vs, rfl, .nil, h⟩
  | cons a as ih =>
    obtain ⟨v, vs', rfl, hv, hr⟩ := RelL.uncons h
    obtain ⟨us, ws, rfl, h1, h2⟩ := ih hr
    exact ⟨v :: us, ws, rfl, RelL.cons hv h1, h2⟩
theorem RelL.get {as : List AV} {vs : List Value} (h : RelL C as vs) {i : Nat} {a : AV} (ha : as[i]? = some a) : ∃ v, vs[i]? = some v ∧ Rel C a v := by
  induction as generalizing vs i with
  | nil => simp at ha
  | cons x as ih =>
    obtain ⟨v, vs', rfl, hv, hr⟩ := RelL.uncons h
    cases i with
    | zero => simp at ha; subst ha; exact ⟨v, by simp, hv⟩
    | succ i => simp at ha; simpa using ih hr ha
theorem RelL.set {as : List AV} {vs : List Value} (h : RelL C as vs) {i : Nat} {a : AV} {v : Value} (hv : Rel C a v) : RelL C (as.set i a) (vs.set i v) := by
  induction as generalizing vs i with
  | nil => cases h; exact .nil
  | cons x as ih =>
    obtain ⟨u, vs', rfl, hu, hr⟩ := RelL.uncons h
    cases i with
    | zero => exact RelL.cons hv hr
    | succ i => exact RelL.cons hu (ih hr)
theorem RelL.take {as : List AV} {vs : List Value} (h : RelL C as vs) (n : Nat) : RelL C (as.take n) (vs.take n) := by
  induction as generalizing vs n with
  | nil => cases h; simpa using RelL.nil
  | cons x as ih =>
    obtain ⟨u, vs', rfl, hu, hr⟩ := RelL.uncons h
    cases n with
    | zero => exact .nil
    | succ n => exact RelL.cons hu (ih hr n)
theorem RelL.drop {as : List AV} {vs : List Value} (h : RelL C as vs) (n : Nat) : RelL C (as.drop n) (vs.drop n) := by
  induction as generalizing vs n with
  | nil => cases h; simpa using RelL.nil
  | cons x as ih =>
    obtain ⟨u, vs', rfl, hu, hr⟩ := RelL.uncons h
    cases n with
    | zero => exact RelL.cons hu hr
    | succ n => simpa using ih hr n
theorem Rel.sc (x : Value) : Rel C (.sc x) x := RelL.sc x .nil
theorem Rel.sc_inv {x v : Value} (h : Rel C (.sc x) v) : v = x := by unfold Rel at h; cases h; rfl
theorem Rel.agg_inv {cs : List AV} {v : Value} (h : Rel C (.agg cs) v) : ∃ us : List Value, v = .agg us.toArray ∧ RelL C cs us ∧ ∀ u ∈ us, u.oneCell' = true := by
  unfold Rel at h; cases h with | agg h1 h2 _ => exact ⟨_, rfl, h1, h2⟩
theorem Rel.tup_inv {cs : List AV} {v : Value} (h : Rel C (.tup cs) v) : ∃ us : List Value, v = .tuple us.toArray ∧ RelL C cs us := by
  unfold Rel at h; cases h with | tup h1 _ => exact ⟨_, rfl, h1⟩
theorem Rel.cells {a : AV} {v : Value} (h : Rel C a v) (hnt : ∀ cs, a ≠ .tup cs) (ha : ∀ x, a = .sc x → x.oneCell' = true) : RelL C a.cells v.cells.toList ∧ ∀ u ∈ v.cells.toList, u.oneCell' = true := by
  cases a with
  | sc x =>
    obtain rfl := h.sc_inv
    have h1 := ha v rfl
    cases v <;> simp [Value.oneCell'] at h1 <;> simp [Value.cells, AV.cells, Value.oneCell'] <;> exact .sc _ .nil
  | agg cs =>
    obtain ⟨us, rfl, h1, h2⟩ := h.agg_inv
    exact ⟨by simpa [Value.cells, AV.cells] using h1, by simpa [Value.cells] using h2⟩
  | tup cs => exact absurd rfl (hnt cs)
  | sl xs t =>
    unfold Rel at h
    have hk := h
    cases h <;> simp [Value.cells, AV.cells, Value.oneCell'] <;> exact hk
  | ip cs o =>
    unfold Rel at h
    have hk := h
    cases h; simp [Value.cells, AV.cells, Value.oneCell']; exact hk
theorem Rel.one {a : AV} {v : Value} (h : Rel C a v) (ha : a.one = true) : v.oneCell' = true := by
  cases a with
  | sc x => obtain rfl := h.sc_inv; exact ha
  | agg cs => simp [AV.one] at ha
  | tup cs => simp [AV.one] at ha
  | sl xs t => unfold Rel at h; cases h <;> rfl
  | ip cs o => unfold Rel at h; cases h; rfl
theorem RelL.one {as : List AV} {vs : List Value} (h : RelL C as vs) (ha : as.all AV.one = true) : ∀ v ∈ vs, v.oneCell' = true := by
  induction as generalizing vs with
  | nil => cases h; simp
  | cons a as ih =>
    obtain ⟨v, vs', rfl, hv, hr⟩ := RelL.uncons h
    simp at ha
    intro u hu
    rcases List.mem_cons.1 hu with rfl | hu
    · exact hv.one ha.1
    · exact ih hr (by simpa using ha.2) u hu
theorem Rel.forget {xs : List AV} {t : Tok} {v : Value} (h : Rel C (.sl xs t) v) : Rel C (.sl xs .no) v := by
  unfold Rel at h ⊢
  cases h with
  | nils t ht k => exact .nils _ rfl k
  | emp t a cap ht hm k => exact .emp _ a cap (.inl rfl) hm k
  | sl t b o cap sz h1 h2 h3 h4 h5 h6 h7 k => exact .sl _ b o cap sz h1 h2 h3 h4 h5 h6 trivial k
theorem Rel.nilCase {xs : List AV} {v : Value} (h : Rel C (.sl xs .no) v) : (xs = [] ∧ Rel C (.sl [] .nil) v) ∨ Rel C (.sl xs .live) v := by
  unfold Rel at *
  cases h with
  | nils t ht k => exact .inl ⟨rfl, .nils _ rfl k⟩
  | emp t a cap ht hm k => exact .inr (.emp _ a cap (.inr (.inl rfl)) hm k)
  | sl t b o cap sz h1 h2 h3 h4 h5 h6 h7 k => exact .inr (.sl _ b o cap sz h1 h2 h3 h4 h5 h6 trivial k)
theorem Rel.sl_form {xs : List AV} {t : Tok} {v : Value} (h : Rel C (.sl xs t) v) : ∃ a cap, v = .slice a xs.length cap ∧ xs.length ≤ cap ∧ cap ≤ maxLen := by
  unfold Rel at h
  cases h with
  | nils t ht k => exact ⟨_, _, rfl, by simp, by simp [maxLen]⟩
  | emp t a cap ht hm k => exact ⟨_, _, rfl, by simp, hm⟩
  | sl t b o cap sz h1 h2 h3 h4 h5 h6 h7 k => exact ⟨_, _, rfl, h5, h6⟩
def RelE (C : Com) (es : List (AV × AV × Nat)) (ens : List MapEntry) : Prop :=
  RelL C (es.map fun e => e.1) (ens.map fun e => e.key) ∧ RelL C (es.map fun e => e.2.1) (ens.map fun e => e.val) ∧ (es.map fun e => e.2.2) = ens.map fun e => e.born
theorem RelE.mono {C C' : Com} (hC : CLe C C') {es : List (AV × AV × Nat)} {ens : List MapEntry} (h : RelE C es ens) : RelE C' es ens := ⟨h.1.mono hC, h.2.1.mono hC, h.2.2⟩
def ObjOk (C : Com) (w : World) (b : Nat) : AObj → Prop
  | .cells cs T => ∃ vs : List Value, w.heap[b]? = some (.cells vs.toArray T (0, 0)) ∧ RelL C cs vs ∧ (∀ v ∈ vs, v.oneCell' = true) ∧ ∀ o, C b o = none
  | .open n cap sz T => ∃ cur : Array Value, w.heap[b]? = some (.cells cur T (0, 0)) ∧ cur.size = cap * sz ∧ n ≤ cap ∧ cap ≤ maxLen ∧ ∀ o, n * sz ≤ o → C b o = none
  | .ro us => b < w.heap.size ∧ (∀ u ∈ us, u.oneCell' = true) ∧ ∀ j u, us[j]? = some u → C b j = some u
  | .dfr => w.heap[b]? = some (.deferred (some [])) ∧ ∀ o, C b o = none
  | .lrec r => ∃ (fn : FuncId) (tmps : Array Value), w.heap[b]? = some (.loop { state := r.st, pending := r.pe, fn, tmps, params := r.ps, assign := r.asg, body := r.bod, defers := r.dfr }) ∧ tmps.size = r.n ∧
      (∀ i, Rel C (r.ρ i) (tmps.getD i undef)) ∧ ∀ o, C b o = none
  | .map es ck => ∃ ens : List MapEntry, w.heap[b]? = some (.map ens.toArray ck) ∧ RelE C es ens ∧ ∀ o, C b o = none
  | .iter m since seen last => w.heap[b]? = some (.mapIter m since seen.toArray last) ∧ ∀ o, C b o = none
def TabWhole (W0 : World) (b : Nat) (us : List Value) : Prop := us.length = 20 → ∃ T fr, W0.heap[b]? = some (.cells us.toArray T fr)
def AObj.base (W0 : World) (b : Nat) : AObj → Prop
  | .ro us => TabWhole W0 b us
  | .cells _ _ | .open _ _ _ _ | .dfr | .lrec _ | .map _ _ | .iter _ _ _ _ => W0.heap.size ≤ b
structure Inv (W0 : World) (C : Com) (H : Heap) (w : World) : Prop where
  below : Below W0.heap.size W0 w
  com : ∀ b o u, C b o = some u → w.cell? ⟨b, o, none⟩ = some u
  obj : ∀ b ob, H b = some ob → ob.base W0 b ∧ ObjOk C w b ob
theorem ObjOk.lt {w : World} {b : Nat} {ob : AObj} (h : ObjOk C w b ob) : b < w.heap.size := by
  cases ob with
  | cells cs T => obtain ⟨vs, h1, _⟩ := h; exact (Array.getElem?_eq_some_iff.1 h1).1
  | «open» n cap sz T => obtain ⟨cur, h1, _⟩ := h; exact (Array.getElem?_eq_some_iff.1 h1).1
  | ro us => exact h.1
  | dfr => exact (Array.getElem?_eq_some_iff.1 h.1).1
  | lrec r => obtain ⟨fn, tmps, h1, _⟩ := h; exact (Array.getElem?_eq_some_iff.1 h1).1
  | map es ck => obtain ⟨ens, h1, _⟩ := h; exact (Array.getElem?_eq_some_iff.1 h1).1
  | iter m since seen last => exact (Array.getElem?_eq_some_iff.1 h.1).1
theorem com_lt {W0 w : World} {H : Heap} (h : Inv W0 C H w) {b o : Nat} {u : Value} (hc : C b o = some u) : b < w.heap.size := by
  have := h.com b o u hc
  unfold World.cell? at this
  simp only at this
  rcases Nat.lt_or_ge b w.heap.size with h1 | h1
  · exact h1
  · simp [Array.getElem?_eq_none h1] at this
def HLe (H0 H : Heap) : Prop := ∀ b ob, H0 b = some ob → H b = some ob
theorem HLe.refl (H : Heap) : HLe H H := fun _ _ h => h
theorem HLe.trans {A B D : Heap} (h : HLe A B) (k : HLe B D) : HLe A D := fun b ob e => k b ob (h b ob e)
theorem Inv.weaken {W0 w : World} {H H0 : Heap} (h : Inv W0 C H w) (hl : HLe H0 H) : Inv W0 C H0 w :=
  ⟨h.below, h.com, fun b ob e => h.obj b ob (hl b ob e)⟩
theorem HLe.set_fresh {H : Heap} {b : Nat} {o : AObj} (hb : H b = none) : HLe H (H.set b o) := fun k ob e => by
  unfold Heap.set
  by_cases hk : k = b
  · subst hk; rw [hb] at e; cases e
  · rw [if_neg hk]; exact e
theorem HLe.set_mono {H K : Heap} {b : Nat} {o : AObj} (h : HLe H K) : HLe (H.set b o) (K.set b o) := fun k ob e => by
  unfold Heap.set at *
  by_cases hk : k = b
  · rw [if_pos hk] at *; exact e
  · rw [if_neg hk] at *; exact h k ob e
theorem hao (w : World) (ob : Obj) (b : Nat) (h : b < w.heap.size) : (w.alloc ob).heap[b]? = w.heap[b]? := by
  show (w.heap.push ob)[b]? = w.heap[b]?
  rw [Array.getElem?_push, if_neg (Nat.ne_of_lt h)]
theorem cell_alloc_old {w : World} {ob : Obj} {b o : Nat} {u : Value} (h : w.cell? ⟨b, o, none⟩ = some u) : (w.alloc ob).cell? ⟨b, o, none⟩ = some u := by
  have hlt := World.block_lt_of_cell? w _ h
  rw [World.cell?_of_block (w := w) (a := ⟨b, o, none⟩) (hao w ob b hlt)]
  exact h
theorem ObjOk.heap {w w' : World} {b : Nat} {ob : AObj} (h : ObjOk C w b ob) (e : w'.heap[b]? = w.heap[b]?) : ObjOk C w' b ob := by
  cases ob with
  | ro us => exact ⟨by
      have h1 := h.1
      rw [Array.getElem?_eq_getElem h1] at e
      exact (Array.getElem?_eq_some_iff.1 e).1, h.2⟩
  | cells cs T => obtain ⟨vs, h1, h2⟩ := h; exact ⟨vs, e.trans h1, h2⟩
  | «open» n cap sz T => obtain ⟨cur, h1, h2⟩ := h; exact ⟨cur, e.trans h1, h2⟩
  | dfr => exact ⟨e.trans h.1, h.2⟩
  | lrec r => obtain ⟨fn, tmps, h1, h2⟩ := h; exact ⟨fn, tmps, e.trans h1, h2⟩
  | map es ck => obtain ⟨ens, h1, h2⟩ := h; exact ⟨ens, e.trans h1, h2⟩
  | iter m since seen last => exact ⟨e.trans h.1, h.2⟩
theorem ObjOk.com {w : World} {b : Nat} {ob : AObj} (h : ObjOk C w b ob) (hC : CLe C C') (e : ∀ o, C b o = none → C' b o = none) : ObjOk C' w b ob := by
  cases ob with
  | ro us => exact ⟨h.1, h.2.1, fun j u hu => hC _ _ _ (h.2.2 j u hu)⟩
  | cells cs T => obtain ⟨vs, h1, h2, h3, h4⟩ := h; exact ⟨vs, h1, h2.mono hC, h3, fun o => e o (h4 o)⟩
  | «open» n cap sz T => obtain ⟨cur, h1, h2, h3, h4, h5⟩ := h; exact ⟨cur, h1, h2, h3, h4, fun o ho => e o (h5 o ho)⟩
  | dfr => exact ⟨h.1, fun o => e o (h.2 o)⟩
  | lrec r => obtain ⟨fn, tmps, h1, h2, h3, h4⟩ := h; exact ⟨fn, tmps, h1, h2, fun i => (h3 i).mono hC, fun o => e o (h4 o)⟩
  | map es ck => obtain ⟨ens, h1, h2, h3⟩ := h; exact ⟨ens, h1, h2.mono hC, fun o => e o (h3 o)⟩
  | iter m since seen last => exact ⟨h.1, fun o => e o (h.2 o)⟩
theorem Inv.draw {W0 w : World} {H : Heap} (h : Inv W0 C H w) : Inv W0 C H w.drew :=
  ⟨h.below.drew, fun b o u e => h.com b o u e, fun b ob e => ⟨(h.obj b ob e).1, (h.obj b ob e).2.heap rfl⟩⟩
theorem Inv.alloc {W0 w : World} {H : Heap} (h : Inv W0 C H w) (ob : Obj) : Inv W0 C H (w.alloc ob) :=
  ⟨h.below.alloc h.below.size ob, fun b o u e => cell_alloc_old (h.com b o u e), fun b o e => ⟨(h.obj b o e).1, (h.obj b o e).2.heap (hao w ob b (h.obj b o e).2.lt)⟩⟩
def commit (C : Com) (b : Nat) (o : Nat) (us : List Value) : Com := fun b' o' => if b' = b ∧ o ≤ o' ∧ o' < o + us.length then us[o' - o]? else C b' o'
theorem commit_at {b o : Nat} {us : List Value} {j : Nat} {u : Value} (h : us[j]? = some u) : commit C b o us b (o + j) = some u := by
  have hj := (List.getElem?_eq_some_iff.1 h).1
  unfold commit
  rw [if_pos ⟨rfl, by omega, by omega⟩]
  simpa using h
theorem commit_le {b o : Nat} {us : List Value} (h : ∀ k, o ≤ k → k < o + us.length → C b k = none) : CLe C (commit C b o us) := by
  intro b' o' u e
  unfold commit
  by_cases hb : b' = b ∧ o ≤ o' ∧ o' < o + us.length
  · obtain ⟨rfl, h1, h2⟩ := hb
    rw [h o' h1 h2] at e; cases e
  · rw [if_neg hb]; exact e
theorem commit_inv {b o b' o' : Nat} {us : List Value} {u : Value} (h : commit C b o us b' o' = some u) : (b' = b ∧ o ≤ o' ∧ us[o' - o]? = some u) ∨ C b' o' = some u := by
  unfold commit at h
  by_cases hb : b' = b ∧ o ≤ o' ∧ o' < o + us.length
  · rw [if_pos hb] at h; exact .inl ⟨hb.1, hb.2.1, h⟩
  · rw [if_neg hb] at h; exact .inr h
theorem commit_other {b o b' o' : Nat} {us : List Value} (h : b' ≠ b) : commit C b o us b' o' = C b' o' := by
  unfold commit; rw [if_neg (fun e => h e.1)]
theorem Inv.fresh {W0 w : World} {H : Heap} (h : Inv W0 C H w) (o : Nat) : C w.heap.size o = none := by
  cases hc : C w.heap.size o with
  | none => rfl
  | some u => exact absurd (com_lt h hc) (Nat.lt_irrefl _)
theorem Inv.heap_fresh {W0 w : World} {H : Heap} (h : Inv W0 C H w) : H w.heap.size = none := by
  cases hc : H w.heap.size with
  | none => rfl
  | some u => exact absurd (h.obj _ _ hc).2.lt (Nat.lt_irrefl _)
theorem cell_alloc_new (w : World) (cs : Array Value) (T : TypeId) (fr : Nat × Nat) (j : Nat) : (w.alloc (.cells cs T fr)).cell? ⟨w.heap.size, j, none⟩ = cs[j]? :=
  cell_of_row _ _ _ _ T fr (heap_alloc_new w _)
theorem Inv.allocCom {W0 w : World} {H : Heap} (h : Inv W0 C H w) (us : List Value) (rest : List Value) (T : TypeId) (fr : Nat × Nat) :
    Inv W0 (commit C w.heap.size 0 us) H (w.alloc (.cells (us ++ rest).toArray T fr)) ∧ CLe C (commit C w.heap.size 0 us) := by
  have hle : CLe C (commit C w.heap.size 0 us) := commit_le fun k _ _ => h.fresh k
  refine ⟨⟨h.below.alloc h.below.size _, ?_, ?_⟩, hle⟩
  · intro b o u e
    rcases commit_inv e with ⟨rfl, _, hu⟩ | hc
    · rw [cell_alloc_new]
      have hlt := (List.getElem?_eq_some_iff.1 hu).1
      simp at hu hlt
      simp [List.getElem?_append_left hlt, hu]
    · exact cell_alloc_old (h.com b o u hc)
  · intro b ob e
    have hlt := (h.obj b ob e).2.lt
    refine ⟨(h.obj b ob e).1, ((h.obj b ob e).2.heap (hao w _ b hlt)).com hle fun o ho => ?_⟩
    rw [commit_other (by omega)]; exact ho
theorem Inv.allocObj {W0 w : World} {H : Heap} (h : Inv W0 C H w) (cs : List AV) (vs : List Value) (T : TypeId) (hr : RelL C cs vs) (h1 : ∀ v ∈ vs, v.oneCell' = true) :
    Inv W0 C (H.set w.heap.size (.cells cs T)) (w.alloc (.cells vs.toArray T)) := by
  have ha := h.alloc (.cells vs.toArray T)
  refine ⟨ha.below, ha.com, fun b ob e => ?_⟩
  unfold Heap.set at e
  by_cases hb : b = w.heap.size
  · rw [if_pos hb] at e
    cases e; subst hb
    exact ⟨h.below.size, vs, heap_alloc_new w _, hr, h1, h.fresh⟩
  · rw [if_neg hb] at e
    exact ha.obj b ob e
theorem Inv.allocOpen {W0 w : World} {H : Heap} (h : Inv W0 C H w) (us rest : List Value) (T : TypeId) (n cap sz : Nat) (hn : us.length = n * sz) (hs : (us ++ rest).length = cap * sz) (hc : n ≤ cap) (hm : cap ≤ maxLen) :
    Inv W0 (commit C w.heap.size 0 us) (H.set w.heap.size (.open n cap sz T)) (w.alloc (.cells (us ++ rest).toArray T)) ∧ CLe C (commit C w.heap.size 0 us) := by
  obtain ⟨ha, hle⟩ := h.allocCom us rest T (0, 0)
  refine ⟨⟨ha.below, ha.com, fun b ob e => ?_⟩, hle⟩
  unfold Heap.set at e
  by_cases hb : b = w.heap.size
  · rw [if_pos hb] at e
    cases e; subst hb
    refine ⟨h.below.size, (us ++ rest).toArray, heap_alloc_new w _, by simpa using hs, hc, hm, fun o ho => ?_⟩
    cases hcc : commit C w.heap.size 0 us w.heap.size o with
    | none => rfl
    | some u =>
      rcases commit_inv hcc with ⟨_, _, hu⟩ | hu
      · have := (List.getElem?_eq_some_iff.1 hu).1; omega
      · rw [h.fresh] at hu; cases hu
  · rw [if_neg hb] at e
    exact ha.obj b ob e
end Rg
namespace Rg
open Go Go.RowKit
def tsize (P : Program) (T : TypeId) : Option Nat := (P.info? T).map (·.size)
def tbytes (P : Program) (T : TypeId) : Option Nat := (P.info? T).map (·.bytes)
def tzero (P : Program) (T : TypeId) : Option Value := (P.info? T).bind (·.zero)
def isAggD : TypeDesc → Bool
  | .struct _ | .array _ _ => true
  | _ => false
def tagg (P : Program) (T : TypeId) : Option Bool := (P.underlying T).map isAggD
def telem (P : Program) (T : TypeId) : Option TypeId :=
  match P.underlying T with
  | some (.slice e) => some e
  | _ => none
def tarr (P : Program) (T : TypeId) : Option (Nat × TypeId) :=
  match P.underlying T with
  | some (.array n e) => some (n, e)
  | _ => none
def tfield (P : Program) (T : TypeId) (f : Nat) : Option (Nat × TypeId) :=
  match P.underlying T with
  | some (.struct fs) => (fs[f]?).map fun d => (d.offset, d.type)
  | _ => none
def tkd (P : Program) (T : TypeId) : Nat :=
  match P.underlying T with
  | some .bool => 1
  | some (.int _) => 2
  | some .string => 3
  | some (.pointer _) => 4
  | some (.slice _) => 5
  | some (.map _ _) => 6
  | some (.func _ _ _) => 7
  | some (.interface _) => 8
  | some (.struct _) => 9
  | some (.array _ _) => 10
  | some _ => 11
  | none => 0
def canCall (P : Program) (f : FuncId) : Bool :=
  match P.funcs[f]? with
  | some fn => fn.body.isSome && !(fn.name == "runtime.NumGoroutine")
  | none => false
theorem telem_spec {P : Program} {T e : TypeId} (h : telem P T = some e) : P.underlying T = some (.slice e) := by
  unfold telem at h; split at h <;> simp_all
theorem tarr_spec {P : Program} {T e : TypeId} {n : Nat} (h : tarr P T = some (n, e)) : P.underlying T = some (.array n e) := by
  unfold tarr at h; split at h <;> simp_all
theorem tsize_spec {P : Program} {T : TypeId} {n : Nat} (h : tsize P T = some n) : ∃ i, P.info? T = some i ∧ i.size = n := by
  unfold tsize at h; cases hi : P.info? T with
  | none => rw [hi] at h; cases h
  | some i => rw [hi] at h; exact ⟨i, rfl, by simpa using h⟩
theorem run_sizeOf {P : Program} {T : TypeId} {n : Nat} (h : tsize P T = some n) (w : World) : (Go.sizeOf T).run P w = .ok n w := by
  obtain ⟨i, hi, hn⟩ := tsize_spec h
  simp [Go.sizeOf, typeInfo, hi, hn]
theorem run_zeroValue {P : Program} {T : TypeId} {v : Value} (h : tzero P T = some v) (w : World) : (zeroValue T).run P w = .ok v w := by
  unfold tzero at h
  cases hi : P.info? T with
  | none => rw [hi] at h; cases h
  | some i =>
    rw [hi] at h
    simp at h
    simp [zeroValue, typeInfo, hi, h]
theorem run_isAgg {P : Program} {T : TypeId} {b : Bool} (h : tagg P T = some b) (w : World) : (isAgg T).run P w = .ok b w := by
  unfold tagg at h
  cases hu : P.underlying T with
  | none => rw [hu] at h; cases h
  | some d =>
    rw [hu] at h
    simp at h
    unfold isAgg
    rw [Sem.run_bind, run_underlying hu w]
    cases d <;> simp_all [isAggD]
def ofCell : Value → AV
  | .slice none 0 0 => .sl [] .nil
  | v => .sc v
def ofV : Value → AV
  | .agg cs => if cs.toList.all Value.oneCell' then .agg (cs.toList.map ofCell) else .sc (.agg cs)
  | v => ofCell v
variable {C : Com}
theorem rel_ofCell (v : Value) : Rel C (ofCell v) v := by
  unfold ofCell
  split
  · exact .nils _ rfl .nil
  · exact Rel.sc v
theorem relL_ofCells (vs : List Value) : RelL C (vs.map ofCell) vs := by
  induction vs with
  | nil => exact .nil
  | cons v vs ih => exact RelL.cons (rel_ofCell v) ih
theorem rel_ofV (v : Value) : Rel C (ofV v) v := by
  unfold ofV
  split
  · split
    · rename_i cs h
      have := RelL.agg (C := C) (as := []) (vs := []) (relL_ofCells cs.toList) (fun u hu => by simpa using List.all_eq_true.1 h u hu) .nil
      simpa [Rel] using this
    · exact Rel.sc _
  · exact rel_ofCell v
theorem one_ofCell (v : Value) (h : v.oneCell' = true) : (ofCell v).one = true := by
  unfold ofCell
  split
  · rfl
  · exact h
inductive ASR where
  | val (v : AV)
  | alloc (cs : List AV) (T : TypeId)
  | store (b o : Nat) (cs : List AV)
  | call (f : FuncId) (args : List AV)
  | app (T e : TypeId) (xs : List AV) (t : Tok) (ys : List AV)
  | lits (e : TypeId) (sz : Nat) (xs : List AV)
  | freeze (g : Nat) (v : AV)
  | unarr (b : Nat) (v : AV)
  | stuck
def apick (c a b : AV) : ASR :=
  match c with
  | .sc (.bool t) => .val (if t then a else b)
  | _ => .stuck
def aalloc (P : Program) (T : TypeId) : ASR :=
  match tzero P T with
  | some z => if z.cells.toList.all Value.oneCell' then .alloc (z.cells.toList.map ofCell) T else .stuck
  | none => .stuck
def AV.lies : AV → Bool
  | .sc x => x.oneCell'
  | .tup _ => false
  | _ => true
def abox (T : TypeId) (x : AV) : ASR := if x.lies then .alloc x.cells T else .stuck
def acellsAt (x : AV) (H : Heap) : Option (List AV × Nat) :=
  match x with
  | .ip cs o => some (cs, o)
  | .sc (.pointer (some ⟨b, o, none⟩)) =>
    match rd (H b) with
    | some cs => some (cs, o)
    | none => none
  | _ => none
def aload (P : Program) (T : TypeId) (x : AV) (H : Heap) : ASR :=
  match acellsAt x H with
  | some (cs, o) =>
    match tagg P T with
    | some true =>
      match tsize P T with
      | some sz => if o + sz ≤ cs.length then .val (.agg ((cs.drop o).take sz)) else .stuck
      | none => .stuck
    | some false =>
      match cs[o]? with
      | some c => .val c
      | none => .stuck
    | none => .stuck
  | none => .stuck
def astore (P : Program) (T : TypeId) (a x : AV) (H : Heap) : ASR :=
  match a with
  | .sc (.pointer (some ⟨b, o, none⟩)) =>
    match H b with
    | some (.cells cs _) => if x.lies ∧ tsize P T = some x.cells.length ∧ o + x.cells.length ≤ cs.length then .store b o x.cells else .stuck
    | _ => .stuck
  | _ => .stuck
def anil (x : AV) : ASR :=
  match x with
  | .sc (.pointer (some a)) => .val (.sc (.pointer (some a)))
  | .ip cs o => .val (.ip cs o)
  | _ => .stuck
def ibin (op : BinOp) (k : IntKind) (a b : Int) : ASR :=
  match op with
  | .add => .val (.sc (.int k (k.wrap (a + b))))
  | .sub => .val (.sc (.int k (k.wrap (a - b))))
  | .mul => .val (.sc (.int k (k.wrap (a * b))))
  | .quo => if b = 0 then .stuck else .val (.sc (.int k (k.wrap (a.tdiv b))))
  | .rem => if b = 0 then .stuck else .val (.sc (.int k (a.tmod b)))
  | .and => .val (.sc (.int k (bits .and k a b)))
  | .or => .val (.sc (.int k (bits .or k a b)))
  | .xor => .val (.sc (.int k (bits .xor k a b)))
  | .andNot => .val (.sc (.int k (bits .andNot k a b)))
  | .eql => .val (.sc (.bool (a == b)))
  | .neq => .val (.sc (.bool (a != b)))
  | .lss => .val (.sc (.bool (decide (a < b))))
  | .leq => .val (.sc (.bool (decide (a ≤ b))))
  | .gtr => .val (.sc (.bool (decide (a > b))))
  | .geq => .val (.sc (.bool (decide (a ≥ b))))
  | _ => .stuck
def ishift (op : BinOp) (k : IntKind) (a b : Int) : ASR :=
  if b < 0 then .stuck else
  match op with
  | .shl => .val (.sc (.int k (k.wrap (a * 2 ^ (min b.toNat k.bits)))))
  | .shr => .val (.sc (.int k (a.fdiv (2 ^ (min b.toNat k.bits)))))
  | _ => .stuck
def isShift : BinOp → Bool
  | .shl | .shr => true
  | _ => false
def sbin (op : BinOp) (a b : ByteArray) : ASR :=
  match op with
  | .add => if a.size + b.size ≤ 9223372036854775807 then .val (.sc (.string (a ++ b))) else .stuck
  | .eql => .val (.sc (.bool (a.toList == b.toList)))
  | .neq => .val (.sc (.bool !(a.toList == b.toList)))
  | .lss => .val (.sc (.bool (Op.bytesLess a.toList b.toList)))
  | .leq => .val (.sc (.bool (Op.bytesLess a.toList b.toList || a.toList == b.toList)))
  | .gtr => .val (.sc (.bool !(Op.bytesLess a.toList b.toList || a.toList == b.toList)))
  | .geq => .val (.sc (.bool !(Op.bytesLess a.toList b.toList)))
  | _ => .stuck
def Tok.isNil : Tok → Option Bool
  | .nil => some true
  | .own _ _ _ _ => some false
  | .live => some false
  | _ => none
def eqv (op : BinOp) (b : Bool) : ASR :=
  match op with
  | .eql => .val (.sc (.bool b))
  | .neq => .val (.sc (.bool !b))
  | _ => .stuck
def abin (P : Program) (op : BinOp) (T : TypeId) (x y : AV) : ASR :=
  match x, y with
  | .sc (.int k a), .sc (.int k' b) => if isShift op then ishift op k a b else if k = k' then ibin op k a b else .stuck
  | .sc (.string a), .sc (.string b) => sbin op a b
  | .sc (.bool a), .sc (.bool b) => if tkd P T = 1 then eqv op (a == b) else .stuck
  | .sc (.pointer none), .sc (.pointer none) => if tkd P T = 4 then eqv op true else .stuck
  | .sc (.pointer (some _)), .sc (.pointer none) => if tkd P T = 4 then eqv op false else .stuck
  | .ip _ _, .sc (.pointer none) => if tkd P T = 4 then eqv op false else .stuck
  | .sl _ t, .sl [] .nil => if tkd P T = 5 then (match t.isNil with | some b => eqv op b | none => .stuck) else .stuck
  | .sc .nilFunc, .sc .nilFunc => if tkd P T = 7 then eqv op true else .stuck
  | .sc (.func _ _ _), .sc .nilFunc => if tkd P T = 7 then eqv op false else .stuck
  | .sc (.iface _ _), .sc .nilIface => if tkd P T = 8 then eqv op false else .stuck
  | .sc .nilIface, .sc .nilIface => .stuck
  | .sc (.map (some _)), .sc (.map none) => if tkd P T = 6 then eqv op false else .stuck
  | .sc (.map none), .sc (.map none) => if tkd P T = 6 then eqv op true else .stuck
  | _, _ => .stuck
def aun (op : UnOp) (x : AV) : ASR :=
  match x with
  | .sc (.bool b) => (match op with | .not => .val (.sc (.bool !b)) | _ => .stuck)
  | .sc (.int k n) => (match op with
    | .neg => .val (.sc (.int k (k.wrap (0 - n))))
    | .xor => .val (.sc (.int k (bits .xor k (if k.signed then -1 else k.max) n)))
    | _ => .stuck)
  | _ => .stuck
def tint (P : Program) (T : TypeId) : Option IntKind :=
  match P.underlying T with
  | some (.int k) => some k
  | _ => none
def abytes : List AV → Option (List UInt8)
  | [] => some []
  | .sc (.int .u8 n) :: r => if 0 ≤ n ∧ n < 256 then (abytes r).map (UInt8.ofNat n.toNat :: ·) else none
  | _ => none
def aconv (P : Program) (s d : TypeId) (x : AV) : ASR :=
  match x with
  | .sc (.int _ n) => if (P.underlying s).isSome then (match tint P d with | some k => .val (.sc (.int k (k.wrap n))) | none => .stuck) else .stuck
  | .sc (.string b) => if (P.underlying s).isSome then (if tkd P d = 3 then .val (.sc (.string b)) else
      (match telem P d with
        | some e => if tint P e = some .u8 ∧ tkd P s = 3 ∧ b.size ≤ maxLen then .val (.sl (b.data.toList.map fun c => .sc (.int .u8 c.toNat)) .no) else .stuck
        | none => .stuck)) else .stuck
  | .sl xs _ => if tkd P d = 3 then
      (match telem P s, abytes xs with
        | some e, some bs => if tint P e = some .u8 then .val (.sc (.string ⟨bs.toArray⟩)) else .stuck
        | _, _ => .stuck) else .stuck
  | _ => .stuck
def amark (P : Program) (s d : TypeId) (x : AV) : ASR :=
  match x with
  | .sl xs (.own g _ _ _) => if s = d ∧ tkd P d = 5 then (match telem P d with | some e => if tint P e = some .u8 then .freeze g (.sl xs .no) else .stuck | none => .stuck) else aconv P s d x
  | _ => aconv P s d x
def litB (ps : List (Nat × Operand)) : Bool := decide (2 ≤ ps.length) && ps.all fun p => match p.2 with | .const (.int .u8 _) => true | _ => false
def aint : AV → Option Int
  | .sc (.int _ n) => some n
  | _ => none
def abound (d : Int) : Option AV → Option Int
  | none => some d
  | some (.sc (.int _ n)) => some n
  | _ => none
def szs (sz : Nat) (xs : List AV) : Bool := xs.all fun x => x.cells.length == sz
def aslice (P : Program) (T : TypeId) (x : AV) (lo hi mx : Option AV) : ASR :=
  match x with
  | .sc (.string s) =>
    if tkd P T = 3 ∧ mx.isNone then
      (match abound 0 lo, abound s.size hi with
      | some l, some h => if 0 ≤ l ∧ l ≤ h ∧ h ≤ s.size then .val (.sc (.string (s.extract l.toNat h.toNat))) else .stuck
      | _, _ => .stuck)
    else .stuck
  | .sl xs t =>
    if tkd P T = 5 then
      (match abound 0 lo, abound xs.length hi, abound 0 mx with
      | some l, some h, some m => (match (telem P T).bind (tsize P) with
        | some sz => if 0 ≤ l ∧ l ≤ h ∧ h ≤ xs.length ∧ szs sz xs = true ∧ (mx.isSome → m = h ∧ hi.isSome) then
            .val (.sl ((xs.take h.toNat).drop l.toNat) (if mx.isSome then .full else .no)) else .stuck
        | none => .stuck)
      | _, _, _ => .stuck)
    else .stuck
  | _ => .stuck
def aunarr (P : Program) (T : TypeId) (x : AV) (lo hi mx : Option AV) (H : Heap) : ASR :=
  match x with
  | .sc (.pointer (some ⟨b, o, none⟩)) =>
    (match H b with
    | some (.cells cs _) =>
      (match tarr P T with
      | some (len, e) =>
        (match abound 0 lo, abound len hi with
        | some l, some h => if tsize P e = some 1 ∧ o = 0 ∧ cs.all AV.one = true ∧ cs.length = len ∧ len ≤ maxLen ∧ 0 ≤ l ∧ l ≤ h ∧ h ≤ len ∧ mx.isNone then .unarr b (.sl ((cs.take h.toNat).drop l.toNat) .no) else .stuck
        | _, _ => .stuck)
      | none => .stuck)
    | _ => .stuck)
  | _ => aslice P T x lo hi mx
def afaddr (P : Program) (S : TypeId) (x : AV) (f : Nat) : ASR :=
  match tfield P S f with
  | some (off, ty) =>
    match tsize P ty with
    | some (_ + 1) =>
      match x with
      | .sc (.pointer (some ⟨b, o, none⟩)) => .val (.sc (.pointer (some ⟨b, o + off, none⟩)))
      | .ip cs o => .val (.ip cs (o + off))
      | _ => .stuck
    | _ => .stuck
  | none => .stuck
def apart (P : Program) (ty : TypeId) (cs : List AV) (off : Nat) : ASR :=
  match tagg P ty, tsize P ty with
  | some true, some sz => if off + sz ≤ cs.length then .val (.agg ((cs.drop off).take sz)) else .stuck
  | some false, _ => (match cs[off]? with | some c => .val c | none => .stuck)
  | _, _ => .stuck
def tfs (P : Program) (T : TypeId) : Option (List (Bool × TypeId × Nat)) :=
  match P.underlying T with
  | some (.struct fs) => if P.stoodInHeld T = false ∧ P.eqGuardType P.depth T = false then some (fs.toList.map fun f => (f.name == "_", f.type, f.offset)) else none
  | some (.array n e) => if P.eqGuardType P.depth T = false ∧ (P.info? e).isSome then some ((List.range n).map fun i => (false, e, i * P.cellsOf e)) else none
  | _ => none
def aeqF (P : Program) (g : TypeId → AV → AV → Option Bool) (xs ys : List AV) : List (Bool × TypeId × Nat) → Option Bool
  | [] => some true
  | (blank, t, off) :: r =>
    if blank = true then aeqF P g xs ys r else
    match apart P t xs off, apart P t ys off with
    | .val a, .val b => (match g t a b, aeqF P g xs ys r with | some e, some e' => some (e && e') | _, _ => none)
    | _, _ => none
def aeqv (P : Program) : Nat → TypeId → AV → AV → Option Bool
  | 0, _, _, _ => none
  | n + 1, T, x, y =>
    match x, y with
    | .sc (.bool a), .sc (.bool b) => if tkd P T = 1 then some (a == b) else none
    | .sc (.int k a), .sc (.int k' b) => if tkd P T = 2 ∧ k = k' then some (a == b) else none
    | .sc (.string a), .sc (.string b) => if tkd P T = 3 then some (a.toList == b.toList) else none
    | .agg xs, .agg ys => (match tfs P T with | some fs => aeqF P (aeqv P n) xs ys fs | none => none)
    | _, _ => none
def abinA (P : Program) (op : BinOp) (T : TypeId) (x y : AV) : ASR :=
  match x, y with
  | .agg xs, .agg ys => (match tfs P T, aeqv P 5 T (.agg xs) (.agg ys) with | some _, some b => eqv op b | _, _ => .stuck)
  | _, _ => abin P op T x y
def isLit : Operand → Bool
  | .const _ => true
  | _ => false
def abinI (P : Program) (op : BinOp) (T : TypeId) (ox oy : Operand) (x y : AV) : ASR :=
  match x, y with
  | .sc .nilIface, .sc .nilIface => if tkd P T = 8 ∧ (isLit ox || isLit oy) = true then eqv op true else .stuck
  | _, _ => abinA P op T x y
def afield (P : Program) (S : TypeId) (x : AV) (f : Nat) : ASR :=
  match tfield P S f, x with
  | some (off, ty), .agg cs => apart P ty cs off
  | _, _ => .stuck
def aiaddr (P : Program) (T : TypeId) (x i : AV) : ASR :=
  match aint i with
  | some n =>
    if n < 0 then .stuck else
    match x with
    | .sl xs _ =>
      (match telem P T with
      | some e =>
        (match xs[n.toNat]? with
        | some y => if tsize P e = some y.cells.length then .val (.ip y.cells 0) else .stuck
        | none => .stuck)
      | none => .stuck)
    | .sc (.slice (some ⟨b, o, none⟩) len _) =>
      (match telem P T with
      | some e => (match tsize P e with | some sz => if n.toNat < len then .val (.sc (.pointer (some ⟨b, o + n.toNat * sz, none⟩))) else .stuck | none => .stuck)
      | none => .stuck)
    | .sc (.pointer (some ⟨b, o, none⟩)) =>
      (match tarr P T with
      | some (len, e) =>
        (match tsize P e with
        | some sz => if n < len then .val (.sc (.pointer (some ⟨b, o + n.toNat * sz, none⟩))) else .stuck
        | none => .stuck)
      | none => .stuck)
    | .ip cs o =>
      (match tarr P T with
      | some (len, e) =>
        (match tsize P e with
        | some sz => if n < len then .val (.ip cs (o + n.toNat * sz)) else .stuck
        | none => .stuck)
      | none => .stuck)
    | _ => .stuck
  | none => .stuck
def aindex (P : Program) (T : TypeId) (x i : AV) : ASR :=
  match aint i with
  | some n =>
    if n < 0 then .stuck else
    match x with
    | .agg cs =>
      (match tarr P T with
      | some (len, e) =>
        (match tsize P e with
        | some sz => if n < len then apart P e cs (n.toNat * sz) else .stuck
        | none => .stuck)
      | none => .stuck)
    | .sc (.string s) =>
      if tkd P T = 3 then (match s.data.toList[n.toNat]? with | some b => .val (.sc (.int .u8 b.toNat)) | none => .stuck) else .stuck
    | _ => .stuck
  | none => .stuck
def aextract (x : AV) (i : Nat) : ASR :=
  match x with
  | .tup cs => (match cs[i]? with | some c => .val c | none => .stuck)
  | _ => .stuck
def lset : List AV → Nat → List AV → List AV
  | cs, _, [] => cs
  | cs, o, c :: r => lset (cs.set o c) (o + 1) r
def aplace (P : Program) (T : TypeId) (i : Nat) : Option (Nat × Nat) :=
  match P.underlying T with
  | some (.struct fs) => (fs[i]?).bind fun f => (tsize P f.type).map fun s => (f.offset, s)
  | some (.array _ e) => (tsize P e).map fun s => (i * s, s)
  | _ => none
def afill (P : Program) (T : TypeId) (cs : List AV) : List (Nat × AV) → Option (List AV)
  | [] => some cs
  | (i, x) :: r =>
    match aplace P T i with
    | some (off, sz) => if x.lies ∧ x.cells.length = sz ∧ off + sz ≤ cs.length then afill P T (lset cs off x.cells) r else none
    | none => none
def tsizes (P : Program) (T : TypeId) : Bool :=
  match P.underlying T with
  | some (.struct fs) => fs.toList.all fun f => (tsize P f.type).isSome
  | some (.array _ e) => (tsize P e).isSome
  | _ => false
def abuild (P : Program) (T : TypeId) (ps : List (Nat × AV)) : ASR :=
  match tzero P T with
  | some z =>
    if z.cells.toList.all Value.oneCell' ∧ tsizes P T = true then
      (match afill P T (z.cells.toList.map ofCell) ps with
      | some cs => .val (.agg cs)
      | none => .stuck)
    else .stuck
  | none => .stuck
def aels (sz : Nat) (xs : List AV) : List (Nat × AV) → Option (List AV)
  | [] => some xs
  | (i, x) :: r => if x.lies ∧ x.cells.length = sz ∧ i < xs.length then aels sz (xs.set i x) r else none
def abuildSlice (P : Program) (T : TypeId) (n : Nat) (ps : List (Nat × AV)) : ASR :=
  match telem P T with
  | some e =>
    match tsize P e, tzero P e with
    | some sz, some z =>
      if z.cells.toList.all Value.oneCell' ∧ z.cells.toList.length = sz ∧ n * sz ≤ 16777216 ∧ n ≤ 16777216 then
        (match aels sz (List.replicate n (ofV z)) ps with
        | some xs => .val (.sl xs .full)
        | none => .stuck)
      else .stuck
    | _, _ => .stuck
  | none => .stuck
def scs : List AV → Option (List Value)
  | [] => some []
  | .sc v :: r => (scs r).map (v :: ·)
  | _ => none
def alits (P : Program) (T : TypeId) (r : ASR) : ASR :=
  match r with
  | .val (.sl xs .full) => (match telem P T with | some e => (match tsize P e with | some sz => if 1 ≤ sz ∧ xs.length ≤ maxLen then .lits e sz xs else .stuck | none => .stuck) | none => .stuck)
  | _ => .stuck
def amakeFunc (fn : Fn) (first cap : List AV) : ASR :=
  match scs first, scs cap with
  | some a, some b => .val (.sc (.func fn a.toArray b.toArray))
  | _, _ => .stuck
def alen (P : Program) (T : TypeId) (x : AV) : ASR :=
  match x with
  | .sl xs _ => if tkd P T = 5 then .val (.sc (.int .i64 xs.length)) else .stuck
  | .sc (.string s) => if tkd P T = 3 then .val (.sc (.int .i64 s.size)) else .stuck
  | .sc (.slice _ n _) => if tkd P T = 5 then .val (.sc (.int .i64 n)) else .stuck
  | _ => .stuck
def amin2 : AV → AV → Option AV
  | .sc (.int k a), .sc (.int _ b) => some (.sc (.int k (if b < a then b else a)))
  | _, _ => none
def amax2 : AV → AV → Option AV
  | .sc (.int k a), .sc (.int _ b) => some (.sc (.int k (if a < b then b else a)))
  | _, _ => none
def afold (f : AV → AV → Option AV) : AV → List AV → ASR
  | x, [] => .val x
  | x, y :: r => match f x y with | some z => afold f z r | none => .stuck
def prim (P : Program) (g : Nat) (T : TypeId) (xs : List AV) : ASR := .call P.funcs.size (.sc (.bool true) :: .sc (.int .i64 (g : Nat)) :: .sc (.int .i64 ((T : Nat) : Int)) :: xs)
def abuiltin (P : Program) (b : Builtin) (ts : List TypeId) (args : List AV) : ASR :=
  match b, ts, args with
  | .len, [T], [.sc (.map m)] => prim P 14 T [.sc (.map m)]
  | .delete, [T, _], [m, k] => prim P 15 T [m, k]
  | .len, [T], [x] => alen P T x
  | .min, _, x :: r => afold amin2 x r
  | .max, _, x :: r => afold amax2 x r
  | .append, [T, T'], [.sl xs t, .sl ys _] => if T' = T then (match telem P T with | some e => .app T e xs t ys | none => .stuck) else .stuck
  | .cap, [T], [x] => prim P 16 T [x]
  | .clear, [T], [x] => prim P 19 T [x]
  | .append, [T, T'], [x, .sc (.int k n)] => prim P 17 T [.sc (.int .i64 ((T' : Nat) : Int)), x, .sc (.int k n)]
  | .append, [T, T'], [.sc (.slice a n c), .sl ys t] => if T' = T then .call P.funcs.size [.sc (.int .i64 (T : Nat)), .sc (.slice a n c), .sl ys t] else .stuck
  | _, _, _ => .stuck
def acallv (P : Program) (f : AV) (args : List AV) : ASR :=
  match f with
  | .sc (.func (.func n) first cap) => if canCall P n then .call n (first.toList.map ofV ++ args ++ cap.toList.map ofV) else .stuck
  | .sc (.func (.yield l) first cap) => if first.isEmpty && cap.isEmpty then .call (P.funcs.size + 1 + l) args else .stuck
  | _ => .stuck
def acall (P : Program) (c : Call) (ev : Operand → AV) : ASR :=
  match c.callee with
  | .builtin b => abuiltin P b c.argTypes.toList (c.args.toList.map ev)
  | .value f => acallv P (ev f) (c.args.toList.map ev)
  | _ => .stuck
def aslice0 (P : Program) (T : TypeId) (x : AV) (lo hi mx : Option AV) (H : Heap) : ASR :=
  match x with
  | .sc (.slice a n c) => prim P 18 T [.sc (.slice a n c), .sc (.bool lo.isSome), lo.getD (.sc undef), .sc (.bool hi.isSome), hi.getD (.sc undef), .sc (.bool mx.isSome), mx.getD (.sc undef)]
  | _ => aunarr P T x lo hi mx H
def astepV (P : Program) (op : Op) (ev : Operand → AV) (H : Heap) : ASR :=
  match op with
  | .move x => .val (ev x)
  | .assign x => .val (ev x)
  | .pick c a b => apick (ev c) (ev a) (ev b)
  | .alloc T => aalloc P T
  | .box T x => abox T (ev x)
  | .build T ps => abuild P T (ps.toList.map fun p => (p.1, ev p.2))
  | .buildSlice T n ps => if litB ps.toList then alits P T (abuildSlice P T n (ps.toList.map fun p => (p.1, ev p.2))) else abuildSlice P T n (ps.toList.map fun p => (p.1, ev p.2))
  | .load T x => aload P T (ev x) H
  | .store T a x => astore P T (ev a) (ev x) H
  | .nilCheck x => anil (ev x)
  | .binOp op T x y _ => abinI P op T x y (ev x) (ev y)
  | .unOp op _ x => aun op (ev x)
  | .convert s d x => amark P s d (ev x)
  | .slice T x lo hi mx => aslice0 P T (ev x) (lo.map ev) (hi.map ev) (mx.map ev) H
  | .fieldAddr S x f => afaddr P S (ev x) f
  | .field S x f => afield P S (ev x) f
  | .indexAddr T x i => aiaddr P T (ev x) (ev i)
  | .index T x i => aindex P T (ev x) (ev i)
  | .extract t i => aextract (ev t) i
  | .makeFunc fn first cap => amakeFunc fn (first.toList.map ev) (cap.toList.map ev)
  | .call c => acall P c ev
  | .lookup T x i ok => prim P (if ok then 2 else 1) T [ev x, ev i]
  | .mapUpdate T m k x => prim P 3 T [ev m, ev k, ev x]
  | .insert T m k x => prim P 3 T [ev m, ev k, ev x]
  | .makeMap T r => prim P 4 T (r.toList.map ev)
  | .mapEntry T m k => prim P 6 T [ev m, ev k]
  | .entryStore T m s x => prim P 7 T [ev m, ev s, ev x]
  | .range T x => prim P 8 T [ev x]
  | .next it s => prim P 9 0 [.sc (.bool s), ev it]
  | .entry it => prim P 10 0 [ev it]
  | .makeSlice T n c => prim P 11 T [ev n, ev c]
  | .makeInterface T x => prim P 12 T [ev x]
  | .typeAssert x T T' ok => prim P 13 T [.sc (.int .i64 ((T' : Nat) : Int)), .sc (.bool ok), ev x]
  | _ => .stuck
end Rg
