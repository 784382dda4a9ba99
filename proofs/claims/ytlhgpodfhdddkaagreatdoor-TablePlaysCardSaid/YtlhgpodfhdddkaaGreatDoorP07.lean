/- Running over abstract values by simp. -/
import Derived.Test.YtlhgpodfhdddkaaGreatDoorP06
set_option linter.unusedSimpArgs false
set_option linter.unusedVariables false
set_option linter.unnecessarySimpa false
namespace Rg
open Go Go.RowKit
variable {P : Program} {n : Nat} {Q : Post} {ρ : Nat → AV} {H : Heap} {k : List AItem}
def ABr (x : AV) (A B : Prop) : Prop :=
  match x with
  | .sc (.bool t) => if t then A else B
  | _ => False
@[congr] theorem ABr_congr {x x' : AV} (h : x = x') (A B : Prop) : ABr x A B = ABr x' A B := by rw [h]
theorem ABr_true (A B : Prop) : ABr (.sc (.bool true)) A B = A := by simp [ABr]
theorem ABr_false (A B : Prop) : ABr (.sc (.bool false)) A B = B := by simp [ABr]
theorem ABr_split {t : Bool} {A B : Prop} (h1 : t = true → A) (h2 : t = false → B) : ABr (.sc (.bool t)) A B := by cases t <;> simp_all [ABr]
def AGd (b : Bool) (A B : Prop) : Prop := if b then A else B
@[congr] theorem AGd_congr {b b' : Bool} (h : b = b') (A B : Prop) : AGd b A B = AGd b' A B := by rw [h]
theorem AGd_true (A B : Prop) : AGd true A B = A := by simp [AGd]
theorem AGd_false (A B : Prop) : AGd false A B = B := by simp [AGd]
theorem AGd_split {t : Bool} {A B : Prop} (h1 : t = true → A) (h2 : t = false → B) : AGd t A B := by cases t <;> simp_all [AGd]
def AApp (P : Program) (n : Nat) (Q : Post) (full : Array Oper) (dst : Option Tmp) (r : List Oper) (k : List AItem) (ρ : Nat → AV) (H : Heap) (T e : TypeId) (xs : List AV) (t : Tok) (ys : List AV) : Prop :=
  (∃ sz by_, ElemOk P T e sz by_ ∧ szs sz xs = true ∧ szs sz ys = true ∧ (xs.length + ys.length) * by_ ≤ 140737488355328 ∧ xs.length + ys.length ≤ maxLen ∧
    ((((t = .nil ∨ t = .full) ∨ ys = []) ∧ ∃ v, (v = .sl (xs ++ ys) .no ∨ (ys = [] ∧ v = .sl xs t)) ∧ AGo P n Q (.ops full r :: k) (aput n dst v ρ) H) ∨
     ((t = .nil ∨ t = .full) ∧ ys ≠ [] ∧ ∀ g cap, H g = none → AGo P n Q (.ops full r :: k) (aput n dst (.sl (xs ++ ys) (.own g cap sz e)) ρ) (H.set g (.open (xs.length + ys.length) cap sz e))) ∨
     (∃ g cap, t = .own g cap sz e ∧ H g = some (.open xs.length cap sz e) ∧
       ∀ g' cap', (H.del g) g' = none → AGo P n Q (.ops full r :: k) (aput n dst (.sl (xs ++ ys) (.own g' cap' sz e)) ρ) ((H.del g).set g' (.open (xs.length + ys.length) cap' sz e))))) ∨ (∃ R, AppC P T xs t ys H R ∧ ∀ v H', R v H' → AGo P n Q (.ops full r :: k) (aput n dst v ρ) H')
def AStore (P : Program) (n : Nat) (Q : Post) (full : Array Oper) (dst : Option Tmp) (r : List Oper) (k : List AItem) (ρ : Nat → AV) (H : Heap) (b off : Nat) (ds : List AV) (ob : Option AObj) : Prop :=
  match ob with
  | some (.cells cs T) => AGo P n Q (.ops full r :: k) (aput n dst (.sc undef) ρ) (H.set b (.cells (lset cs off ds) T))
  | _ => False
def ACall (P : Program) (n : Nat) (Q : Post) (full : Array Oper) (dst : Option Tmp) (r : List Oper) (k : List AItem) (ρ : Nat → AV) (H : Heap) (f : FuncId) (args : List AV) : Prop :=
  ∃ R, ACalls P f args H R ∧ ∀ v H', R v H' → AGo P n Q (.ops full r :: k) (aput n dst v ρ) H'
def AAlloc (P : Program) (n : Nat) (Q : Post) (full : Array Oper) (dst : Option Tmp) (r : List Oper) (k : List AItem) (ρ : Nat → AV) (H : Heap) (cs : List AV) (T : TypeId) : Prop :=
  ∀ b, H b = none → AGo P n Q (.ops full r :: k) (aput n dst (.sc (.pointer (some ⟨b, 0, none⟩))) ρ) (H.set b (.cells cs T))
def ALits (P : Program) (n : Nat) (Q : Post) (full : Array Oper) (dst : Option Tmp) (r : List Oper) (k : List AItem) (ρ : Nat → AV) (H : Heap) (e : TypeId) (sz : Nat) (xs : List AV) : Prop :=
  ∀ g, H g = none → AGo P n Q (.ops full r :: k) (aput n dst (.sl xs (.own g xs.length sz e)) ρ) (H.set g (.open xs.length xs.length sz e))
def AFreeze (P : Program) (n : Nat) (Q : Post) (full : Array Oper) (dst : Option Tmp) (r : List Oper) (k : List AItem) (ρ : Nat → AV) (H : Heap) (g : Nat) (v : AV) (ob : Option AObj) : Prop :=
  match ob with
  | some (.open _ _ _ _) => AGo P n Q (.ops full r :: k) (aput n dst v ρ) (H.del g)
  | _ => False
def AStep (P : Program) (n : Nat) (Q : Post) (full : Array Oper) (dst : Option Tmp) (r : List Oper) (k : List AItem) (ρ : Nat → AV) (H : Heap) : ASR → Prop
  | .val v => AGo P n Q (.ops full r :: k) (aput n dst v ρ) H
  | .alloc cs T => AAlloc P n Q full dst r k ρ H cs T
  | .store b off ds => AStore P n Q full dst r k ρ H b off ds (H b)
  | .call f args => ACall P n Q full dst r k ρ H f args
  | .app T e xs t ys => AApp P n Q full dst r k ρ H T e xs t ys
  | .lits e sz xs => ALits P n Q full dst r k ρ H e sz xs
  | .freeze g v => AFreeze P n Q full dst r k ρ H g v (H g)
  | .unarr b v => AGo P n Q (.ops full r :: k) (aput n dst v ρ) (H.del b)
  | .stuck => False
@[congr] theorem AGo_congr {H H' : Heap} (h : H = H') (ρ : Nat → AV) (k : List AItem) : AGo P n Q k ρ H = AGo P n Q k ρ H' := by rw [h]
@[congr] theorem AStep_congr {x x' : ASR} (h : x = x') (full : Array Oper) (dst : Option Tmp) (r : List Oper) (k : List AItem) (ρ : Nat → AV) (H : Heap) : AStep P n Q full dst r k ρ H x = AStep P n Q full dst r k ρ H x' := by rw [h]
@[congr] theorem AStore_congr {x x' : Option AObj} (h : x = x') (full : Array Oper) (dst : Option Tmp) (r : List Oper) (k : List AItem) (ρ : Nat → AV) (H : Heap) (b off : Nat) (ds : List AV) :
    AStore P n Q full dst r k ρ H b off ds x = AStore P n Q full dst r k ρ H b off ds x' := by rw [h]
@[congr] theorem ACall_congr {args args' : List AV} (h : args = args') (full : Array Oper) (dst : Option Tmp) (r : List Oper) (k : List AItem) (ρ : Nat → AV) (H : Heap) (f : FuncId) :
    ACall P n Q full dst r k ρ H f args = ACall P n Q full dst r k ρ H f args' := by rw [h]
@[congr] theorem AAlloc_congr {cs cs' : List AV} (h : cs = cs') (full : Array Oper) (dst : Option Tmp) (r : List Oper) (k : List AItem) (ρ : Nat → AV) (H : Heap) (T : TypeId) :
    AAlloc P n Q full dst r k ρ H cs T = AAlloc P n Q full dst r k ρ H cs' T := by rw [h]
@[congr] theorem AApp_congr {xs xs' ys ys' : List AV} (h : xs = xs') (h' : ys = ys') (full : Array Oper) (dst : Option Tmp) (r : List Oper) (k : List AItem) (ρ : Nat → AV) (H : Heap) (T e : TypeId) (t : Tok) :
    AApp P n Q full dst r k ρ H T e xs t ys = AApp P n Q full dst r k ρ H T e xs' t ys' := by rw [h, h']
section
variable {full : Array Oper} {dst : Option Tmp} {r : List Oper}
@[simp] theorem AStep_val (v : AV) : AStep P n Q full dst r k ρ H (.val v) = AGo P n Q (.ops full r :: k) (aput n dst v ρ) H := rfl
@[simp] theorem AStep_alloc (cs : List AV) (T : TypeId) : AStep P n Q full dst r k ρ H (.alloc cs T) = AAlloc P n Q full dst r k ρ H cs T := rfl
@[simp] theorem AStep_store (b off : Nat) (ds : List AV) : AStep P n Q full dst r k ρ H (.store b off ds) = AStore P n Q full dst r k ρ H b off ds (H b) := rfl
@[simp] theorem AStep_call (f : FuncId) (args : List AV) : AStep P n Q full dst r k ρ H (.call f args) = ACall P n Q full dst r k ρ H f args := rfl
@[simp] theorem AStep_app (T e : TypeId) (xs : List AV) (t : Tok) (ys : List AV) : AStep P n Q full dst r k ρ H (.app T e xs t ys) = AApp P n Q full dst r k ρ H T e xs t ys := rfl
@[simp] theorem AStep_lits (e : TypeId) (sz : Nat) (xs : List AV) : AStep P n Q full dst r k ρ H (.lits e sz xs) = ALits P n Q full dst r k ρ H e sz xs := rfl
@[simp] theorem AStep_freeze (g : Nat) (v : AV) : AStep P n Q full dst r k ρ H (.freeze g v) = AFreeze P n Q full dst r k ρ H g v (H g) := rfl
@[simp] theorem AStep_unarr (b : Nat) (v : AV) : AStep P n Q full dst r k ρ H (.unarr b v) = AGo P n Q (.ops full r :: k) (aput n dst v ρ) (H.del b) := rfl
@[simp] theorem AFreeze_some (g : Nat) (v : AV) (m cap sz : Nat) (T : TypeId) : AFreeze P n Q full dst r k ρ H g v (some (.open m cap sz T)) = AGo P n Q (.ops full r :: k) (aput n dst v ρ) (H.del g) := rfl
theorem ALits.intro {e : TypeId} {sz : Nat} {xs : List AV} (h : ∀ g, H g = none → AGo P n Q (.ops full r :: k) (aput n dst (.sl xs (.own g xs.length sz e)) ρ) (H.set g (.open xs.length xs.length sz e))) : ALits P n Q full dst r k ρ H e sz xs := h
@[simp] theorem AStep_stuck : AStep P n Q full dst r k ρ H .stuck = False := rfl
@[simp] theorem AStore_some (b off : Nat) (ds cs : List AV) (T : TypeId) : AStore P n Q full dst r k ρ H b off ds (some (.cells cs T)) = AGo P n Q (.ops full r :: k) (aput n dst (.sc undef) ρ) (H.set b (.cells (lset cs off ds) T)) := rfl
theorem AAlloc.intro {cs : List AV} {T : TypeId} (h : ∀ b, H b = none → AGo P n Q (.ops full r :: k) (aput n dst (.sc (.pointer (some ⟨b, 0, none⟩))) ρ) (H.set b (.cells cs T))) : AAlloc P n Q full dst r k ρ H cs T := h
theorem ACall.intro {f : FuncId} {args : List AV} {R : AV → Heap → Prop} (h : ACalls P f args H R) (h' : ∀ v H', R v H' → AGo P n Q (.ops full r :: k) (aput n dst v ρ) H') : ACall P n Q full dst r k ρ H f args := ⟨R, h, h'⟩
theorem AApp.no {T e : TypeId} {xs ys : List AV} {t : Tok} {sz by_ : Nat} (he : ElemOk P T e sz by_) (ht : (t = .nil ∨ t = .full) ∨ ys = []) (hx : szs sz xs = true) (hy : szs sz ys = true)
    (hb : (xs.length + ys.length) * by_ ≤ 140737488355328) (hm : xs.length + ys.length ≤ maxLen) (h : AGo P n Q (.ops full r :: k) (aput n dst (.sl (xs ++ ys) .no) ρ) H) : AApp P n Q full dst r k ρ H T e xs t ys :=
  .inl ⟨sz, by_, he, hx, hy, hb, hm, .inl ⟨ht, _, .inl rfl, h⟩⟩
theorem AApp.same {T e : TypeId} {xs : List AV} {t : Tok} {sz by_ : Nat} (he : ElemOk P T e sz by_) (hx : szs sz xs = true)
    (hb : xs.length * by_ ≤ 140737488355328) (hm : xs.length ≤ maxLen) (h : AGo P n Q (.ops full r :: k) (aput n dst (.sl xs t) ρ) H) : AApp P n Q full dst r k ρ H T e xs t [] :=
  .inl ⟨sz, by_, he, hx, rfl, hb, hm, .inl ⟨.inr rfl, _, .inr ⟨rfl, rfl⟩, h⟩⟩
theorem AApp.new {T e : TypeId} {xs ys : List AV} {t : Tok} {sz by_ : Nat} (he : ElemOk P T e sz by_) (ht : t = .nil ∨ t = .full) (h0 : ys ≠ []) (hx : szs sz xs = true) (hy : szs sz ys = true)
    (hb : (xs.length + ys.length) * by_ ≤ 140737488355328) (hm : xs.length + ys.length ≤ maxLen)
    (h : ∀ g cap, H g = none → AGo P n Q (.ops full r :: k) (aput n dst (.sl (xs ++ ys) (.own g cap sz e)) ρ) (H.set g (.open (xs.length + ys.length) cap sz e))) : AApp P n Q full dst r k ρ H T e xs t ys :=
  .inl ⟨sz, by_, he, hx, hy, hb, hm, .inr (.inl ⟨ht, h0, h⟩)⟩
theorem AApp.own {T e : TypeId} {xs ys : List AV} {g cap sz by_ : Nat} (he : ElemOk P T e sz by_) (hg : H g = some (.open xs.length cap sz e)) (hx : szs sz xs = true) (hy : szs sz ys = true)
    (hb : (xs.length + ys.length) * by_ ≤ 140737488355328) (hm : xs.length + ys.length ≤ maxLen)
    (h : ∀ g' cap', (H.del g) g' = none → AGo P n Q (.ops full r :: k) (aput n dst (.sl (xs ++ ys) (.own g' cap' sz e)) ρ) ((H.del g).set g' (.open (xs.length + ys.length) cap' sz e))) : AApp P n Q full dst r k ρ H T e xs (.own g cap sz e) ys :=
  .inl ⟨sz, by_, he, hx, hy, hb, hm, .inr (.inr ⟨g, cap, rfl, hg, h⟩)⟩
theorem AApp.byC {T e : TypeId} {xs ys : List AV} {t : Tok} {R : AV → Heap → Prop} (h : AppC P T xs t ys H R) (h' : ∀ v H', R v H' → AGo P n Q (.ops full r :: k) (aput n dst v ρ) H') : AApp P n Q full dst r k ρ H T e xs t ys := .inr ⟨R, h, h'⟩
end
@[simp] theorem go_nil : AGo P n Q [] ρ H ↔ Q.nrm ρ H := ⟨fun h => by cases h; assumption, .nil⟩
@[simp] theorem go_ret : AGo P n Q (.code .ret :: k) ρ H ↔ Q.ret ρ H := ⟨fun h => by cases h; assumption, .ret⟩
@[simp] theorem go_skip : AGo P n Q (.code .skip :: k) ρ H ↔ AGo P n Q k ρ H := ⟨fun h => by cases h; assumption, .skip⟩
@[simp] theorem go_label {l : Nat} : AGo P n Q (.code (.label l) :: k) ρ H ↔ AGo P n Q k ρ H := ⟨fun h => by cases h; assumption, .label⟩
@[simp] theorem go_seq {a b : Code} : AGo P n Q (.code (.seq a b) :: k) ρ H ↔ AGo P n Q (.code a :: .code b :: k) ρ H := ⟨fun h => by cases h; assumption, .seq⟩
@[simp] theorem go_block {id : Nat} {c : Code} : AGo P n Q (.code (.block id c) :: k) ρ H ↔ AGo P n Q (.code c :: .blk id :: k) ρ H := ⟨fun h => by cases h; assumption, .block⟩
@[simp] theorem go_blk {id : Nat} : AGo P n Q (.blk id :: k) ρ H ↔ AGo P n Q k ρ H := ⟨fun h => by cases h; assumption, .blk⟩
@[simp] theorem go_scope {c : Code} : AGo P n Q (.code (.scope c) :: k) ρ H ↔ AGo P n Q (.code c :: .scp c :: k) ρ H := ⟨fun h => by cases h; assumption, .scope⟩
@[simp] theorem go_scp {c : Code} : AGo P n Q (.scp c :: k) ρ H ↔ AGo P n Q k ρ H := ⟨fun h => by cases h; assumption, .scp⟩
@[simp] theorem go_region {id : Nat} {l : List Oper} : AGo P n Q (.code (.region id l.toArray false) :: k) ρ H ↔ AGo P n Q (.ops l.toArray l :: k) ρ H := ⟨fun h => by cases h; assumption, .region⟩
@[simp] theorem go_opsNil {full : Array Oper} : AGo P n Q (.ops full [] :: k) ρ H ↔ AGo P n Q k ρ H := ⟨fun h => by cases h; assumption, .opsNil⟩
theorem go_lp {c : Code} : AGo P n Q (.lp c :: k) ρ H ↔ ∃ H0 ρ0, HLe H0 H ∧ NilF ρ0 ρ ∧ AGo P n Q (.code c :: .lp c :: k) ρ0 H0 := ⟨fun h => by cases h; exact ⟨_, _, ‹_›, ‹_›, ‹_›⟩, fun ⟨_, _, h1, h2, h3⟩ => .lp h1 h2 h3⟩
@[simp] theorem go_loop {c : Code} : AGo P n Q (.code (.loop c) :: k) ρ H ↔ AGo P n Q (.lp c :: k) ρ H := by
  rw [go_lp]
  exact ⟨fun h => by cases h; exact ⟨_, _, ‹_›, ‹_›, ‹_›⟩, fun ⟨_, _, h1, h2, h3⟩ => .loop h1 h2 h3⟩
def AEx (id : Nat) (x : Option (List AItem)) (P : Program) (n : Nat) (Q : Post) (ρ : Nat → AV) (H : Heap) : Prop :=
  match x with
  | some k => AGo P n Q k ρ H
  | none => Q.out id ρ H
@[simp] theorem go_exit {id : Nat} : AGo P n Q (.code (.exit id) :: k) ρ H ↔ AEx id (aexit id k) P n Q ρ H := by
  constructor
  · intro h
    cases h with
    | exit h1 h2 => rw [h1]; exact h2
    | out h1 h2 => rw [h1]; exact h2
  · intro h
    cases he : aexit id k with
    | none => rw [he] at h; exact .out he h
    | some k' => rw [he] at h; exact .exit he h
@[simp] theorem AEx_none (id : Nat) : AEx id none P n Q ρ H = Q.out id ρ H := rfl
@[simp] theorem AEx_blk_eq (id : Nat) (k : List AItem) : AEx id (aexit id (.blk id :: k)) P n Q ρ H = AGo P n Q k ρ H := by simp [aexit, AEx]
theorem aexit_blk (id id' : Nat) (k : List AItem) : aexit id (.blk id' :: k) = if id' = id then some k else aexit id k := by
  simp [aexit]
theorem aexit_code (id : Nat) (c : Code) (k : List AItem) : aexit id (.code c :: k) = aexit id k := rfl
theorem aexit_nil (id : Nat) : aexit id [] = none := rfl
theorem aexit_bgn (id l : Nat) (k : List AItem) : aexit id (.bgn l :: k) = aexit id k := rfl
theorem aexit_scp (id : Nat) (c : Code) (k : List AItem) : aexit id (.scp c :: k) = aexit id k := rfl
theorem aexit_lp (id : Nat) (c : Code) (k : List AItem) : aexit id (.lp c :: k) = aexit id k := rfl
theorem aexit_ops (id : Nat) (full : Array Oper) (l : List Oper) (k : List AItem) : aexit id (.ops full l :: k) = aexit id k := rfl
@[congr] theorem AEx_congr {x x' : Option (List AItem)} (h : x = x') (id : Nat) (ρ : Nat → AV) (H : Heap) : AEx id x P n Q ρ H = AEx id x' P n Q ρ H := by rw [h]
@[simp] theorem AEx_some (id : Nat) (k : List AItem) : AEx id (some k) P n Q ρ H = AGo P n Q k ρ H := rfl
attribute [simp] aexit_nil aexit_bgn aexit_blk aexit_code aexit_lp aexit_scp aexit_ops
def AGoZ (P : Program) (n : Nat) (Q : Post) (k : List AItem) (ρ : Nat → AV) (H : Heap) : Prop := AGo P n Q k ρ H
def AStepZ (P : Program) (n : Nat) (Q : Post) (full : Array Oper) (dst : Option Tmp) (r : List Oper) (k : List AItem) (ρ : Nat → AV) (H : Heap) (op : Op) : Prop := AStep P n Q full dst r k ρ H (astepV P op (evA ρ) H)
@[simp] theorem ABr_go_true {k : List AItem} {ρ : Nat → AV} {H : Heap} {B : Prop} : ABr (.sc (.bool true)) (AGoZ P n Q k ρ H) B = AGo P n Q k ρ H := ABr_true _ _
@[simp] theorem ABr_go_false {k : List AItem} {ρ : Nat → AV} {H : Heap} {A : Prop} : ABr (.sc (.bool false)) A (AGoZ P n Q k ρ H) = AGo P n Q k ρ H := ABr_false _ _
@[simp] theorem AGd_go_true {full : Array Oper} {dst : Option Tmp} {r : List Oper} {op : Op} {B : Prop} : AGd true (AStepZ P n Q full dst r k ρ H op) B = AStep P n Q full dst r k ρ H (astepV P op (evA ρ) H) := AGd_true _ _
@[simp] theorem AGd_go_false {A : Prop} : AGd false A (AGoZ P n Q k ρ H) = AGo P n Q k ρ H := AGd_false _ _
theorem ABr.bool {t : Bool} {k k' : List AItem} {ρ ρ' : Nat → AV} {H H' : Heap} (h1 : t = true → AGo P n Q k ρ H) (h2 : t = false → AGo P n Q k' ρ' H') : ABr (.sc (.bool t)) (AGoZ P n Q k ρ H) (AGoZ P n Q k' ρ' H') :=
  ABr_split h1 h2
theorem AGd.bool {t : Bool} {full : Array Oper} {dst : Option Tmp} {r : List Oper} {op : Op} {k k' : List AItem} {ρ ρ' : Nat → AV} {H H' : Heap} (h1 : t = true → AStep P n Q full dst r k ρ H (astepV P op (evA ρ) H)) (h2 : t = false → AGo P n Q k' ρ' H') :
    AGd t (AStepZ P n Q full dst r k ρ H op) (AGoZ P n Q k' ρ' H') := AGd_split h1 h2
@[simp] theorem go_cond {c : Operand} {a b : Code} : AGo P n Q (.code (.cond c a b) :: k) ρ H ↔ ABr (evA ρ c) (AGoZ P n Q (.code a :: k) ρ H) (AGoZ P n Q (.code b :: k) ρ H) := by
  constructor
  · intro h
    cases h with
    | @cond _ _ _ _ t _ _ _ h1 h2 => rw [h1]; cases t <;> simpa [ABr, AGoZ] using h2
  · intro h
    unfold ABr AGoZ at h
    split at h
    · rename_i t ht
      refine .cond ht ?_
      cases t <;> simpa using h
    · exact h.elim
theorem go_step_iff {full : Array Oper} {o : Oper} {r : List Oper} :
    AGo P n Q (.ops full (o :: r) :: k) ρ H ↔ AGd (aguard full ρ n o.guard) (AStep P n Q full o.dst r k ρ H (astepV P o.op (evA ρ) H)) (AGo P n Q (.ops full r :: k) (aput n o.dst (.sc undef) ρ) H) := by
  constructor
  · intro h
    cases h with
    | opY hy h =>
      rcases hy with ⟨hg, hv | ⟨f, args, hv, hc⟩ | ⟨T, e, xs, t, ys, sz, by_, hv, hve, he, ht, hx, hys, hb, hm⟩⟩ | ⟨hg, rfl⟩
      · rw [hg, hv, AGd_true]; simpa using h
      · rw [hg, hv, AGd_true]; exact ⟨_, hc, fun v' H' ⟨e1, e2⟩ => by subst e1; subst e2; exact h⟩
      · rw [hg, hv, AGd_true]; exact .inl ⟨sz, by_, he, hx, hys, hb, hm, .inl ⟨ht, _, hve, h⟩⟩
      · rw [hg, AGd_false]; exact h
    | opCall hg hv hc h => rw [hg, hv, AGd_true]; exact ⟨_, hc, h⟩
    | opAlloc hg hv h => rw [hg, hv, AGd_true]; exact h
    | opStore hg hv hH h => rw [hg, hv, AGd_true, AStep_store, hH]; exact h
    | opLits hg hv h => rw [hg, hv, AGd_true]; exact h
    | opFreeze hg hv hH h => rw [hg, hv, AGd_true, AStep_freeze, hH]; exact h
    | opUnarr hg hv h => rw [hg, hv, AGd_true]; exact h
    | opNew hg hv he ht hx hys h0 hb hm h => rw [hg, hv, AGd_true]; exact AApp.new he ht h0 hx hys hb hm h
    | opOwn hg hv he hH hx hys hb hm h => rw [hg, hv, AGd_true]; exact AApp.own he hH hx hys hb hm h
    | opAppC R hg hv hc h => rw [hg, hv, AGd_true]; exact AApp.byC hc h
  · intro h
    cases hg : aguard full ρ n o.guard with
    | false => rw [hg, AGd_false] at h; exact .opY (.inr ⟨hg, rfl⟩) h
    | true =>
      rw [hg, AGd_true] at h
      cases hv : astepV P o.op (evA ρ) H with
      | val v => rw [hv] at h; exact .opY (.inl ⟨hg, .inl hv⟩) h
      | alloc cs T => rw [hv] at h; exact .opAlloc hg hv h
      | store b off ds =>
        rw [hv, AStep_store] at h
        unfold AStore at h
        split at h
        · rename_i cs T hH; exact .opStore hg hv hH h
        · exact h.elim
      | call f args => rw [hv] at h; obtain ⟨R, h1, h2⟩ := h; exact .opCall hg hv h1 h2
      | app T e xs t ys =>
        rw [hv] at h
        obtain ⟨sz, by_, he, hx, hy, hb, hm, ⟨ht, v, hve, h⟩ | ⟨ht, h0, h⟩ | ⟨g, cap, rfl, hH, h⟩⟩ | ⟨R, hc, h⟩ := h
        · exact .opY (.inl ⟨hg, .inr (.inr ⟨T, e, xs, t, ys, sz, by_, hv, hve, he, ht, hx, hy, hb, hm⟩)⟩) h
        · exact .opNew hg hv he ht hx hy h0 hb hm h
        · exact .opOwn hg hv he hH hx hy hb hm h
        · exact .opAppC R hg hv hc h
      | stuck => rw [hv] at h; exact h.elim
      | lits e sz xs => rw [hv] at h; exact .opLits hg hv h
      | unarr b v => rw [hv] at h; exact .opUnarr hg hv h
      | freeze g v =>
        rw [hv, AStep_freeze] at h
        unfold AFreeze at h
        split at h
        · rename_i m cap sz T hH; exact .opFreeze hg hv hH h
        · exact h.elim
@[simp] theorem go_op {full : Array Oper} {dst : Option Tmp} {op : Op} {ty : TypeId} {pos : String} {after : Array Edge} {r : List Oper} :
    AGo P n Q (.ops full (⟨dst, op, ty, pos, after, none⟩ :: r) :: k) ρ H ↔ AStep P n Q full dst r k ρ H (astepV P op (evA ρ) H) := by
  rw [go_step_iff]; rfl
@[simp] theorem go_op_guard {full : Array Oper} {dst : Option Tmp} {op : Op} {ty : TypeId} {pos : String} {after : Array Edge} {g : Nat × Bool} {r : List Oper} :
    AGo P n Q (.ops full (⟨dst, op, ty, pos, after, some g⟩ :: r) :: k) ρ H ↔
      AGd (aguard full ρ n (some g)) (AStepZ P n Q full dst r k ρ H op) (AGoZ P n Q (.ops full r :: k) (aput n dst (.sc undef) ρ) H) := go_step_iff
def AQK (P : Program) (n : Nat) (Q : Post) (full : Array Oper) (l rest : List Oper) (k : List AItem) (ρ : Nat → AV) (H : Heap) : Prop := AQ P n H full (fun r => AGo P n Q (.ops full rest :: k) r H) l ρ
theorem aq_split {full : Array Oper} {K : (Nat → AV) → Prop} : ∀ {l : List Oper} {ρ : Nat → AV}, AQ P n H full K l ρ → ∃ ρ', AQ P n H full (fun r => r = ρ') l ρ ∧ K ρ'
  | [], ρ, h => ⟨ρ, rfl, h⟩
  | o :: l, ρ, h => by
    obtain ⟨v, hy, h⟩ := h
    obtain ⟨ρ', h1, h2⟩ := aq_split h
    exact ⟨ρ', ⟨v, hy, h1⟩, h2⟩
theorem go_draw {id : Nat} {l : List Oper} (m : Nat) (hmix : P.follows .mixedOrders = true) (hd : drawB l.toArray m = true) (h : AQK P n Q l.toArray (l.take m) (l.drop m) k ρ H) : AGo P n Q (.code (.region id l.toArray true) :: k) ρ H := by
  obtain ⟨ρ', h1, h2⟩ := aq_split h
  exact .draw m hmix hd h1 h2
def AQS (P : Program) (n : Nat) (Q : Post) (full : Array Oper) (dst : Option Tmp) (l rest : List Oper) (k : List AItem) (ρ : Nat → AV) (H : Heap) : ASR → Prop
  | .val v => AQK P n Q full l rest k (aput n dst v ρ) H
  | .call f args => ∃ v, ACalls P f args H (fun r H' => r = v ∧ H' = H) ∧ AQK P n Q full l rest k (aput n dst v ρ) H
  | .app T e xs t ys => ∃ sz by_, ElemOk P T e sz by_ ∧ ((t = .nil ∨ t = .full) ∨ ys = []) ∧ szs sz xs = true ∧ szs sz ys = true ∧ (xs.length + ys.length) * by_ ≤ 140737488355328 ∧ xs.length + ys.length ≤ maxLen ∧
      ∃ v, (v = .sl (xs ++ ys) .no ∨ (ys = [] ∧ v = .sl xs t)) ∧ AQK P n Q full l rest k (aput n dst v ρ) H
  | _ => False
@[congr] theorem AQK_congr {H H' : Heap} (h : H = H') (full : Array Oper) (l rest : List Oper) (k : List AItem) (ρ : Nat → AV) : AQK P n Q full l rest k ρ H = AQK P n Q full l rest k ρ H' := by rw [h]
@[congr] theorem AQS_congr {x x' : ASR} (h : x = x') (full : Array Oper) (dst : Option Tmp) (l rest : List Oper) (k : List AItem) (ρ : Nat → AV) (H : Heap) : AQS P n Q full dst l rest k ρ H x = AQS P n Q full dst l rest k ρ H x' := by rw [h]
section
variable {full : Array Oper} {dst : Option Tmp} {l rest : List Oper}
@[simp] theorem AQS_val (v : AV) : AQS P n Q full dst l rest k ρ H (.val v) = AQK P n Q full l rest k (aput n dst v ρ) H := rfl
theorem AQS.call {f : FuncId} {args : List AV} {v : AV} (h : ACalls P f args H (fun r H' => r = v ∧ H' = H)) (h' : AQK P n Q full l rest k (aput n dst v ρ) H) : AQS P n Q full dst l rest k ρ H (.call f args) := ⟨v, h, h'⟩
theorem AQS.app {T e : TypeId} {xs ys : List AV} {t : Tok} {sz by_ : Nat} (he : ElemOk P T e sz by_) (ht : (t = .nil ∨ t = .full) ∨ ys = []) (hx : szs sz xs = true) (hy : szs sz ys = true)
    (hb : (xs.length + ys.length) * by_ ≤ 140737488355328) (hm : xs.length + ys.length ≤ maxLen) (h : AQK P n Q full l rest k (aput n dst (.sl (xs ++ ys) .no) ρ) H) : AQS P n Q full dst l rest k ρ H (.app T e xs t ys) :=
  ⟨sz, by_, he, ht, hx, hy, hb, hm, _, .inl rfl, h⟩
theorem AQS.same {T e : TypeId} {xs : List AV} {t : Tok} {sz by_ : Nat} (he : ElemOk P T e sz by_) (hx : szs sz xs = true)
    (hb : xs.length * by_ ≤ 140737488355328) (hm : xs.length ≤ maxLen) (h : AQK P n Q full l rest k (aput n dst (.sl xs t) ρ) H) : AQS P n Q full dst l rest k ρ H (.app T e xs t []) :=
  ⟨sz, by_, he, .inr rfl, hx, rfl, hb, hm, _, .inr ⟨rfl, rfl⟩, h⟩
@[simp] theorem aqk_nil : AQK P n Q full [] rest k ρ H = AGo P n Q (.ops full rest :: k) ρ H := rfl
def AQKZ (P : Program) (n : Nat) (Q : Post) (full : Array Oper) (l rest : List Oper) (k : List AItem) (ρ : Nat → AV) (H : Heap) : Prop := AQK P n Q full l rest k ρ H
def AQSZ (P : Program) (n : Nat) (Q : Post) (full : Array Oper) (dst : Option Tmp) (l rest : List Oper) (k : List AItem) (ρ : Nat → AV) (H : Heap) (op : Op) : Prop := AQS P n Q full dst l rest k ρ H (astepV P op (evA ρ) H)
@[simp] theorem AGd_qk_true {op : Op} {B : Prop} : AGd true (AQSZ P n Q full dst l rest k ρ H op) B = AQS P n Q full dst l rest k ρ H (astepV P op (evA ρ) H) := AGd_true _ _
@[simp] theorem AGd_qk_false {A : Prop} : AGd false A (AQKZ P n Q full l rest k ρ H) = AQK P n Q full l rest k ρ H := AGd_false _ _
theorem aqk_step {o : Oper} : AQK P n Q full (o :: l) rest k ρ H ↔ AGd (aguard full ρ n o.guard) (AQS P n Q full o.dst l rest k ρ H (astepV P o.op (evA ρ) H)) (AQK P n Q full l rest k (aput n o.dst (.sc undef) ρ) H) := by
  constructor
  · rintro ⟨v, hy, h⟩
    rcases hy with ⟨hg, hv | ⟨f, args, hv, hc⟩ | ⟨T, e, xs, t, ys, sz, by_, hv, hve, he, ht, hx, hys, hb, hm⟩⟩ | ⟨hg, rfl⟩
    · rw [hg, hv, AGd_true, AQS_val]; exact h
    · rw [hg, hv, AGd_true]; exact ⟨v, hc, h⟩
    · rw [hg, hv, AGd_true]; exact ⟨sz, by_, he, ht, hx, hys, hb, hm, v, hve, h⟩
    · rw [hg, AGd_false]; exact h
  · intro h
    cases hg : aguard full ρ n o.guard with
    | false => rw [hg, AGd_false] at h; exact ⟨_, .inr ⟨hg, rfl⟩, h⟩
    | true =>
      rw [hg, AGd_true] at h
      cases hv : astepV P o.op (evA ρ) H with
      | val v => rw [hv] at h; exact ⟨v, .inl ⟨hg, .inl hv⟩, h⟩
      | call f args => rw [hv] at h; obtain ⟨v, h1, h2⟩ := h; exact ⟨v, .inl ⟨hg, .inr (.inl ⟨f, args, hv, h1⟩)⟩, h2⟩
      | app T e xs t ys =>
        rw [hv] at h
        obtain ⟨sz, by_, he, ht, hx, hy, hb, hm, v, hve, h⟩ := h
        exact ⟨_, .inl ⟨hg, .inr (.inr ⟨T, e, xs, t, ys, sz, by_, hv, hve, he, ht, hx, hy, hb, hm⟩)⟩, h⟩
      | alloc cs T => rw [hv] at h; exact h.elim
      | store b off ds => rw [hv] at h; exact h.elim
      | stuck => rw [hv] at h; exact h.elim
      | lits e sz xs => rw [hv] at h; exact h.elim
      | freeze g v => rw [hv] at h; exact h.elim
      | unarr b v => rw [hv] at h; exact h.elim
@[simp] theorem aqk_op {op : Op} {ty : TypeId} {pos : String} {after : Array Edge} : AQK P n Q full (⟨dst, op, ty, pos, after, none⟩ :: l) rest k ρ H ↔ AQS P n Q full dst l rest k ρ H (astepV P op (evA ρ) H) := by
  rw [aqk_step]; rfl
@[simp] theorem aqk_op_guard {op : Op} {ty : TypeId} {pos : String} {after : Array Edge} {g : Nat × Bool} : AQK P n Q full (⟨dst, op, ty, pos, after, some g⟩ :: l) rest k ρ H ↔
    AGd (aguard full ρ n (some g)) (AQSZ P n Q full dst l rest k ρ H op) (AQKZ P n Q full l rest k (aput n dst (.sc undef) ρ) H) := aqk_step
end
variable {H0 : Heap}
theorem cellsAt_HC {H H' : Heap} {x : AV} {r : List AV × Nat} (h : acellsAt x H = some r) (hc : HC H H') : acellsAt x H' = some r := by
  unfold acellsAt at *
  split at h
  · exact h
  · split at h
    · rename_i h1; simp only [hc _ _ h1]; exact h
    · cases h
  · cases h
theorem astepV_HC {H H' : Heap} {op : Op} {ev : Operand → AV} {v : AV} (h : astepV P op ev H = .val v) (hc : HC H H') : astepV P op ev H' = .val v := by
  cases op <;> simp only [astepV] at h ⊢ <;> try exact h
  case load T x =>
    unfold aload at *
    split at h
    · rename_i h1
      simp only [cellsAt_HC h1 hc]
      exact h
    · cases h
  case slice T x lo hi mx =>
    unfold aslice0 at h ⊢
    split at h
    · cases h
    · exact (unarr_val h).1 H'
  case store T a x =>
    unfold astore at h
    (repeat' split at h) <;> cases h
theorem astepV_other {H H' : Heap} {op : Op} {ev : Operand → AV} {r : ASR} (h : astepV P op ev H = r) (hr : (∃ f args, r = .call f args) ∨ ∃ T e xs t ys, r = .app T e xs t ys) : astepV P op ev H' = r := by
  cases op <;> simp only [astepV] at h ⊢ <;> try exact h
  case load T x =>
    unfold aload at h
    (repeat' split at h) <;> subst h <;> rcases hr with ⟨_, _, hr⟩ | ⟨_, _, _, _, _, hr⟩ <;> cases hr
  case slice T x lo hi mx =>
    unfold aslice0 at h ⊢
    split at h
    · exact h
    have h0 : r.tame = false := by rcases hr with ⟨_, _, rfl⟩ | ⟨_, _, _, _, _, rfl⟩ <;> rfl
    exact (no_unarr h h0 (by rcases hr with ⟨_, _, rfl⟩ | ⟨_, _, _, _, _, rfl⟩ <;> simp)).elim
  case store T a x =>
    unfold astore at h
    (repeat' split at h) <;> subst h <;> rcases hr with ⟨_, _, hr⟩ | ⟨_, _, _, _, _, hr⟩ <;> cases hr
def ABK (P : Program) (n : Nat) (H0 : Heap) (Q : Post) (full : Array Oper) (lb rest : List Oper) (k : List AItem) (ρ : Nat → AV) (H : Heap) : Prop := AB P n H0 full (fun r' H' => AGo P n Q (.ops full rest :: k) r' H') lb ρ H
def AQK2 (P : Program) (n : Nat) (H0 : Heap) (Q : Post) (full : Array Oper) (l lb rest : List Oper) (k : List AItem) (ρ : Nat → AV) (H : Heap) : Prop := AQ2 P n H0 full (fun r => ABK P n H0 Q full lb rest k r H) l ρ
def AQS2 (P : Program) (n : Nat) (H0 : Heap) (Q : Post) (full : Array Oper) (dst : Option Tmp) (l lb rest : List Oper) (k : List AItem) (ρ : Nat → AV) (H : Heap) : ASR → Prop
  | .val v => AQK2 P n H0 Q full l lb rest k (aput n dst v ρ) H
  | .call f args => ∃ v, (∀ H', HC H0 H' → ACalls P f args H' (fun r H'' => r = v ∧ H'' = H')) ∧ AQK2 P n H0 Q full l lb rest k (aput n dst v ρ) H
  | .app T e xs t ys => ∃ sz by_, ElemOk P T e sz by_ ∧ ((t = .nil ∨ t = .full) ∨ ys = []) ∧ szs sz xs = true ∧ szs sz ys = true ∧ (xs.length + ys.length) * by_ ≤ 140737488355328 ∧ xs.length + ys.length ≤ maxLen ∧
      ∃ v, (v = .sl (xs ++ ys) .no ∨ (ys = [] ∧ v = .sl xs t)) ∧ AQK2 P n H0 Q full l lb rest k (aput n dst v ρ) H
  | _ => False
def AES (P : Program) (n : Nat) (H0 : Heap) (Q : Post) (full : Array Oper) (dst : Option Tmp) (l rest : List Oper) (k : List AItem) (ρ : Nat → AV) (H : Heap) : ASR → Prop
  | .val v => ABK P n H0 Q full l rest k (aput n dst v ρ) H
  | .alloc cs T => ∀ b, H b = none → ABK P n H0 Q full l rest k (aput n dst (.sc (.pointer (some ⟨b, 0, none⟩))) ρ) (H.set b (.cells cs T))
  | .store b off ds => ∃ cs T, H b = some (.cells cs T) ∧ HC H0 (H.set b (.cells (lset cs off ds) T)) ∧ ABK P n H0 Q full l rest k (aput n dst (.sc undef) ρ) (H.set b (.cells (lset cs off ds) T))
  | .call f args => ∃ R, ACalls P f args H R ∧ ∀ v H', R v H' → HC H0 H' ∧ ABK P n H0 Q full l rest k (aput n dst v ρ) H'
  | .app T e xs t ys => ∃ sz by_, ElemOk P T e sz by_ ∧ szs sz xs = true ∧ szs sz ys = true ∧ (xs.length + ys.length) * by_ ≤ 140737488355328 ∧ xs.length + ys.length ≤ maxLen ∧
    (((t = .nil ∨ t = .full) ∧ ys = [] ∧ ABK P n H0 Q full l rest k (aput n dst (.sl xs t) ρ) H) ∨
     ((t = .nil ∨ t = .full) ∧ ys ≠ [] ∧ ∀ g cap, H g = none → ABK P n H0 Q full l rest k (aput n dst (.sl (xs ++ ys) (.own g cap sz e)) ρ) (H.set g (.open (xs.length + ys.length) cap sz e))) ∨
     (∃ g cap, t = .own g cap sz e ∧ H g = some (.open xs.length cap sz e) ∧
       ∀ g' cap', (H.del g) g' = none → ABK P n H0 Q full l rest k (aput n dst (.sl (xs ++ ys) (.own g' cap' sz e)) ρ) ((H.del g).set g' (.open (xs.length + ys.length) cap' sz e))))
  | _ => False
def AESZ (P : Program) (n : Nat) (H0 : Heap) (Q : Post) (full : Array Oper) (dst : Option Tmp) (l rest : List Oper) (k : List AItem) (ρ : Nat → AV) (H : Heap) (op : Op) : Prop := AES P n H0 Q full dst l rest k ρ H (astepV P op (evA ρ) H)
def ABKZ (P : Program) (n : Nat) (H0 : Heap) (Q : Post) (full : Array Oper) (lb rest : List Oper) (k : List AItem) (ρ : Nat → AV) (H : Heap) : Prop := ABK P n H0 Q full lb rest k ρ H
@[congr] theorem ABK_congr {H H' : Heap} (h : H = H') (full : Array Oper) (l rest : List Oper) (k : List AItem) (ρ : Nat → AV) : ABK P n H0 Q full l rest k ρ H = ABK P n H0 Q full l rest k ρ H' := by rw [h]
@[congr] theorem AQK2_congr {H H' : Heap} (h : H = H') (full : Array Oper) (l lb rest : List Oper) (k : List AItem) (ρ : Nat → AV) : AQK2 P n H0 Q full l lb rest k ρ H = AQK2 P n H0 Q full l lb rest k ρ H' := by rw [h]
@[congr] theorem AQS2_congr {x x' : ASR} (h : x = x') (full : Array Oper) (dst : Option Tmp) (l lb rest : List Oper) (k : List AItem) (ρ : Nat → AV) (H : Heap) : AQS2 P n H0 Q full dst l lb rest k ρ H x = AQS2 P n H0 Q full dst l lb rest k ρ H x' := by rw [h]
@[congr] theorem AES_congr {x x' : ASR} (h : x = x') (full : Array Oper) (dst : Option Tmp) (l rest : List Oper) (k : List AItem) (ρ : Nat → AV) (H : Heap) : AES P n H0 Q full dst l rest k ρ H x = AES P n H0 Q full dst l rest k ρ H x' := by rw [h]
theorem go_draw2 {id : Nat} {l : List Oper} (m : Nat) (A B : List Nat) (H0 : Heap) (hmix : P.follows .mixedOrders = true) (hd : drawB2 l.toArray m A B = true) (hc : HC H0 H) (h : AQK2 P n H0 Q l.toArray (picks l.toArray A) (picks l.toArray B) (l.drop m) k ρ H) :
    AGo P n Q (.code (.region id l.toArray true) :: k) ρ H := .draw2 m A B H0 _ hmix hd hc h fun _ _ h => h
section
variable {full : Array Oper} {dst : Option Tmp} {l lb rest : List Oper}
@[simp] theorem picks_nil : picks full [] = [] := rfl
@[simp] theorem picks_cons {f : List Oper} {i : Nat} {A : List Nat} : picks f.toArray (i :: A) = match f[i]? with | some o => o :: picks f.toArray A | none => [] := by simp only [picks, List.getElem?_toArray]; rfl
@[simp] theorem AQS2_val (v : AV) : AQS2 P n H0 Q full dst l lb rest k ρ H (.val v) = AQK2 P n H0 Q full l lb rest k (aput n dst v ρ) H := rfl
@[simp] theorem aqk2_nil : AQK2 P n H0 Q full [] lb rest k ρ H = ABK P n H0 Q full lb rest k ρ H := rfl
@[simp] theorem abk_nil : ABK P n H0 Q full [] rest k ρ H = AGo P n Q (.ops full rest :: k) ρ H := rfl
def AQKZ2 (P : Program) (n : Nat) (H0 : Heap) (Q : Post) (full : Array Oper) (l lb rest : List Oper) (k : List AItem) (ρ : Nat → AV) (H : Heap) : Prop := AQK2 P n H0 Q full l lb rest k ρ H
def AQSZ2 (P : Program) (n : Nat) (H0 : Heap) (Q : Post) (full : Array Oper) (dst : Option Tmp) (l lb rest : List Oper) (k : List AItem) (ρ : Nat → AV) (H : Heap) (op : Op) : Prop := AQS2 P n H0 Q full dst l lb rest k ρ H (astepV P op (evA ρ) H0)
@[simp] theorem AGd_qk2_true {op : Op} {B : Prop} : AGd true (AQSZ2 P n H0 Q full dst l lb rest k ρ H op) B = AQS2 P n H0 Q full dst l lb rest k ρ H (astepV P op (evA ρ) H0) := AGd_true _ _
@[simp] theorem AGd_qk2_false {A : Prop} : AGd false A (AQKZ2 P n H0 Q full l lb rest k ρ H) = AQK2 P n H0 Q full l lb rest k ρ H := AGd_false _ _
theorem aqk2_step {o : Oper} : AQK2 P n H0 Q full (o :: l) lb rest k ρ H ↔ AGd (aguard full ρ n o.guard) (AQS2 P n H0 Q full o.dst l lb rest k ρ H (astepV P o.op (evA ρ) H0)) (AQK2 P n H0 Q full l lb rest k (aput n o.dst (.sc undef) ρ) H) := by
  constructor
  · rintro ⟨v, hy, h⟩
    rcases hy H0 (fun _ _ h => h) with ⟨hg, hv | ⟨f, args, hv, hc⟩ | ⟨T, e, xs, t, ys, sz, by_, hv, hve, he, ht, hx, hys, hb, hm⟩⟩ | ⟨hg, rfl⟩
    · rw [hg, hv, AGd_true, AQS2_val]; exact h
    · rw [hg, hv, AGd_true]
      refine ⟨v, fun H' hc' => ?_, h⟩
      have hv' := astepV_other (H' := H') hv (.inl ⟨_, _, rfl⟩)
      rcases hy H' hc' with ⟨_, h1 | ⟨f', args', h1, h2⟩ | ⟨_, _, _, _, _, _, _, h1, _⟩⟩ | ⟨h1, _⟩
      · rw [hv'] at h1; cases h1
      · rw [hv'] at h1; cases h1; exact h2
      · rw [hv'] at h1; cases h1
      · rw [hg] at h1; cases h1
    · rw [hg, hv, AGd_true]; exact ⟨sz, by_, he, ht, hx, hys, hb, hm, v, hve, h⟩
    · rw [hg, AGd_false]; exact h
  intro h
  cases hg : aguard full ρ n o.guard with
  | false => rw [hg, AGd_false] at h; exact ⟨_, fun _ _ => .inr ⟨hg, rfl⟩, h⟩
  | true =>
    rw [hg, AGd_true] at h
    cases hv : astepV P o.op (evA ρ) H0 with
    | val v => rw [hv] at h; exact ⟨v, fun _ hc => .inl ⟨hg, .inl (astepV_HC hv hc)⟩, h⟩
    | call f args => rw [hv] at h; obtain ⟨v, h1, h2⟩ := h; exact ⟨v, fun H' hc => .inl ⟨hg, .inr (.inl ⟨f, args, astepV_other hv (.inl ⟨_, _, rfl⟩), h1 H' hc⟩)⟩, h2⟩
    | app T e xs t ys =>
      rw [hv] at h
      obtain ⟨sz, by_, he, ht, hx, hy, hb, hm, v, hve, h⟩ := h
      exact ⟨_, fun _ _ => .inl ⟨hg, .inr (.inr ⟨T, e, xs, t, ys, sz, by_, astepV_other hv (.inr ⟨_, _, _, _, _, rfl⟩), hve, he, ht, hx, hy, hb, hm⟩)⟩, h⟩
    | alloc cs T => rw [hv] at h; exact h.elim
    | store b off ds => rw [hv] at h; exact h.elim
    | stuck => rw [hv] at h; exact h.elim
    | lits e sz xs => rw [hv] at h; exact h.elim
    | freeze g v => rw [hv] at h; exact h.elim
    | unarr b v => rw [hv] at h; exact h.elim
theorem abk_step {o : Oper} : ABK P n H0 Q full (o :: l) rest k ρ H ↔ AGd (aguard full ρ n o.guard) (AES P n H0 Q full o.dst l rest k ρ H (astepV P o.op (evA ρ) H)) (ABK P n H0 Q full l rest k (aput n o.dst (.sc undef) ρ) H) := by
  show AE P n H0 full o (fun r H' => ABK P n H0 Q full l rest k r H') ρ H ↔ _
  unfold AE
  cases hg : aguard full ρ n o.guard with
  | false => rw [AGd_false]; simp
  | true =>
    rw [AGd_true]
    simp only [Bool.true_eq_false, false_and, true_and, false_or]
    cases astepV P o.op (evA ρ) H <;> exact Iff.rfl
@[simp] theorem AES_val (v : AV) : AES P n H0 Q full dst l rest k ρ H (.val v) = ABK P n H0 Q full l rest k (aput n dst v ρ) H := rfl
@[simp] theorem AGd_bk_true {op : Op} {B : Prop} : AGd true (AESZ P n H0 Q full dst l rest k ρ H op) B = AES P n H0 Q full dst l rest k ρ H (astepV P op (evA ρ) H) := AGd_true _ _
@[simp] theorem AGd_bk_false {A : Prop} : AGd false A (ABKZ P n H0 Q full l rest k ρ H) = ABK P n H0 Q full l rest k ρ H := AGd_false _ _
@[simp] theorem abk_op_guard {op : Op} {ty : TypeId} {pos : String} {after : Array Edge} {g : Nat × Bool} : ABK P n H0 Q full (⟨dst, op, ty, pos, after, some g⟩ :: l) rest k ρ H ↔
    AGd (aguard full ρ n (some g)) (AESZ P n H0 Q full dst l rest k ρ H op) (ABKZ P n H0 Q full l rest k (aput n dst (.sc undef) ρ) H) := abk_step
theorem AES.alloc {cs : List AV} {T : TypeId} (h : ∀ b, H b = none → ABK P n H0 Q full l rest k (aput n dst (.sc (.pointer (some ⟨b, 0, none⟩))) ρ) (H.set b (.cells cs T))) : AES P n H0 Q full dst l rest k ρ H (.alloc cs T) := h
theorem AES.store {b off : Nat} {ds cs : List AV} {T : TypeId} (hb : H b = some (.cells cs T)) (hc : HC H0 (H.set b (.cells (lset cs off ds) T))) (h : ABK P n H0 Q full l rest k (aput n dst (.sc undef) ρ) (H.set b (.cells (lset cs off ds) T))) : AES P n H0 Q full dst l rest k ρ H (.store b off ds) := ⟨cs, T, hb, hc, h⟩
theorem AES.call {f : FuncId} {args : List AV} {R : AV → Heap → Prop} (h : ACalls P f args H R) (h' : ∀ v H', R v H' → HC H0 H' ∧ ABK P n H0 Q full l rest k (aput n dst v ρ) H') : AES P n H0 Q full dst l rest k ρ H (.call f args) := ⟨R, h, h'⟩
@[simp] theorem aqk2_op {op : Op} {ty : TypeId} {pos : String} {after : Array Edge} : AQK2 P n H0 Q full (⟨dst, op, ty, pos, after, none⟩ :: l) lb rest k ρ H ↔ AQS2 P n H0 Q full dst l lb rest k ρ H (astepV P op (evA ρ) H0) := by
  rw [aqk2_step]; rfl
@[simp] theorem aqk2_op_guard {op : Op} {ty : TypeId} {pos : String} {after : Array Edge} {g : Nat × Bool} : AQK2 P n H0 Q full (⟨dst, op, ty, pos, after, some g⟩ :: l) lb rest k ρ H ↔
    AGd (aguard full ρ n (some g)) (AQSZ2 P n H0 Q full dst l lb rest k ρ H op) (AQKZ2 P n H0 Q full l lb rest k (aput n dst (.sc undef) ρ) H) := aqk2_step
@[simp] theorem abk_op {op : Op} {ty : TypeId} {pos : String} {after : Array Edge} : ABK P n H0 Q full (⟨dst, op, ty, pos, after, none⟩ :: l) rest k ρ H ↔ AES P n H0 Q full dst l rest k ρ H (astepV P op (evA ρ) H) := by
  rw [abk_step]; rfl
theorem AQS2.call {f : FuncId} {args : List AV} {v : AV} (h : ∀ H', HC H0 H' → ACalls P f args H' (fun r H'' => r = v ∧ H'' = H')) (h' : AQK2 P n H0 Q full l lb rest k (aput n dst v ρ) H) : AQS2 P n H0 Q full dst l lb rest k ρ H (.call f args) := ⟨v, h, h'⟩
theorem AES.same {T e : TypeId} {xs : List AV} {t : Tok} {sz by_ : Nat} (he : ElemOk P T e sz by_) (ht : t = .nil ∨ t = .full) (hx : szs sz xs = true)
    (hb : xs.length * by_ ≤ 140737488355328) (hm : xs.length ≤ maxLen) (h : ABK P n H0 Q full l rest k (aput n dst (.sl xs t) ρ) H) : AES P n H0 Q full dst l rest k ρ H (.app T e xs t []) :=
  ⟨sz, by_, he, hx, rfl, hb, hm, .inl ⟨ht, rfl, h⟩⟩
theorem AES.new {T e : TypeId} {xs ys : List AV} {t : Tok} {sz by_ : Nat} (he : ElemOk P T e sz by_) (ht : t = .nil ∨ t = .full) (h0 : ys ≠ []) (hx : szs sz xs = true) (hy : szs sz ys = true)
    (hb : (xs.length + ys.length) * by_ ≤ 140737488355328) (hm : xs.length + ys.length ≤ maxLen)
    (h : ∀ g cap, H g = none → ABK P n H0 Q full l rest k (aput n dst (.sl (xs ++ ys) (.own g cap sz e)) ρ) (H.set g (.open (xs.length + ys.length) cap sz e))) : AES P n H0 Q full dst l rest k ρ H (.app T e xs t ys) :=
  ⟨sz, by_, he, hx, hy, hb, hm, .inr (.inl ⟨ht, h0, h⟩)⟩
theorem AES.own {T e : TypeId} {xs ys : List AV} {g cap sz by_ : Nat} (he : ElemOk P T e sz by_) (hg : H g = some (.open xs.length cap sz e)) (hx : szs sz xs = true) (hy : szs sz ys = true)
    (hb : (xs.length + ys.length) * by_ ≤ 140737488355328) (hm : xs.length + ys.length ≤ maxLen)
    (h : ∀ g' cap', (H.del g) g' = none → ABK P n H0 Q full l rest k (aput n dst (.sl (xs ++ ys) (.own g' cap' sz e)) ρ) ((H.del g).set g' (.open (xs.length + ys.length) cap' sz e))) : AES P n H0 Q full dst l rest k ρ H (.app T e xs (.own g cap sz e) ys) :=
  ⟨sz, by_, he, hx, hy, hb, hm, .inr (.inr ⟨g, cap, rfl, hg, h⟩)⟩
end
@[simp] theorem aput_some {d : Nat} {v : AV} {i : Nat} : aput n (some d) v ρ i = if i = d ∧ d < n then v else ρ i := rfl
@[simp] theorem aput_none {v : AV} : aput n none v ρ = ρ := rfl
@[simp] theorem evA_tmp {t : Nat} : evA ρ (.tmp t) = ρ t := rfl
@[simp] theorem evA_const {v : Value} : evA ρ (.const v) = ofV v := rfl
@[simp] theorem evA_func {f : FuncId} : evA ρ (.func f) = .sc (.func (.func f) #[] #[]) := rfl
@[simp] theorem evA_global {g : Nat} : evA ρ (.global g) = .sc (.pointer (some ⟨g, 0, none⟩)) := rfl
@[simp] theorem ofV_int {kk : IntKind} {i : Int} : ofV (.int kk i) = .sc (.int kk i) := rfl
@[simp] theorem ofV_bool {b : Bool} : ofV (.bool b) = .sc (.bool b) := rfl
@[simp] theorem ofV_string {s : ByteArray} : ofV (.string s) = .sc (.string s) := rfl
@[simp] theorem ofV_pointer {a : Option Addr} : ofV (.pointer a) = .sc (.pointer a) := rfl
@[simp] theorem ofV_nil : ofV (.slice none 0 0) = .sl [] .nil := rfl
@[simp] theorem ofV_map {r : Option Nat} : ofV (.map r) = .sc (.map r) := rfl
@[simp] theorem ofV_nilFunc : ofV .nilFunc = .sc .nilFunc := rfl
@[simp] theorem ofV_func {f : Fn} {a b : Array Value} : ofV (.func f a b) = .sc (.func f a b) := rfl
@[simp] theorem ofV_agg {cs : Array Value} : ofV (.agg cs) = if cs.toList.all Value.oneCell' then .agg (cs.toList.map ofCell) else .sc (.agg cs) := rfl
@[simp] theorem ofCell_int {kk : IntKind} {i : Int} : ofCell (.int kk i) = .sc (.int kk i) := rfl
@[simp] theorem ofCell_bool {b : Bool} : ofCell (.bool b) = .sc (.bool b) := rfl
@[simp] theorem ofCell_string {s : ByteArray} : ofCell (.string s) = .sc (.string s) := rfl
@[simp] theorem ofCell_pointer {a : Option Addr} : ofCell (.pointer a) = .sc (.pointer a) := rfl
@[simp] theorem ofCell_nil : ofCell (.slice none 0 0) = .sl [] .nil := rfl
@[simp] theorem ofCell_map {r : Option Nat} : ofCell (.map r) = .sc (.map r) := rfl
@[simp] theorem ofCell_nilFunc : ofCell .nilFunc = .sc .nilFunc := rfl
@[simp] theorem one_int {kk : IntKind} {i : Int} : Value.oneCell' (.int kk i) = true := rfl
@[simp] theorem one_bool {b : Bool} : Value.oneCell' (.bool b) = true := rfl
@[simp] theorem one_string {s : ByteArray} : Value.oneCell' (.string s) = true := rfl
@[simp] theorem one_pointer {a : Option Addr} : Value.oneCell' (.pointer a) = true := rfl
@[simp] theorem one_slice {a : Option Addr} {l c : Nat} : Value.oneCell' (.slice a l c) = true := rfl
@[simp] theorem one_map {r : Option Nat} : Value.oneCell' (.map r) = true := rfl
@[simp] theorem one_func {f : Fn} {a b : Array Value} : Value.oneCell' (.func f a b) = true := rfl
@[simp] theorem one_nilFunc : Value.oneCell' .nilFunc = true := rfl
@[simp] theorem vcells_agg {cs : Array Value} : Value.cells (.agg cs) = cs := rfl
@[simp] theorem vcells_int {kk : IntKind} {i : Int} : Value.cells (.int kk i) = #[.int kk i] := rfl
@[simp] theorem vcells_bool {b : Bool} : Value.cells (.bool b) = #[.bool b] := rfl
@[simp] theorem vcells_string {s : ByteArray} : Value.cells (.string s) = #[.string s] := rfl
@[simp] theorem vcells_pointer {a : Option Addr} : Value.cells (.pointer a) = #[.pointer a] := rfl
@[simp] theorem vcells_slice {a : Option Addr} {l c : Nat} : Value.cells (.slice a l c) = #[.slice a l c] := rfl
@[simp] theorem vcells_map {r : Option Nat} : Value.cells (.map r) = #[.map r] := rfl
@[simp] theorem vcells_nilFunc : Value.cells .nilFunc = #[.nilFunc] := rfl
@[simp] theorem cells_agg {cs : List AV} : AV.cells (.agg cs) = cs := rfl
@[simp] theorem cells_sc {v : Value} : AV.cells (.sc v) = [.sc v] := rfl
@[simp] theorem cells_sl {xs : List AV} {t : Tok} : AV.cells (.sl xs t) = [.sl xs t] := rfl
@[simp] theorem lies_sc {v : Value} : AV.lies (.sc v) = v.oneCell' := rfl
@[simp] theorem lies_agg {cs : List AV} : AV.lies (.agg cs) = true := rfl
@[simp] theorem lies_sl {xs : List AV} {t : Tok} : AV.lies (.sl xs t) = true := rfl
@[simp] theorem guard_none {full : Array Oper} : aguard full ρ n none = true := rfl
@[simp] theorem guard_some {l : List Oper} {j : Nat} {want : Bool} : aguard l.toArray ρ n (some (j, want)) = match (l[j]?).bind (·.dst) with | some d => decide (d < n) && isTrue (ρ d) want | none => false := by simp [aguard]; rfl
@[simp] theorem isTrue_bool {b want : Bool} : isTrue (.sc (.bool b)) want = (b == want) := rfl
@[simp] theorem isTrue_undef {want : Bool} : isTrue (.sc undef) want = false := rfl
@[simp] theorem Heap.set_apply {b c : Nat} {o : AObj} : Heap.set H b o c = if c = b then some o else H c := rfl
@[simp] theorem Heap.del_apply {b c : Nat} : Heap.del H b c = if c = b then none else H c := rfl
@[simp] theorem Heap.set_set {b : Nat} {o o' : AObj} : Heap.set (Heap.set H b o) b o' = Heap.set H b o' := by funext c; simp only [Heap.set]; split <;> rfl
section
variable {ev : Operand → AV}
@[simp] theorem st_move {x : Operand} : astepV P (.move x) ev H = .val (ev x) := rfl
@[simp] theorem st_assign {x : Operand} : astepV P (.assign x) ev H = .val (ev x) := rfl
@[simp] theorem st_pick {c a b : Operand} : astepV P (.pick c a b) ev H = apick (ev c) (ev a) (ev b) := rfl
@[simp] theorem st_alloc {T : TypeId} : astepV P (.alloc T) ev H = aalloc P T := rfl
@[simp] theorem st_box {T : TypeId} {x : Operand} : astepV P (.box T x) ev H = abox T (ev x) := rfl
@[simp] theorem st_build {T : TypeId} {l : List (Nat × Operand)} : astepV P (.build T l.toArray) ev H = abuild P T (l.map fun p => (p.1, ev p.2)) := rfl
@[simp] theorem st_buildSlice {T : TypeId} {m : Nat} {l : List (Nat × Operand)} : astepV P (.buildSlice T m l.toArray) ev H = if litB l then alits P T (abuildSlice P T m (l.map fun p => (p.1, ev p.2))) else abuildSlice P T m (l.map fun p => (p.1, ev p.2)) := rfl
@[simp] theorem st_load {T : TypeId} {x : Operand} : astepV P (.load T x) ev H = aload P T (ev x) H := rfl
@[simp] theorem st_store {T : TypeId} {a x : Operand} : astepV P (.store T a x) ev H = astore P T (ev a) (ev x) H := rfl
@[simp] theorem st_nilCheck {x : Operand} : astepV P (.nilCheck x) ev H = anil (ev x) := rfl
@[simp] theorem st_binOp {op : BinOp} {T T' : TypeId} {x y : Operand} : astepV P (.binOp op T x y T') ev H = abinI P op T x y (ev x) (ev y) := rfl
section
variable {op : BinOp} {T : TypeId} {ox oy : Operand} {y : AV}
@[simp] theorem abinI_int {k : IntKind} {a : Int} : abinI P op T ox oy (.sc (.int k a)) y = abinA P op T (.sc (.int k a)) y := rfl
@[simp] theorem abinI_str {s : ByteArray} : abinI P op T ox oy (.sc (.string s)) y = abinA P op T (.sc (.string s)) y := rfl
@[simp] theorem abinI_bool {b : Bool} : abinI P op T ox oy (.sc (.bool b)) y = abinA P op T (.sc (.bool b)) y := rfl
@[simp] theorem abinI_ptr {p : Option Addr} : abinI P op T ox oy (.sc (.pointer p)) y = abinA P op T (.sc (.pointer p)) y := rfl
@[simp] theorem abinI_func {f : Fn} {a b : Array Value} : abinI P op T ox oy (.sc (.func f a b)) y = abinA P op T (.sc (.func f a b)) y := rfl
@[simp] theorem abinI_nilFunc : abinI P op T ox oy (.sc .nilFunc) y = abinA P op T (.sc .nilFunc) y := rfl
@[simp] theorem abinI_iface {t : TypeId} {v : Value} : abinI P op T ox oy (.sc (.iface t v)) y = abinA P op T (.sc (.iface t v)) y := rfl
@[simp] theorem abinI_map {p : Option Nat} : abinI P op T ox oy (.sc (.map p)) y = abinA P op T (.sc (.map p)) y := rfl
@[simp] theorem abinI_sl {xs : List AV} {t : Tok} : abinI P op T ox oy (.sl xs t) y = abinA P op T (.sl xs t) y := rfl
@[simp] theorem abinI_agg {xs : List AV} : abinI P op T ox oy (.agg xs) y = abinA P op T (.agg xs) y := rfl
@[simp] theorem abinI_ip {xs : List AV} {o : Nat} : abinI P op T ox oy (.ip xs o) y = abinA P op T (.ip xs o) y := rfl
@[simp] theorem abinI_nil : abinI P op T ox oy (.sc .nilIface) (.sc .nilIface) = if tkd P T = 8 ∧ (isLit ox || isLit oy) = true then eqv op true else .stuck := rfl
@[simp] theorem isLit_const {v : Value} : isLit (.const v) = true := rfl
@[simp] theorem isLit_tmp {i : Nat} : isLit (.tmp i) = false := rfl
end
@[simp] theorem abinA_sc {op : BinOp} {T : TypeId} {v : Value} {y : AV} : abinA P op T (.sc v) y = abin P op T (.sc v) y := rfl
@[simp] theorem abinA_sl {op : BinOp} {T : TypeId} {xs : List AV} {t : Tok} {y : AV} : abinA P op T (.sl xs t) y = abin P op T (.sl xs t) y := rfl
@[simp] theorem abinA_ip {op : BinOp} {T : TypeId} {cs : List AV} {o : Nat} {y : AV} : abinA P op T (.ip cs o) y = abin P op T (.ip cs o) y := rfl
@[simp] theorem abinA_agg {op : BinOp} {T : TypeId} {xs ys : List AV} : abinA P op T (.agg xs) (.agg ys) = (match tfs P T, aeqv P 5 T (.agg xs) (.agg ys) with | some _, some b => eqv op b | _, _ => .stuck) := rfl
attribute [simp] aeqv aeqF
@[simp] theorem st_unOp {op : UnOp} {T : TypeId} {x : Operand} : astepV P (.unOp op T x) ev H = aun op (ev x) := rfl
@[simp] theorem st_convert {s d : TypeId} {x : Operand} : astepV P (.convert s d x) ev H = amark P s d (ev x) := rfl
@[simp] theorem amark_sc {s d : TypeId} {v : Value} : amark P s d (.sc v) = aconv P s d (.sc v) := rfl
@[simp] theorem amark_no {s d : TypeId} {xs : List AV} : amark P s d (.sl xs .no) = aconv P s d (.sl xs .no) := rfl
@[simp] theorem amark_nil {s d : TypeId} {xs : List AV} : amark P s d (.sl xs .nil) = aconv P s d (.sl xs .nil) := rfl
@[simp] theorem amark_full {s d : TypeId} {xs : List AV} : amark P s d (.sl xs .full) = aconv P s d (.sl xs .full) := rfl
@[simp] theorem amark_live {s d : TypeId} {xs : List AV} : amark P s d (.sl xs .live) = aconv P s d (.sl xs .live) := rfl
@[simp] theorem amark_own {s d : TypeId} {xs : List AV} {g cap sz : Nat} {T : TypeId} : amark P s d (.sl xs (.own g cap sz T)) = if s = d ∧ tkd P d = 5 then (match telem P d with | some e => if tint P e = some .u8 then .freeze g (.sl xs .no) else .stuck | none => .stuck) else aconv P s d (.sl xs (.own g cap sz T)) := rfl
@[simp] theorem litB_nil : litB [] = false := rfl
@[simp] theorem litB_one {p : Nat × Operand} : litB [p] = false := rfl
attribute [simp] litB
@[simp] theorem litB_tmp {i t : Nat} {l : List (Nat × Operand)} : litB ((i, .tmp t) :: l) = false := by simp [litB]
@[simp] theorem alits_sl {T : TypeId} {xs : List AV} : alits P T (.val (.sl xs .full)) = (match telem P T with | some e => (match tsize P e with | some sz => if 1 ≤ sz ∧ xs.length ≤ maxLen then .lits e sz xs else .stuck | none => .stuck) | none => .stuck) := rfl
@[simp] theorem st_slice {T : TypeId} {x : Operand} {lo hi mx : Option Operand} : astepV P (.slice T x lo hi mx) ev H = aslice0 P T (ev x) (lo.map ev) (hi.map ev) (mx.map ev) H := rfl
@[simp] theorem aunarr_str {T : TypeId} {s : ByteArray} {lo hi mx : Option AV} : aunarr P T (.sc (.string s)) lo hi mx H = aslice P T (.sc (.string s)) lo hi mx := rfl
@[simp] theorem aslice0_str {T : TypeId} {s : ByteArray} {lo hi mx : Option AV} : aslice0 P T (.sc (.string s)) lo hi mx H = aunarr P T (.sc (.string s)) lo hi mx H := rfl
@[simp] theorem aslice0_sl {T : TypeId} {xs : List AV} {t : Tok} {lo hi mx : Option AV} : aslice0 P T (.sl xs t) lo hi mx H = aunarr P T (.sl xs t) lo hi mx H := rfl
@[simp] theorem aslice0_ptr {T : TypeId} {p : Option Addr} {lo hi mx : Option AV} : aslice0 P T (.sc (.pointer p)) lo hi mx H = aunarr P T (.sc (.pointer p)) lo hi mx H := rfl
@[simp] theorem aslice0_bare {T : TypeId} {a : Option Addr} {n c : Nat} {lo hi mx : Option AV} : aslice0 P T (.sc (.slice a n c)) lo hi mx H = prim P 18 T [.sc (.slice a n c), .sc (.bool lo.isSome), lo.getD (.sc undef), .sc (.bool hi.isSome), hi.getD (.sc undef), .sc (.bool mx.isSome), mx.getD (.sc undef)] := rfl
@[simp] theorem abuiltin_clear {T : TypeId} {x : AV} : abuiltin P .clear [T] [x] = prim P 19 T [x] := rfl
@[simp] theorem abuiltin_cap {T : TypeId} {x : AV} : abuiltin P .cap [T] [x] = prim P 16 T [x] := rfl
@[simp] theorem abuiltin_appmake_sl {T T' : TypeId} {xs : List AV} {t : Tok} {k : IntKind} {m : Int} : abuiltin P .append [T, T'] [.sl xs t, .sc (.int k m)] = prim P 17 T [.sc (.int .i64 ((T' : Nat) : Int)), .sl xs t, .sc (.int k m)] := rfl
@[simp] theorem abuiltin_appmake_sc {T T' : TypeId} {v : Value} {k : IntKind} {m : Int} : abuiltin P .append [T, T'] [.sc v, .sc (.int k m)] = prim P 17 T [.sc (.int .i64 ((T' : Nat) : Int)), .sc v, .sc (.int k m)] := rfl
@[simp] theorem aunarr_sl {T : TypeId} {xs : List AV} {t : Tok} {lo hi mx : Option AV} : aunarr P T (.sl xs t) lo hi mx H = aslice P T (.sl xs t) lo hi mx := rfl
@[simp] theorem aunarr_ptr {T : TypeId} {b o : Nat} {lo hi mx : Option AV} : aunarr P T (.sc (.pointer (some ⟨b, o, none⟩))) lo hi mx H = (match H b with | some (.cells cs _) => (match tarr P T with | some (len, e) => (match abound 0 lo, abound len hi with | some l, some h => if tsize P e = some 1 ∧ o = 0 ∧ cs.all AV.one = true ∧ cs.length = len ∧ len ≤ maxLen ∧ 0 ≤ l ∧ l ≤ h ∧ h ≤ len ∧ mx.isNone then .unarr b (.sl ((cs.take h.toNat).drop l.toNat) .no) else .stuck | _, _ => .stuck) | none => .stuck) | _ => .stuck) := rfl
@[simp] theorem st_faddr {S : TypeId} {x : Operand} {f : Nat} : astepV P (.fieldAddr S x f) ev H = afaddr P S (ev x) f := rfl
@[simp] theorem st_field {S : TypeId} {x : Operand} {f : Nat} : astepV P (.field S x f) ev H = afield P S (ev x) f := rfl
@[simp] theorem st_iaddr {T : TypeId} {x i : Operand} : astepV P (.indexAddr T x i) ev H = aiaddr P T (ev x) (ev i) := rfl
@[simp] theorem st_index {T : TypeId} {x i : Operand} : astepV P (.index T x i) ev H = aindex P T (ev x) (ev i) := rfl
@[simp] theorem st_extract {x : Operand} {i : Nat} : astepV P (.extract x i) ev H = aextract (ev x) i := rfl
@[simp] theorem st_makeFunc {f : Fn} {a b : List Operand} : astepV P (.makeFunc f a.toArray b.toArray) ev H = amakeFunc f (a.map ev) (b.map ev) := rfl
@[simp] theorem st_call {f : Operand} {args : List Operand} {ts : Array TypeId} : astepV P (.call ⟨.value f, args.toArray, ts⟩) ev H = acallv P (ev f) (args.map ev) := rfl
@[simp] theorem st_builtin {b : Builtin} {args : List Operand} {ts : List TypeId} : astepV P (.call ⟨.builtin b, args.toArray, ts.toArray⟩) ev H = abuiltin P b ts (args.map ev) := rfl
end
@[simp] theorem apick_bool {t : Bool} {a b : AV} : apick (.sc (.bool t)) a b = .val (if t then a else b) := rfl
@[simp] theorem cellsAt_ip {cs : List AV} {o : Nat} : acellsAt (.ip cs o) H = some (cs, o) := rfl
@[simp] theorem cellsAt_ptr {b o : Nat} : acellsAt (.sc (.pointer (some ⟨b, o, none⟩))) H = match rd (H b) with | some cs => some (cs, o) | none => none := rfl
@[simp] theorem rd_cells {cs : List AV} {T : TypeId} : rd (some (.cells cs T)) = some cs := rfl
@[simp] theorem rd_ro {us : List Value} : rd (some (.ro us)) = some (us.map .sc) := rfl
@[congr] theorem rd_congr {x x' : Option AObj} (h : x = x') : rd x = rd x' := by rw [h]
@[simp] theorem anil_ptr {a : Addr} : anil (.sc (.pointer (some a))) = .val (.sc (.pointer (some a))) := rfl
@[simp] theorem anil_ip {cs : List AV} {o : Nat} : anil (.ip cs o) = .val (.ip cs o) := rfl
@[simp] theorem abin_int {op : BinOp} {T : TypeId} {k k' : IntKind} {a b : Int} : abin P op T (.sc (.int k a)) (.sc (.int k' b)) = if isShift op then ishift op k a b else if k = k' then ibin op k a b else .stuck := rfl
@[simp] theorem abin_string {op : BinOp} {T : TypeId} {a b : ByteArray} : abin P op T (.sc (.string a)) (.sc (.string b)) = sbin op a b := rfl
@[simp] theorem abin_bool {op : BinOp} {T : TypeId} {a b : Bool} : abin P op T (.sc (.bool a)) (.sc (.bool b)) = if tkd P T = 1 then eqv op (a == b) else .stuck := rfl
@[simp] theorem abin_ptr {op : BinOp} {T : TypeId} {a : Option Addr} : abin P op T (.sc (.pointer a)) (.sc (.pointer none)) = if tkd P T = 4 then eqv op a.isNone else .stuck := by cases a <;> rfl
@[simp] theorem abin_iface {op : BinOp} {T t : TypeId} {v : Value} : abin P op T (.sc (.iface t v)) (.sc .nilIface) = if tkd P T = 8 then eqv op false else .stuck := rfl
@[simp] theorem abin_map {op : BinOp} {T : TypeId} {p : Option Nat} : abin P op T (.sc (.map p)) (.sc (.map none)) = if tkd P T = 6 then eqv op p.isNone else .stuck := by cases p <;> rfl
@[simp] theorem abin_ip {op : BinOp} {T : TypeId} {cs : List AV} {o : Nat} : abin P op T (.ip cs o) (.sc (.pointer none)) = if tkd P T = 4 then eqv op false else .stuck := rfl
@[simp] theorem abin_sl {op : BinOp} {T : TypeId} {xs : List AV} {t : Tok} : abin P op T (.sl xs t) (.sl [] .nil) = if tkd P T = 5 then (match t.isNil with | some b => eqv op b | none => .stuck) else .stuck := rfl
@[simp] theorem shift_add : isShift .add = false := rfl
@[simp] theorem shift_sub : isShift .sub = false := rfl
@[simp] theorem shift_mul : isShift .mul = false := rfl
@[simp] theorem shift_quo : isShift .quo = false := rfl
@[simp] theorem shift_rem : isShift .rem = false := rfl
@[simp] theorem shift_and : isShift .and = false := rfl
@[simp] theorem shift_or : isShift .or = false := rfl
@[simp] theorem shift_xor : isShift .xor = false := rfl
@[simp] theorem shift_andNot : isShift .andNot = false := rfl
@[simp] theorem shift_eql : isShift .eql = false := rfl
@[simp] theorem shift_neq : isShift .neq = false := rfl
@[simp] theorem shift_lss : isShift .lss = false := rfl
@[simp] theorem shift_leq : isShift .leq = false := rfl
@[simp] theorem shift_gtr : isShift .gtr = false := rfl
@[simp] theorem shift_geq : isShift .geq = false := rfl
@[simp] theorem shift_shl : isShift .shl = true := rfl
@[simp] theorem shift_shr : isShift .shr = true := rfl
section
variable {kk : IntKind} {a b : Int}
@[simp] theorem ibin_add : ibin .add kk a b = .val (.sc (.int kk (kk.wrap (a + b)))) := rfl
@[simp] theorem ibin_sub : ibin .sub kk a b = .val (.sc (.int kk (kk.wrap (a - b)))) := rfl
@[simp] theorem ibin_mul : ibin .mul kk a b = .val (.sc (.int kk (kk.wrap (a * b)))) := rfl
@[simp] theorem ibin_quo : ibin .quo kk a b = if b = 0 then .stuck else .val (.sc (.int kk (kk.wrap (a.tdiv b)))) := rfl
@[simp] theorem ibin_rem : ibin .rem kk a b = if b = 0 then .stuck else .val (.sc (.int kk (a.tmod b))) := rfl
@[simp] theorem ibin_and : ibin .and kk a b = .val (.sc (.int kk (bits .and kk a b))) := rfl
@[simp] theorem ibin_or : ibin .or kk a b = .val (.sc (.int kk (bits .or kk a b))) := rfl
@[simp] theorem ibin_xor : ibin .xor kk a b = .val (.sc (.int kk (bits .xor kk a b))) := rfl
@[simp] theorem ibin_andNot : ibin .andNot kk a b = .val (.sc (.int kk (bits .andNot kk a b))) := rfl
@[simp] theorem ibin_eql : ibin .eql kk a b = .val (.sc (.bool (decide (a = b)))) := rfl
@[simp] theorem ibin_neq : ibin .neq kk a b = .val (.sc (.bool (!decide (a = b)))) := rfl
@[simp] theorem ibin_lss : ibin .lss kk a b = .val (.sc (.bool (decide (a < b)))) := rfl
@[simp] theorem ibin_leq : ibin .leq kk a b = .val (.sc (.bool (decide (a ≤ b)))) := rfl
@[simp] theorem ibin_gtr : ibin .gtr kk a b = .val (.sc (.bool (decide (b < a)))) := rfl
@[simp] theorem ibin_geq : ibin .geq kk a b = .val (.sc (.bool (decide (b ≤ a)))) := rfl
@[simp] theorem ishift_shl : ishift .shl kk a b = if b < 0 then .stuck else .val (.sc (.int kk (kk.wrap (a * 2 ^ (min b.toNat kk.bits))))) := rfl
@[simp] theorem ishift_shr : ishift .shr kk a b = if b < 0 then .stuck else .val (.sc (.int kk (a.fdiv (2 ^ (min b.toNat kk.bits))))) := rfl
end
@[simp] theorem eqv_eql {b : Bool} : eqv .eql b = .val (.sc (.bool b)) := rfl
@[simp] theorem eqv_neq {b : Bool} : eqv .neq b = .val (.sc (.bool !b)) := rfl
@[simp] theorem aun_not {b : Bool} : aun .not (.sc (.bool b)) = .val (.sc (.bool !b)) := rfl
@[simp] theorem aun_neg {kk : IntKind} {i : Int} : aun .neg (.sc (.int kk i)) = .val (.sc (.int kk (kk.wrap (0 - i)))) := rfl
@[simp] theorem aint_int {kk : IntKind} {i : Int} : aint (.sc (.int kk i)) = some i := rfl
@[simp] theorem abound_none {d : Int} : abound d none = some d := rfl
@[simp] theorem abound_some {d : Int} {kk : IntKind} {i : Int} : abound d (some (.sc (.int kk i))) = some i := rfl
@[simp] theorem aextract_tup {cs : List AV} {i : Nat} : aextract (.tup cs) i = match cs[i]? with | some c => .val c | none => .stuck := rfl
@[simp] theorem acallv_yield {l : Nat} {args : List AV} : acallv P (.sc (.func (.yield l) #[] #[])) args = .call (P.funcs.size + 1 + l) args := rfl
@[simp] theorem acallv_func {f : FuncId} {a b : Array Value} {args : List AV} : acallv P (.sc (.func (.func f) a b)) args = if canCall P f then .call f (a.toList.map ofV ++ args ++ b.toList.map ofV) else .stuck := rfl
@[simp] theorem abuiltin_len_sl {T : TypeId} {xs : List AV} {t : Tok} : abuiltin P .len [T] [.sl xs t] = alen P T (.sl xs t) := rfl
@[simp] theorem abuiltin_len_str {T : TypeId} {s : ByteArray} : abuiltin P .len [T] [.sc (.string s)] = alen P T (.sc (.string s)) := rfl
@[simp] theorem abuiltin_len_slice {T : TypeId} {a : Option Addr} {m c : Nat} : abuiltin P .len [T] [.sc (.slice a m c)] = alen P T (.sc (.slice a m c)) := rfl
@[simp] theorem abuiltin_len_map {T : TypeId} {m : Option Nat} : abuiltin P .len [T] [.sc (.map m)] = prim P 14 T [.sc (.map m)] := rfl
@[simp] theorem abuiltin_delete {T T' : TypeId} {m k : AV} : abuiltin P .delete [T, T'] [m, k] = prim P 15 T [m, k] := rfl
@[simp] theorem prim_call {g : Nat} {T : TypeId} {xs : List AV} : prim P g T xs = .call P.funcs.size (.sc (.bool true) :: .sc (.int .i64 (g : Nat)) :: .sc (.int .i64 ((T : Nat) : Int)) :: xs) := rfl
@[simp] theorem abuiltin_min {ts : List TypeId} {x : AV} {r : List AV} : abuiltin P .min ts (x :: r) = afold amin2 x r := rfl
@[simp] theorem abuiltin_max {ts : List TypeId} {x : AV} {r : List AV} : abuiltin P .max ts (x :: r) = afold amax2 x r := rfl
@[simp] theorem abuiltin_append {T T' : TypeId} {xs ys : List AV} {t t' : Tok} : abuiltin P .append [T, T'] [.sl xs t, .sl ys t'] = if T' = T then (match telem P T with | some e => .app T e xs t ys | none => .stuck) else .stuck := rfl
@[simp] theorem afold_nil {f : AV → AV → Option AV} {x : AV} : afold f x [] = .val x := rfl
@[simp] theorem afold_cons {f : AV → AV → Option AV} {x y : AV} {r : List AV} : afold f x (y :: r) = match f x y with | some z => afold f z r | none => .stuck := rfl
@[simp] theorem amin2_int {k k' : IntKind} {a b : Int} : amin2 (.sc (.int k a)) (.sc (.int k' b)) = some (.sc (.int k (if b < a then b else a))) := rfl
@[simp] theorem amax2_int {k k' : IntKind} {a b : Int} : amax2 (.sc (.int k a)) (.sc (.int k' b)) = some (.sc (.int k (if a < b then b else a))) := rfl
@[simp] theorem alen_sl {T : TypeId} {xs : List AV} {t : Tok} : alen P T (.sl xs t) = if tkd P T = 5 then .val (.sc (.int .i64 xs.length)) else .stuck := rfl
@[simp] theorem alen_slice {T : TypeId} {a : Option Addr} {m c : Nat} : alen P T (.sc (.slice a m c)) = if tkd P T = 5 then .val (.sc (.int .i64 m)) else .stuck := rfl
@[simp] theorem abuiltin_append_raw {T : TypeId} {a : Option Addr} {m c : Nat} {ys : List AV} {t : Tok} : abuiltin P .append [T, T] [.sc (.slice a m c), .sl ys t] = .call P.funcs.size [.sc (.int .i64 (T : Nat)), .sc (.slice a m c), .sl ys t] := by simp [abuiltin]
@[simp] theorem alen_string {T : TypeId} {s : ByteArray} : alen P T (.sc (.string s)) = if tkd P T = 3 then .val (.sc (.int .i64 s.size)) else .stuck := rfl
@[simp] theorem lset_nil {cs : List AV} {o : Nat} : lset cs o [] = cs := rfl
@[simp] theorem lset_cons {cs r : List AV} {o : Nat} {c : AV} : lset cs o (c :: r) = lset (cs.set o c) (o + 1) r := rfl
@[simp] theorem afill_nil {T : TypeId} {cs : List AV} : afill P T cs [] = some cs := rfl
@[simp] theorem afill_cons {T : TypeId} {cs : List AV} {i : Nat} {x : AV} {r : List (Nat × AV)} : afill P T cs ((i, x) :: r) = match aplace P T i with
    | some (off, sz) => if x.lies ∧ x.cells.length = sz ∧ off + sz ≤ cs.length then afill P T (lset cs off x.cells) r else none
    | none => none := rfl
@[simp] theorem aels_nil {sz : Nat} {xs : List AV} : aels sz xs [] = some xs := rfl
@[simp] theorem aels_cons {sz : Nat} {xs : List AV} {i : Nat} {x : AV} {r : List (Nat × AV)} : aels sz xs ((i, x) :: r) = if x.lies ∧ x.cells.length = sz ∧ i < xs.length then aels sz (xs.set i x) r else none := rfl
@[simp] theorem szs_nil {sz : Nat} : szs sz [] = true := rfl
@[simp] theorem szs_cons {sz : Nat} {x : AV} {xs : List AV} : szs sz (x :: xs) = (x.cells.length == sz && szs sz xs) := rfl
@[simp] theorem szs_app {sz : Nat} {xs ys : List AV} : szs sz (xs ++ ys) = (szs sz xs && szs sz ys) := by simp [szs]
theorem szs_map {α : Type} {sz : Nat} {f : α → AV} (h : ∀ a, (f a).cells.length = sz) (l : List α) : szs sz (l.map f) = true := by simp [szs, h]
theorem szs_take {sz : Nat} {xs : List AV} (h : szs sz xs = true) (i : Nat) : szs sz (xs.take i) = true := by
  simp only [szs, List.all_eq_true] at *
  exact fun x hx => h x (List.mem_of_mem_take hx)
attribute [simp] aload aalloc abox astore abuild abuildSlice afaddr afield apart aiaddr aindex aslice amakeFunc scs
@[simp] theorem aconv_int {s d : TypeId} {kk : IntKind} {i : Int} : aconv P s d (.sc (.int kk i)) = if (P.underlying s).isSome then (match tint P d with | some k => .val (.sc (.int k (k.wrap i))) | none => .stuck) else .stuck := rfl
@[simp] theorem ainit_apply {args : List AV} {i : Nat} : ainit args i = (args[i]?).getD (.sc undef) := rfl
@[simp] theorem ares_nil : ares P ρ H [] = some [] := rfl
@[simp] theorem ares_tmp {t : Tmp} {r : List ResultVar} : ares P ρ H (.tmp t :: r) = (ares P ρ H r).map (ρ t :: ·) := rfl
@[simp] theorem ares_cell {a : Tmp} {T : TypeId} {r : List ResultVar} : ares P ρ H (.cell a T :: r) = match aload P T (ρ a) H with | .val v => (ares P ρ H r).map (v :: ·) | _ => none := rfl
@[simp] theorem apack_one {x : AV} : apack [x] = x := rfl
@[simp] theorem apack_two {x y : AV} {l : List AV} : apack (x :: y :: l) = .tup (x :: y :: l) := rfl
@[simp] theorem apack_nil : apack [] = .tup [] := rfl
theorem wrap_i64 {i : Int} (h1 : -9223372036854775808 ≤ i) (h2 : i ≤ 9223372036854775807) : IntKind.i64.wrap i = i := IntWalk.i64_in i ⟨h1, h2⟩
theorem wrap_u64 {i : Int} (h1 : 0 ≤ i) (h2 : i ≤ 18446744073709551615) : IntKind.u64.wrap i = i := IntWalk.u64_in i ⟨h1, h2⟩
theorem ACalls.enter {f : FuncId} {fn : Func} {c : Code} {n : Nat} {rs : Array ResultVar} {args : List AV} {R : AV → Heap → Prop} (hf : P.funcs[f]? = some fn) (hb : fn.body = some c) (hn : fn.ntmps = n) (hr : fn.results = rs) (hl : args.length ≤ n)
    (h : AGo P n (AEnd P rs.toList R) [.code c] (ainit args) H) : ACalls P f args H R := by
  subst hn; subst hr
  exact ACalls.of_go hf hb hl h
theorem AEnd.intro {rs : List ResultVar} {R : AV → Heap → Prop} {vs : List AV} (H0 : Heap) (h : ares P ρ H rs = some vs) (hl : HLe H0 H) (hr : R (apack vs) H0) : AEndP P rs R ρ H := ⟨vs, H0, h, hl, hr⟩
theorem HLe.set_new {A B : Heap} {b : Nat} {o : AObj} (h : HLe A B) (hb : A b = none) : HLe A (B.set b o) := fun c ob e => by
  unfold Heap.set
  by_cases hc : c = b
  · subst hc; rw [hb] at e; cases e
  · rw [if_neg hc]; exact h c ob e
theorem HLe.del_new {A B : Heap} {b : Nat} (h : HLe A B) (hb : A b = none) : HLe A (B.del b) := fun c ob e => by
  unfold Heap.del
  by_cases hc : c = b
  · subst hc; rw [hb] at e; cases e
  · rw [if_neg hc]; exact h c ob e
end Rg
