/- The run over abstract values: what it is, and that a call does what it says. -/
import Derived.Test.YtlhgpodfhdddkaaGreatDoorP02
import Derived.StillTail
import Derived.RangeFuncRecord
set_option linter.unusedSimpArgs false
set_option linter.unusedVariables false
set_option linter.unnecessarySimpa false
namespace Rg
open Go Go.RowKit
def evA (ρ : Nat → AV) : Operand → AV
  | .tmp t => ρ t
  | .const v => ofV v
  | .global g => .sc (.pointer (some ⟨g, 0, none⟩))
  | .func f => .sc (.func (.func f) #[] #[])
def aput (n : Nat) (dst : Option Tmp) (v : AV) (ρ : Nat → AV) : Nat → AV :=
  match dst with
  | some d => fun i => if i = d ∧ d < n then v else ρ i
  | none => ρ
def isTrue : AV → Bool → Bool
  | .sc (.bool b), want => b == want
  | _, _ => false
def aguard (full : Array Oper) (ρ : Nat → AV) (n : Nat) : Option (Nat × Bool) → Bool
  | none => true
  | some (j, want) =>
    match (full[j]?).bind (·.dst) with
    | some d => decide (d < n) && isTrue (ρ d) want
    | none => false
def RoundAt (P : Program) (l : Nat) (args : Array Value) (w : World) (R : Ending → World → Prop) : Prop :=
  ∃ fn tmps asg bod, (Instr.yield l args).run P w = .ok (.round l fn tmps asg bod) w ∧ ∀ c cs, ∃ v w', R (.returned v) w' ∧ Steps P (lone (Frame.round l fn tmps asg bod .normal) (c :: cs) w) (lone (c.finish v) cs w')
def AppAt (P : Program) (args : Array Value) (w : World) (R : Ending → World → Prop) : Prop :=
  ∃ (T : TypeId) (u v : Value), args = #[.int .i64 ((T : Nat) : Int), u, v] ∧ ∀ ty : TypeId, ∃ r w', (Builtin.append_ #[T, T] ty #[u, v]).run P w = .ok r w' ∧ R (.returned r) w'
def primRun (g : Nat) (T ty : TypeId) (xs : List Value) : Sem Value :=
  match g, xs with
  | 1, [x, k] => Instr.lookup T x k false
  | 2, [x, k] => Instr.lookup T x k true
  | 3, [m, k, x] => do Instr.mapUpdate T m k x; pure undef
  | 4, [] => Instr.makeMap T none
  | 4, [r] => Instr.makeMap T (some r)
  | 6, [m, k] => Instr.mapEntry T m k
  | 7, [m, s, x] => do Instr.entryStore T m s x; pure undef
  | 8, [x] => Instr.range T x
  | 9, [.bool s, x] => Instr.next x s ty
  | 10, [x] => Instr.entry x
  | 11, [n, c] => Instr.makeSlice T n c
  | 12, [x] => Instr.makeInterface T x
  | 13, [.int _ t', .bool ok, x] => Instr.typeAssert x T t'.toNat ok
  | 14, [x] => Builtin.len_ #[T] ty #[x]
  | 15, [m, k] => Builtin.delete_ #[T] ty #[m, k]
  | 16, [x] => Builtin.cap_ #[T] ty #[x]
  | 17, [.int _ t', x, n] => Builtin.append_ #[T, t'.toNat] ty #[x, n]
  | 19, [x] => Builtin.clear_ #[T] ty #[x]
  | 18, [x, .bool bl, l, .bool bh, h, .bool bm, m] => Instr.sliceAt T x (if bl then some l else none) (if bh then some h else none) (if bm then some m else none)
  | _, _ => stuck "no such primitive"
def PrimAt (P : Program) (args : Array Value) (w : World) (R : Ending → World → Prop) : Prop :=
  ∃ (g : Nat) (T : TypeId) (xs : List Value), args.toList = .bool true :: .int .i64 (g : Nat) :: .int .i64 ((T : Nat) : Int) :: xs ∧ ∀ ty : TypeId, ∃ r w', (primRun g T ty xs).run P w = .ok r w' ∧ R (.returned r) w'
def GCalls (P : Program) (f : FuncId) (args : Array Value) (w : World) (R : Ending → World → Prop) : Prop :=
  Calls P f args w R ∨ (f = P.funcs.size ∧ AppAt P args w R) ∨ (∃ l, f = P.funcs.size + 1 + l ∧ RoundAt P l args w R) ∨ (f = P.funcs.size ∧ PrimAt P args w R)
theorem GCalls.mono {P : Program} {f : FuncId} {args : Array Value} {w : World} {R R' : Ending → World → Prop} (h : GCalls P f args w R) (hr : ∀ e w', R e w' → R' e w') : GCalls P f args w R' := by
  rcases h with h | ⟨h1, T, u, v, h2, h3⟩ | ⟨l, h1, fn, tmps, asg, bod, h2, h3⟩ | ⟨h1, g, T, xs, h2, h3⟩
  · exact .inl (h.mono hr)
  · refine .inr (.inl ⟨h1, T, u, v, h2, fun ty => ?_⟩)
    obtain ⟨r, w', g1, g2⟩ := h3 ty
    exact ⟨r, w', g1, hr _ _ g2⟩
  · refine .inr <| .inr <| .inl ⟨l, h1, fn, tmps, asg, bod, h2, fun c cs => ?_⟩
    obtain ⟨v, w', g1, g2⟩ := h3 c cs
    exact ⟨v, w', hr _ _ g1, g2⟩
  · refine .inr <| .inr <| .inr ⟨h1, g, T, xs, h2, fun ty => ?_⟩
    obtain ⟨r, w', g1, g2⟩ := h3 ty
    exact ⟨r, w', g1, hr _ _ g2⟩
theorem GCalls.calls {P : Program} {f : FuncId} {args : Array Value} {w : World} {R : Ending → World → Prop} (h : GCalls P f args w R) (hf : f < P.funcs.size) : Calls P f args w R := by
  rcases h with h | ⟨h1, _⟩ | ⟨l, h1, _⟩ | ⟨h1, _⟩
  rotate_right
  · have e1 : @Eq Nat f P.funcs.size := h1
    have e2 : @LT.lt Nat _ f P.funcs.size := hf
    omega
  · exact h
  · have e1 : @Eq Nat f P.funcs.size := h1
    have e2 : @LT.lt Nat _ f P.funcs.size := hf
    omega
  · have e1 : @Eq Nat f (P.funcs.size + 1 + l) := h1
    have e2 : @LT.lt Nat _ f P.funcs.size := hf
    omega
def ACalls (P : Program) (f : FuncId) (args : List AV) (H : Heap) (R : AV → Heap → Prop) : Prop :=
  ∀ (W0 : World) (C : Com) (w : World) (vs : List Value), Inv W0 C H w → RelL C args vs →
    GCalls P f vs.toArray w fun e w' => ∃ r H' C' v, e = .returned v ∧ R r H' ∧ CLe C C' ∧ Rel C' r v ∧ Inv W0 C' H' w'
theorem ACalls.mono {P : Program} {f : FuncId} {args : List AV} {H : Heap} {R R' : AV → Heap → Prop} (h : ACalls P f args H R) (hr : ∀ r H', R r H' → R' r H') : ACalls P f args H R' :=
  fun W0 C w vs hi ha => (h W0 C w vs hi ha).mono fun _ _ ⟨r, H', C', v, h1, h2, h3⟩ => ⟨r, H', C', v, h1, hr _ _ h2, h3⟩
def AY (P : Program) (n : Nat) (H : Heap) (full : Array Oper) (o : Oper) (v : AV) (ρ : Nat → AV) : Prop :=
  (aguard full ρ n o.guard = true ∧ (astepV P o.op (evA ρ) H = .val v ∨ (∃ f args, astepV P o.op (evA ρ) H = .call f args ∧ ACalls P f args H fun r H' => r = v ∧ H' = H) ∨
    (∃ T e xs t ys sz by_, astepV P o.op (evA ρ) H = .app T e xs t ys ∧ (v = .sl (xs ++ ys) .no ∨ (ys = [] ∧ v = .sl xs t)) ∧ ElemOk P T e sz by_ ∧ ((t = .nil ∨ t = .full) ∨ ys = []) ∧ szs sz xs = true ∧ szs sz ys = true ∧
      (xs.length + ys.length) * by_ ≤ 140737488355328 ∧ xs.length + ys.length ≤ maxLen))) ∨
  (aguard full ρ n o.guard = false ∧ v = .sc undef)
def AQ (P : Program) (n : Nat) (H : Heap) (full : Array Oper) (K : (Nat → AV) → Prop) : List Oper → (Nat → AV) → Prop
  | [], ρ => K ρ
  | o :: r, ρ => ∃ v, AY P n H full o v ρ ∧ AQ P n H full K r (aput n o.dst v ρ)
def lexTo (md : Region.Mode) (ops : Array Oper) : Nat → Nat → Array Bool → Bool
  | 0, k, listed => Region.seqB md ops (ops.size - k) k listed
  | f + 1, k, listed => (Region.ready md ops listed).contains k && Region.free md ops listed k && lexTo md ops f (k + 1) (listed.setIfInBounds k true)
def drawB (ops : Array Oper) (m : Nat) : Bool :=
  Region.noSelect ops && (decide (m = ops.size) || (decide (m < ops.size) && Region.sinkB .any ops m && Region.chainB .any ops m)) && lexTo .any ops m 0 (Array.replicate ops.size false)
def HC (H H' : Heap) : Prop := ∀ b cs, rd (H b) = some cs → rd (H' b) = some cs
def AZ (P : Program) (n : Nat) (H : Heap) (full : Array Oper) (o : Oper) (v : AV) (ρ : Nat → AV) : Prop := ∀ H', HC H H' → AY P n H' full o v ρ
def AQ2 (P : Program) (n : Nat) (H : Heap) (full : Array Oper) (K : (Nat → AV) → Prop) : List Oper → (Nat → AV) → Prop
  | [], ρ => K ρ
  | o :: r, ρ => ∃ v, AZ P n H full o v ρ ∧ AQ2 P n H full K r (aput n o.dst v ρ)
def AE (P : Program) (n : Nat) (H0 : Heap) (full : Array Oper) (o : Oper) (K : (Nat → AV) → Heap → Prop) (ρ : Nat → AV) (H : Heap) : Prop :=
  (aguard full ρ n o.guard = false ∧ K (aput n o.dst (.sc undef) ρ) H) ∨
  (aguard full ρ n o.guard = true ∧
    match astepV P o.op (evA ρ) H with
    | .val v => K (aput n o.dst v ρ) H
    | .alloc cs T => ∀ b, H b = none → K (aput n o.dst (.sc (.pointer (some ⟨b, 0, none⟩))) ρ) (H.set b (.cells cs T))
    | .store b off ds => ∃ cs T, H b = some (.cells cs T) ∧ HC H0 (H.set b (.cells (lset cs off ds) T)) ∧ K (aput n o.dst (.sc undef) ρ) (H.set b (.cells (lset cs off ds) T))
    | .call f args => ∃ R, ACalls P f args H R ∧ ∀ v H', R v H' → HC H0 H' ∧ K (aput n o.dst v ρ) H'
    | .app T e xs t ys => ∃ sz by_, ElemOk P T e sz by_ ∧ szs sz xs = true ∧ szs sz ys = true ∧ (xs.length + ys.length) * by_ ≤ 140737488355328 ∧ xs.length + ys.length ≤ maxLen ∧
      (((t = .nil ∨ t = .full) ∧ ys = [] ∧ K (aput n o.dst (.sl xs t) ρ) H) ∨
       ((t = .nil ∨ t = .full) ∧ ys ≠ [] ∧ ∀ g cap, H g = none → K (aput n o.dst (.sl (xs ++ ys) (.own g cap sz e)) ρ) (H.set g (.open (xs.length + ys.length) cap sz e))) ∨
       (∃ g cap, t = .own g cap sz e ∧ H g = some (.open xs.length cap sz e) ∧
         ∀ g' cap', (H.del g) g' = none → K (aput n o.dst (.sl (xs ++ ys) (.own g' cap' sz e)) ρ) ((H.del g).set g' (.open (xs.length + ys.length) cap' sz e))))
    | _ => False)
def AB (P : Program) (n : Nat) (H0 : Heap) (full : Array Oper) (K : (Nat → AV) → Heap → Prop) : List Oper → (Nat → AV) → Heap → Prop
  | [], ρ, H => K ρ H
  | o :: l, ρ, H => AE P n H0 full o (fun r H' => AB P n H0 full K l r H') ρ H
def picks (full : Array Oper) : List Nat → List Oper
  | [] => []
  | i :: l => match full[i]? with
    | some o => o :: picks full l
    | none => []
def isAlloc : Op → Bool
  | .alloc _ => true
  | _ => false
def sameAlloc : Op → Op → Bool
  | .alloc T, .alloc T' => decide (T = T')
  | _, _ => false
def pairB (full : Array Oper) (b c : Nat) : Bool :=
  match full[b]?, full[c]? with
  | some ob, some oc => isAlloc ob.op && isAlloc oc.op && sameAlloc ob.op oc.op && ob.guard.isNone && oc.guard.isNone && (match ob.dst, oc.dst with | some d, some e => d != e | _, _ => false)
  | _, _ => false
def lexTail (full : Array Oper) (m : Nat) : List Nat → Array Bool → Bool
  | [], listed => Region.seqB .any full (full.size - m) m listed
  | [b], listed => decide (Region.ready .any full listed = [b]) && decide (b < m) && Region.seqB .any full (full.size - m) m (listed.setIfInBounds b true)
  | b :: c :: B, listed =>
    (decide (Region.ready .any full listed = [b]) && decide (b < m) && lexTail full m (c :: B) (listed.setIfInBounds b true)) ||
    (decide (Region.ready .any full listed = [b, c]) && decide (b < m) && decide (c < m) && pairB full b c && decide (b ≠ c) && decide (Region.ready .any full (listed.setIfInBounds b true) = [c]) &&
      decide (Region.ready .any full (listed.setIfInBounds c true) = [b]) && lexTail full m B ((listed.setIfInBounds b true).setIfInBounds c true))
def lexTo2 (full : Array Oper) (m : Nat) (B : List Nat) : List Nat → Array Bool → Bool
  | [], listed => lexTail full m B listed
  | i :: A, listed => (Region.ready .any full listed).contains i && Region.free .any full listed i && decide (i < m) && lexTo2 full m B A (listed.setIfInBounds i true)
def drawB2 (ops : Array Oper) (m : Nat) (A B : List Nat) : Bool :=
  Region.noSelect ops && (decide (m = ops.size) || (decide (m < ops.size) && Region.sinkB .any ops m && Region.chainB .any ops m)) && decide (A.length + B.length = m) && lexTo2 ops m B A (Array.replicate ops.size false)
def wSt (P : Program) (n : Nat) (H0 : Heap) (full : Array Oper) (i : Nat) (K : (Nat → AV) → Heap → Prop) (ρ : Nat → AV) (H : Heap) : Prop :=
  ∃ o, full[i]? = some o ∧ ((∃ v, AZ P n H0 full o v ρ ∧ K (aput n o.dst v ρ) H) ∨ AE P n H0 full o K ρ H)
def wAny (P : Program) (n : Nat) (H0 : Heap) (full : Array Oper) (m : Nat) (L : Array Bool → (Nat → AV) → Heap → Prop) : Nat → Array Bool → (Nat → AV) → Heap → Prop
  | 0, listed, ρ, H => L listed ρ H
  | f + 1, listed, ρ, H => Region.ready .any full listed ≠ [] ∧ ∀ i ∈ Region.ready .any full listed, i < m ∧ wSt P n H0 full i (wAny P n H0 full m L f (listed.setIfInBounds i true)) ρ H
def lexA (full : Array Oper) : List Nat → Array Bool → Option (Array Bool)
  | [], l => some l
  | i :: A, l => if (Region.ready .any full l).contains i && Region.free .any full l i && decide (i < full.size) then lexA full A (l.setIfInBounds i true) else none
inductive AItem where
  | code (c : Code)
  | ops (full : Array Oper) (l : List Oper)
  | blk (id : Nat)
  | lp (c : Code)
  | scp (c : Code)
  | bgn (l : Nat)
def aexit (id : Nat) : List AItem → Option (List AItem)
  | .blk id' :: k => if id' == id then some k else aexit id k
  | _ :: k => aexit id k
  | [] => none
structure Post where
  nrm : (Nat → AV) → Heap → Prop
  ret : (Nat → AV) → Heap → Prop
  out : Nat → (Nat → AV) → Heap → Prop
  ro : Option Nat
def Post.mark (Q : Post) (D : Nat) : Post :=
  ⟨fun ρ H => H D = some .dfr ∧ Q.nrm ρ (H.del D), fun ρ H => H D = some .dfr ∧ Q.ret ρ (H.del D), fun id ρ H => H D = some .dfr ∧ Q.out id ρ (H.del D), Q.ro⟩
def Post.of (J : (Nat → AV) → Heap → Prop) (ro : Option Nat) : Post := ⟨J, fun _ _ => False, fun _ _ _ => False, ro⟩
def NilF (ρ0 ρ : Nat → AV) : Prop := ∀ i, ρ0 i = ρ i ∨ (ρ i = .sl [] .nil ∧ ρ0 i = .sc (.slice none 0 0))
theorem NilF.refl (ρ : Nat → AV) : NilF ρ ρ := fun _ => .inl rfl
def AppC (P : Program) (T : TypeId) (xs : List AV) (t : Tok) (ys : List AV) (H : Heap) (R : AV → Heap → Prop) : Prop :=
  ∀ (W0 : World) (C : Com) (w : World) (ty : TypeId) (u z : Value) (t' : Tok), Inv W0 C H w → Rel C (.sl xs t) u → Rel C (.sl ys t') z →
    ∃ v w' r H' C', (Builtin.append_ #[T, T] ty #[u, z]).run P w = .ok v w' ∧ R r H' ∧ CLe C C' ∧ Rel C' r v ∧ Inv W0 C' H' w'
inductive AGo (P : Program) (n : Nat) : Post → List AItem → (Nat → AV) → Heap → Prop
  | nil {Q : Post} {ρ : Nat → AV} {H : Heap} : Q.nrm ρ H → AGo P n Q [] ρ H
  | ret {Q : Post} {k : List AItem} {ρ : Nat → AV} {H : Heap} : Q.ret ρ H → AGo P n Q (.code .ret :: k) ρ H
  | skip {Q : Post} {k : List AItem} {ρ : Nat → AV} {H : Heap} : AGo P n Q k ρ H → AGo P n Q (.code .skip :: k) ρ H
  | label {Q : Post} {l : Nat} {k : List AItem} {ρ : Nat → AV} {H : Heap} : AGo P n Q k ρ H → AGo P n Q (.code (.label l) :: k) ρ H
  | seq {Q : Post} {a b : Code} {k : List AItem} {ρ : Nat → AV} {H : Heap} : AGo P n Q (.code a :: .code b :: k) ρ H → AGo P n Q (.code (.seq a b) :: k) ρ H
  | cond {Q : Post} {c : Operand} {a b : Code} {t : Bool} {k : List AItem} {ρ : Nat → AV} {H : Heap} : evA ρ c = .sc (.bool t) → AGo P n Q (.code (if t then a else b) :: k) ρ H → AGo P n Q (.code (.cond c a b) :: k) ρ H
  | block {Q : Post} {id : Nat} {c : Code} {k : List AItem} {ρ : Nat → AV} {H : Heap} : AGo P n Q (.code c :: .blk id :: k) ρ H → AGo P n Q (.code (.block id c) :: k) ρ H
  | blk {Q : Post} {id : Nat} {k : List AItem} {ρ : Nat → AV} {H : Heap} : AGo P n Q k ρ H → AGo P n Q (.blk id :: k) ρ H
  | loop {Q : Post} {c : Code} {k : List AItem} {ρ ρ0 : Nat → AV} {H H0 : Heap} : HLe H0 H → NilF ρ0 ρ → AGo P n Q (.code c :: .lp c :: k) ρ0 H0 → AGo P n Q (.code (.loop c) :: k) ρ H
  | lp {Q : Post} {c : Code} {k : List AItem} {ρ ρ0 : Nat → AV} {H H0 : Heap} : HLe H0 H → NilF ρ0 ρ → AGo P n Q (.code c :: .lp c :: k) ρ0 H0 → AGo P n Q (.lp c :: k) ρ H
  | scope {Q : Post} {c : Code} {k : List AItem} {ρ : Nat → AV} {H : Heap} : AGo P n Q (.code c :: .scp c :: k) ρ H → AGo P n Q (.code (.scope c) :: k) ρ H
  | scp {Q : Post} {c : Code} {k : List AItem} {ρ : Nat → AV} {H : Heap} : AGo P n Q k ρ H → AGo P n Q (.scp c :: k) ρ H
  | exit {Q : Post} {id : Nat} {k k' : List AItem} {ρ : Nat → AV} {H : Heap} : aexit id k = some k' → AGo P n Q k' ρ H → AGo P n Q (.code (.exit id) :: k) ρ H
  | region {Q : Post} {id : Nat} {full : Array Oper} {k : List AItem} {ρ : Nat → AV} {H : Heap} : AGo P n Q (.ops full full.toList :: k) ρ H → AGo P n Q (.code (.region id full false) :: k) ρ H
  | draw {Q : Post} {id : Nat} {full : Array Oper} {k : List AItem} {ρ ρ' : Nat → AV} {H : Heap} (m : Nat) : P.follows .mixedOrders = true → drawB full m = true → AQ P n H full (fun r => r = ρ') (full.toList.take m) ρ →
      AGo P n Q (.ops full (full.toList.drop m) :: k) ρ' H → AGo P n Q (.code (.region id full true) :: k) ρ H
  | draw2 {Q : Post} {id : Nat} {full : Array Oper} {k : List AItem} {ρ : Nat → AV} {H : Heap} (m : Nat) (A B : List Nat) (H0 : Heap) (R : (Nat → AV) → Heap → Prop) : P.follows .mixedOrders = true → drawB2 full m A B = true → HC H0 H →
      AQ2 P n H0 full (fun r => AB P n H0 full R (picks full B) r H) (picks full A) ρ → (∀ ρ' H', R ρ' H' → AGo P n Q (.ops full (full.toList.drop m) :: k) ρ' H') → AGo P n Q (.code (.region id full true) :: k) ρ H
  | draw3 {Q : Post} {id : Nat} {full : Array Oper} {k : List AItem} {ρ : Nat → AV} {H : Heap} (A : List Nat) (lst : Array Bool) (H0 : Heap) (R : (Nat → AV) → Heap → Prop) : P.follows .mixedOrders = true → lexA full A (Array.replicate full.size false) = some lst → A.length ≤ full.size → HC H0 H →
      AQ2 P n H0 full (fun r => wAny P n H0 full full.size (fun l ρ' H' => Region.ready .any full l = [] ∧ R ρ' H') (full.size - A.length) lst r H) (picks full A) ρ → (∀ ρ' H', R ρ' H' → AGo P n Q k ρ' H') → AGo P n Q (.code (.region id full true) :: k) ρ H
  | opsNil {Q : Post} {full : Array Oper} {k : List AItem} {ρ : Nat → AV} {H : Heap} : AGo P n Q k ρ H → AGo P n Q (.ops full [] :: k) ρ H
  | opY {Q : Post} {full : Array Oper} {o : Oper} {r : List Oper} {v : AV} {k : List AItem} {ρ : Nat → AV} {H : Heap} : AY P n H full o v ρ → AGo P n Q (.ops full r :: k) (aput n o.dst v ρ) H → AGo P n Q (.ops full (o :: r) :: k) ρ H
  | opCall {Q : Post} {full : Array Oper} {o : Oper} {r : List Oper} {f : FuncId} {args : List AV} {R : AV → Heap → Prop} {k : List AItem} {ρ : Nat → AV} {H : Heap} : aguard full ρ n o.guard = true → astepV P o.op (evA ρ) H = .call f args →
      ACalls P f args H R → (∀ v H', R v H' → AGo P n Q (.ops full r :: k) (aput n o.dst v ρ) H') → AGo P n Q (.ops full (o :: r) :: k) ρ H
  | opAlloc {Q : Post} {full : Array Oper} {o : Oper} {r : List Oper} {cs : List AV} {T : TypeId} {k : List AItem} {ρ : Nat → AV} {H : Heap} : aguard full ρ n o.guard = true → astepV P o.op (evA ρ) H = .alloc cs T →
      (∀ b, H b = none → AGo P n Q (.ops full r :: k) (aput n o.dst (.sc (.pointer (some ⟨b, 0, none⟩))) ρ) (H.set b (.cells cs T))) → AGo P n Q (.ops full (o :: r) :: k) ρ H
  | opStore {Q : Post} {full : Array Oper} {o : Oper} {r : List Oper} {b off : Nat} {cs ds : List AV} {T : TypeId} {k : List AItem} {ρ : Nat → AV} {H : Heap} : aguard full ρ n o.guard = true → astepV P o.op (evA ρ) H = .store b off ds →
      H b = some (.cells cs T) → AGo P n Q (.ops full r :: k) (aput n o.dst (.sc undef) ρ) (H.set b (.cells (lset cs off ds) T)) → AGo P n Q (.ops full (o :: r) :: k) ρ H
  | opLits {Q : Post} {full : Array Oper} {o : Oper} {r : List Oper} {e : TypeId} {sz : Nat} {xs : List AV} {k : List AItem} {ρ : Nat → AV} {H : Heap} : aguard full ρ n o.guard = true → astepV P o.op (evA ρ) H = .lits e sz xs →
      (∀ g, H g = none → AGo P n Q (.ops full r :: k) (aput n o.dst (.sl xs (.own g xs.length sz e)) ρ) (H.set g (.open xs.length xs.length sz e))) → AGo P n Q (.ops full (o :: r) :: k) ρ H
  | opFreeze {Q : Post} {full : Array Oper} {o : Oper} {r : List Oper} {g m cap sz : Nat} {T : TypeId} {v : AV} {k : List AItem} {ρ : Nat → AV} {H : Heap} : aguard full ρ n o.guard = true → astepV P o.op (evA ρ) H = .freeze g v →
      H g = some (.open m cap sz T) → AGo P n Q (.ops full r :: k) (aput n o.dst v ρ) (H.del g) → AGo P n Q (.ops full (o :: r) :: k) ρ H
  | opUnarr {Q : Post} {full : Array Oper} {o : Oper} {r : List Oper} {b : Nat} {v : AV} {k : List AItem} {ρ : Nat → AV} {H : Heap} : aguard full ρ n o.guard = true → astepV P o.op (evA ρ) H = .unarr b v →
      AGo P n Q (.ops full r :: k) (aput n o.dst v ρ) (H.del b) → AGo P n Q (.ops full (o :: r) :: k) ρ H
  | opNew {Q : Post} {full : Array Oper} {o : Oper} {r : List Oper} {T e : TypeId} {xs ys : List AV} {t : Tok} {sz by_ : Nat} {k : List AItem} {ρ : Nat → AV} {H : Heap} : aguard full ρ n o.guard = true → astepV P o.op (evA ρ) H = .app T e xs t ys →
      ElemOk P T e sz by_ → (t = .nil ∨ t = .full) → szs sz xs = true → szs sz ys = true → ys ≠ [] → (xs.length + ys.length) * by_ ≤ 140737488355328 → xs.length + ys.length ≤ maxLen →
      (∀ g cap, H g = none → AGo P n Q (.ops full r :: k) (aput n o.dst (.sl (xs ++ ys) (.own g cap sz e)) ρ) (H.set g (.open (xs.length + ys.length) cap sz e))) → AGo P n Q (.ops full (o :: r) :: k) ρ H
  | opOwn {Q : Post} {full : Array Oper} {o : Oper} {r : List Oper} {T e : TypeId} {xs ys : List AV} {sz by_ g cap : Nat} {k : List AItem} {ρ : Nat → AV} {H : Heap} : aguard full ρ n o.guard = true → astepV P o.op (evA ρ) H = .app T e xs (.own g cap sz e) ys →
      ElemOk P T e sz by_ → H g = some (.open xs.length cap sz e) → szs sz xs = true → szs sz ys = true → (xs.length + ys.length) * by_ ≤ 140737488355328 → xs.length + ys.length ≤ maxLen →
      (∀ g' cap', (H.del g) g' = none → AGo P n Q (.ops full r :: k) (aput n o.dst (.sl (xs ++ ys) (.own g' cap' sz e)) ρ) ((H.del g).set g' (.open (xs.length + ys.length) cap' sz e))) → AGo P n Q (.ops full (o :: r) :: k) ρ H
  | opAppC {Q : Post} {full : Array Oper} {o : Oper} {r : List Oper} {T e : TypeId} {xs ys : List AV} {t : Tok} {k : List AItem} {ρ : Nat → AV} {H : Heap} (R : AV → Heap → Prop) : aguard full ρ n o.guard = true → astepV P o.op (evA ρ) H = .app T e xs t ys →
      AppC P T xs t ys H R → (∀ v H', R v H' → AGo P n Q (.ops full r :: k) (aput n o.dst v ρ) H') → AGo P n Q (.ops full (o :: r) :: k) ρ H
  | out {Q : Post} {id : Nat} {k : List AItem} {ρ : Nat → AV} {H : Heap} : aexit id k = none → Q.out id ρ H → AGo P n Q (.code (.exit id) :: k) ρ H
  | bgn {Q : Post} {l : Nat} {r : ARec} {k : List AItem} {ρ : Nat → AV} {H : Heap} : Q.ro = some l → H l = some (.lrec r) → r.st = .ready → AGo P n Q k ρ (H.set l (.lrec { r with st := .busy })) → AGo P n Q (.bgn l :: k) ρ H
  | rangeF {Q : Post} {g : Operand} {ps : Array Tmp} {asg bod : Code} {gf : FuncId} {lb : Array Value} {k : List AItem} {ρ : Nat → AV} {H : Heap} (R : Nat → Nat → AV → Heap → Prop) : Q.ro = none → evA ρ g = .sc (.func (.func gf) #[] lb) → canCall P gf = true →
      (∀ D l, H D = none → (H.set D .dfr) l = none → ACalls P gf (.sc (.func (.yield l) #[] #[]) :: lb.toList.map .sc) ((H.set D .dfr).set l (.lrec ⟨.ready, none, ps, asg, bod, D, n, ρ⟩)) (R D l)) →
      (∀ D l v H', H D = none → (H.set D .dfr) l = none → R D l v H' → ∃ r, H' l = some (.lrec r) ∧ r.st ≠ .busy) →
      (∀ D l v H' r, H D = none → (H.set D .dfr) l = none → R D l v H' → H' l = some (.lrec r) → AGo P n (Q.mark D) (r.pe.toList.map .code ++ k) ρ (H'.del l)) → AGo P n Q (.code (.rangeFunc g ps asg bod) :: k) ρ H
def ares (P : Program) (ρ : Nat → AV) (H : Heap) : List ResultVar → Option (List AV)
  | [] => some []
  | .tmp t :: r => (ares P ρ H r).map (ρ t :: ·)
  | .cell a T :: r =>
    match aload P T (ρ a) H with
    | .val v => (ares P ρ H r).map (v :: ·)
    | _ => none
def apack : List AV → AV
  | [x] => x
  | l => .tup l
def ainit (args : List AV) : Nat → AV := fun i => (args[i]?).getD (.sc undef)
def AEndP (P : Program) (rs : List ResultVar) (R : AV → Heap → Prop) (ρ : Nat → AV) (H : Heap) : Prop :=
  ∃ vs H0, ares P ρ H rs = some vs ∧ HLe H0 H ∧ R (apack vs) H0
def AEnd (P : Program) (rs : List ResultVar) (R : AV → Heap → Prop) : Post := ⟨AEndP P rs R, AEndP P rs R, fun _ _ _ => False, none⟩
structure RelF (dds : List Deferred) (C : Com) (n : Nat) (ρ : Nat → AV) (a : Act) : Prop where
  size : a.tmps.size = n
  defers : a.defers = dds
  slot : ∀ i, Rel C (ρ i) (a.tmps.getD i undef)
variable {dds : List Deferred}
theorem RelF.mono {C C' : Com} {n : Nat} {ρ : Nat → AV} {a : Act} (h : RelF dds C n ρ a) (hC : CLe C C') : RelF dds C' n ρ a := ⟨h.size, h.defers, fun i => (h.slot i).mono hC⟩
theorem RelF.nilF {C : Com} {n : Nat} {ρ ρ0 : Nat → AV} {a : Act} (h : RelF dds C n ρ a) (hn : NilF ρ0 ρ) : RelF dds C n ρ0 a := ⟨h.size, h.defers, fun i => by
  rcases hn i with e | ⟨e1, e2⟩
  · rw [e]; exact h.slot i
  · have hs := h.slot i
    rw [e1] at hs
    rw [e2]
    generalize a.tmps.getD i undef = v at hs
    unfold Rel at hs
    cases hs with
    | nils => exact Rel.sc _
    | emp _ _ _ ht => rcases ht with ht | ht | ⟨ht, _⟩ <;> cases ht
    | sl _ _ _ _ _ _ _ _ _ _ _ h7 _ => exact h7.elim⟩
theorem RelF.ev {C : Com} {n : Nat} {ρ : Nat → AV} {a : Act} (h : RelF dds C n ρ a) (x : Operand) : Rel C (evA ρ x) (a.eval x) := by
  cases x with
  | tmp t => exact h.slot t
  | const v => exact rel_ofV v
  | global g => exact Rel.sc _
  | func f => exact Rel.sc _
theorem RelF.put {C : Com} {n : Nat} {ρ : Nat → AV} {a : Act} (h : RelF dds C n ρ a) (dst : Option Tmp) {r : AV} {v : Value} (hr : Rel C r v) : RelF dds C n (aput n dst r ρ) (a.put dst v) := by
  cases dst with
  | none => exact h
  | some d =>
    refine ⟨by simp [Act.put, h.size], h.defers, fun i => ?_⟩
    simp only [aput, Act.put, Array.getD_eq_getD_getElem?, Array.getElem?_setIfInBounds]
    by_cases hd : i = d ∧ d < n
    · obtain ⟨rfl, hd⟩ := hd
      simp [hd, h.size, hr]
    · rw [if_neg hd]
      have hs := h.slot i
      rw [Array.getD_eq_getD_getElem?] at hs
      by_cases hi : d = i
      · subst hi
        have hn : ¬ d < n := fun e => hd ⟨rfl, e⟩
        rw [if_pos rfl, if_neg (by rw [h.size]; exact hn)]
        rw [Array.getElem?_eq_none (by rw [h.size]; exact Nat.le_of_not_lt hn)] at hs
        exact hs
      · rw [if_neg hi]; exact hs
def vbool : Value → Option Bool
  | .bool b => some b
  | _ => none
theorem isTrue_spec {C : Com} {x : AV} {v : Value} (h : Rel C x v) (want : Bool) : isTrue x want = (vbool v == some want) := by
  unfold isTrue
  split
  · rename_i b
    obtain rfl := h.sc_inv
    cases b <;> cases want <;> rfl
  · rename_i hx
    cases x with
    | sc y =>
      obtain rfl := h.sc_inv
      cases v <;> first | rfl | exact absurd rfl (hx _)
    | sl xs t => obtain ⟨a, c, rfl, _⟩ := h.sl_form; rfl
    | agg cs => obtain ⟨us, rfl, _⟩ := h.agg_inv; rfl
    | tup cs => obtain ⟨us, rfl, _⟩ := h.tup_inv; rfl
    | ip cs o => unfold Rel at h; cases h; rfl
theorem guard_spec {C : Com} {n : Nat} {ρ : Nat → AV} {a : Act} (h : RelF dds C n ρ a) (full : Array Oper) (o : Oper) : Region.wanted o (yielded full a.tmps) = aguard full ρ n o.guard := by
  unfold Region.wanted
  cases hg : o.guard with
  | none => rfl
  | some jw =>
    obtain ⟨j, want⟩ := jw
    simp only [aguard, yielded]
    cases hd : (full[j]?).bind (·.dst) with
    | none => rfl
    | some d =>
      simp only [Option.bind_some]
      by_cases hn : d < n
      · have hlt : d < a.tmps.size := by rw [h.size]; exact hn
        have hs := h.slot d
        rw [Array.getD_eq_getD_getElem?, Array.getElem?_eq_getElem hlt] at hs
        simp only [Option.getD_some] at hs
        rw [isTrue_spec hs want]
        clear hs
        simp only [hn, decide_true, Bool.true_and, Array.getElem?_eq_getElem hlt]
        generalize a.tmps[d] = z
        cases z <;> rfl
      · rw [Array.getElem?_eq_none (by rw [h.size]; exact Nat.le_of_not_lt hn)]
        simp [hn]
end Rg
