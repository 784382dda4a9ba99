/- What one operation does to abstract values. -/
import Derived.Test.YtdpgnbinekcgdaaGreatDoorRgA
namespace Rg
open Go Go.RowKit

/-! ### Types, by small questions -/
def tsize (P : Program) (T : TypeId) : Option Nat := (P.info? T).map (·.size)
def tbytes (P : Program) (T : TypeId) : Option Nat := (P.info? T).map (·.bytes)
def tzero (P : Program) (T : TypeId) : Option Value := (P.info? T).bind (·.zero)
def isAggD : TypeDesc → Bool
  | .struct _ | .array _ _ => true
  | _ => false
def tagg (P : Program) (T : TypeId) : Option Bool := (P.underlying T).map isAggD
def telem (P : Program) (T : TypeId) : Option TypeId :=
  match P.underlying T with
  | some (.slice e) => some e
  | _ => none
def tarr (P : Program) (T : TypeId) : Option (Nat × TypeId) :=
  match P.underlying T with
  | some (.array n e) => some (n, e)
  | _ => none
def tfield (P : Program) (T : TypeId) (f : Nat) : Option (Nat × TypeId) :=
  match P.underlying T with
  | some (.struct fs) => (fs[f]?).map fun d => (d.offset, d.type)
  | _ => none
def tkd (P : Program) (T : TypeId) : Nat :=
  match P.underlying T with
  | some .bool => 1
  | some (.int _) => 2
  | some .string => 3
  | some (.pointer _) => 4
  | some (.slice _) => 5
  | some (.map _ _) => 6
  | some (.func _ _ _) => 7
  | some (.interface _) => 8
  | some (.struct _) => 9
  | some (.array _ _) => 10
  | some _ => 11
  | none => 0
def canCall (P : Program) (f : FuncId) : Bool :=
  match P.funcs[f]? with
  | some fn => fn.body.isSome && !(fn.name == "runtime.NumGoroutine")
  | none => false

theorem telem_spec {P : Program} {T e : TypeId} (h : telem P T = some e) : P.underlying T = some (.slice e) := by
  unfold telem at h; split at h <;> simp_all
theorem tarr_spec {P : Program} {T e : TypeId} {n : Nat} (h : tarr P T = some (n, e)) : P.underlying T = some (.array n e) := by
  unfold tarr at h; split at h <;> simp_all
theorem tsize_spec {P : Program} {T : TypeId} {n : Nat} (h : tsize P T = some n) : ∃ i, P.info? T = some i ∧ i.size = n := by
  unfold tsize at h; cases hi : P.info? T with
  | none => rw [hi] at h; cases h
  | some i => rw [hi] at h; exact ⟨i, rfl, by simpa using h⟩
theorem run_sizeOf {P : Program} {T : TypeId} {n : Nat} (h : tsize P T = some n) (w : World) : (Go.sizeOf T).run P w = .ok n w := by
  obtain ⟨i, hi, hn⟩ := tsize_spec h
  simp [Go.sizeOf, typeInfo, hi, hn]
theorem run_zeroValue {P : Program} {T : TypeId} {v : Value} (h : tzero P T = some v) (w : World) : (zeroValue T).run P w = .ok v w := by
  unfold tzero at h
  cases hi : P.info? T with
  | none => rw [hi] at h; cases h
  | some i =>
    rw [hi] at h
    simp at h
    simp [zeroValue, typeInfo, hi, h]
theorem run_isAgg {P : Program} {T : TypeId} {b : Bool} (h : tagg P T = some b) (w : World) : (isAgg T).run P w = .ok b w := by
  unfold tagg at h
  cases hu : P.underlying T with
  | none => rw [hu] at h; cases h
  | some d =>
    rw [hu] at h
    simp at h
    unfold isAgg
    rw [Sem.run_bind, run_underlying hu w]
    cases d <;> simp_all [isAggD]

/-! ### Constants and zero values -/
def ofCell : Value → AV
  | .slice none 0 0 => .sl [] .nil
  | v => .sc v
def ofV : Value → AV
  | .agg cs => if cs.toList.all Value.oneCell' then .agg (cs.toList.map ofCell) else .sc (.agg cs)
  | v => ofCell v

variable {C : Com}

theorem rel_ofCell (v : Value) : Rel C (ofCell v) v := by
  unfold ofCell
  split
  · exact .nils _ rfl .nil
  · exact Rel.sc v

theorem relL_ofCells (vs : List Value) : RelL C (vs.map ofCell) vs := by
  induction vs with
  | nil => exact .nil
  | cons v vs ih => exact RelL.cons (rel_ofCell v) ih

theorem rel_ofV (v : Value) : Rel C (ofV v) v := by
  unfold ofV
  split
  · split
    · rename_i cs h
      have := RelL.agg (C := C) (as := []) (vs := []) (relL_ofCells cs.toList) (fun u hu => by simpa using List.all_eq_true.1 h u hu) .nil
      simpa [Rel] using this
    · exact Rel.sc _
  · exact rel_ofCell v

theorem one_ofCell (v : Value) (h : v.oneCell' = true) : (ofCell v).one = true := by
  unfold ofCell
  split
  · rfl
  · exact h

/-! ### The step -/
inductive ASR where
  | val (v : AV)
  | alloc (cs : List AV) (T : TypeId)
  | store (b o : Nat) (cs : List AV)
  | call (f : FuncId) (args : List AV)
  | app (T e : TypeId) (xs : List AV) (t : Tok) (ys : List AV)
  | lits (e : TypeId) (sz : Nat) (xs : List AV)
  | freeze (g : Nat) (v : AV)
  | unarr (b : Nat) (v : AV)
  | stuck

def apick (c a b : AV) : ASR :=
  match c with
  | .sc (.bool t) => .val (if t then a else b)
  | _ => .stuck

def aalloc (P : Program) (T : TypeId) : ASR :=
  match tzero P T with
  | some z => if z.cells.toList.all Value.oneCell' then .alloc (z.cells.toList.map ofCell) T else .stuck
  | none => .stuck

/-- May its cells lie in memory? -/
def AV.lies : AV → Bool
  | .sc x => x.oneCell'
  | .tup _ => false
  | _ => true

def abox (T : TypeId) (x : AV) : ASR := if x.lies then .alloc x.cells T else .stuck

def acellsAt (x : AV) (H : Heap) : Option (List AV × Nat) :=
  match x with
  | .ip cs o => some (cs, o)
  | .sc (.pointer (some ⟨b, o, none⟩)) =>
    match rd (H b) with
    | some cs => some (cs, o)
    | none => none
  | _ => none

def aload (P : Program) (T : TypeId) (x : AV) (H : Heap) : ASR :=
  match acellsAt x H with
  | some (cs, o) =>
    match tagg P T with
    | some true =>
      match tsize P T with
      | some sz => if o + sz ≤ cs.length then .val (.agg ((cs.drop o).take sz)) else .stuck
      | none => .stuck
    | some false =>
      match cs[o]? with
      | some c => .val c
      | none => .stuck
    | none => .stuck
  | none => .stuck

def astore (P : Program) (T : TypeId) (a x : AV) (H : Heap) : ASR :=
  match a with
  | .sc (.pointer (some ⟨b, o, none⟩)) =>
    match H b with
    | some (.cells cs _) => if x.lies ∧ tsize P T = some x.cells.length ∧ o + x.cells.length ≤ cs.length then .store b o x.cells else .stuck
    | _ => .stuck
  | _ => .stuck

def anil (x : AV) : ASR :=
  match x with
  | .sc (.pointer (some a)) => .val (.sc (.pointer (some a)))
  | .ip cs o => .val (.ip cs o)
  | _ => .stuck

def ibin (op : BinOp) (k : IntKind) (a b : Int) : ASR :=
  match op with
  | .add => .val (.sc (.int k (k.wrap (a + b))))
  | .sub => .val (.sc (.int k (k.wrap (a - b))))
  | .mul => .val (.sc (.int k (k.wrap (a * b))))
  | .quo => if b = 0 then .stuck else .val (.sc (.int k (k.wrap (a.tdiv b))))
  | .rem => if b = 0 then .stuck else .val (.sc (.int k (a.tmod b)))
  | .and => .val (.sc (.int k (bits .and k a b)))
  | .or => .val (.sc (.int k (bits .or k a b)))
  | .xor => .val (.sc (.int k (bits .xor k a b)))
  | .andNot => .val (.sc (.int k (bits .andNot k a b)))
  | .eql => .val (.sc (.bool (a == b)))
  | .neq => .val (.sc (.bool (a != b)))
  | .lss => .val (.sc (.bool (decide (a < b))))
  | .leq => .val (.sc (.bool (decide (a ≤ b))))
  | .gtr => .val (.sc (.bool (decide (a > b))))
  | .geq => .val (.sc (.bool (decide (a ≥ b))))
  | _ => .stuck

def ishift (op : BinOp) (k : IntKind) (a b : Int) : ASR :=
  if b < 0 then .stuck else
  match op with
  | .shl => .val (.sc (.int k (k.wrap (a * 2 ^ (min b.toNat k.bits)))))
  | .shr => .val (.sc (.int k (a.fdiv (2 ^ (min b.toNat k.bits)))))
  | _ => .stuck

def isShift : BinOp → Bool
  | .shl | .shr => true
  | _ => false

def sbin (op : BinOp) (a b : ByteArray) : ASR :=
  match op with
  | .add => if a.size + b.size ≤ 9223372036854775807 then .val (.sc (.string (a ++ b))) else .stuck
  | .eql => .val (.sc (.bool (a.toList == b.toList)))
  | .neq => .val (.sc (.bool !(a.toList == b.toList)))
  | .lss => .val (.sc (.bool (Op.bytesLess a.toList b.toList)))
  | .leq => .val (.sc (.bool (Op.bytesLess a.toList b.toList || a.toList == b.toList)))
  | .gtr => .val (.sc (.bool !(Op.bytesLess a.toList b.toList || a.toList == b.toList)))
  | .geq => .val (.sc (.bool !(Op.bytesLess a.toList b.toList)))
  | _ => .stuck

/-- Is a slice surely nil, surely not? -/
def Tok.isNil : Tok → Option Bool
  | .nil => some true
  | .own _ _ _ _ => some false
  | .live => some false
  | _ => none

def eqv (op : BinOp) (b : Bool) : ASR :=
  match op with
  | .eql => .val (.sc (.bool b))
  | .neq => .val (.sc (.bool !b))
  | _ => .stuck

def abin (P : Program) (op : BinOp) (T : TypeId) (x y : AV) : ASR :=
  match x, y with
  | .sc (.int k a), .sc (.int k' b) => if isShift op then ishift op k a b else if k = k' then ibin op k a b else .stuck
  | .sc (.string a), .sc (.string b) => sbin op a b
  | .sc (.bool a), .sc (.bool b) => if tkd P T = 1 then eqv op (a == b) else .stuck
  | .sc (.pointer none), .sc (.pointer none) => if tkd P T = 4 then eqv op true else .stuck
  | .sc (.pointer (some _)), .sc (.pointer none) => if tkd P T = 4 then eqv op false else .stuck
  | .ip _ _, .sc (.pointer none) => if tkd P T = 4 then eqv op false else .stuck
  | .sl _ t, .sl [] .nil => if tkd P T = 5 then (match t.isNil with | some b => eqv op b | none => .stuck) else .stuck
  | .sc .nilFunc, .sc .nilFunc => if tkd P T = 7 then eqv op true else .stuck
  | .sc (.func _ _ _), .sc .nilFunc => if tkd P T = 7 then eqv op false else .stuck
  | .sc .nilIface, .sc .nilIface => .stuck
  | _, _ => .stuck

def aun (op : UnOp) (x : AV) : ASR :=
  match x with
  | .sc (.bool b) => (match op with | .not => .val (.sc (.bool !b)) | _ => .stuck)
  | .sc (.int k n) => (match op with
    | .neg => .val (.sc (.int k (k.wrap (0 - n))))
    | .xor => .val (.sc (.int k (bits .xor k (if k.signed then -1 else k.max) n)))
    | _ => .stuck)
  | _ => .stuck

def tint (P : Program) (T : TypeId) : Option IntKind :=
  match P.underlying T with
  | some (.int k) => some k
  | _ => none

/-- The bytes of a row of bytes. -/
def abytes : List AV → Option (List UInt8)
  | [] => some []
  | .sc (.int .u8 n) :: r => if 0 ≤ n ∧ n < 256 then (abytes r).map (UInt8.ofNat n.toNat :: ·) else none
  | _ => none

def aconv (P : Program) (s d : TypeId) (x : AV) : ASR :=
  match x with
  | .sc (.int _ n) => if (P.underlying s).isSome then (match tint P d with | some k => .val (.sc (.int k (k.wrap n))) | none => .stuck) else .stuck
  | .sc (.string b) => if (P.underlying s).isSome then (if tkd P d = 3 then .val (.sc (.string b)) else
      (match telem P d with
        | some e => if tint P e = some .u8 ∧ tkd P s = 3 ∧ b.size ≤ maxLen then .val (.sl (b.data.toList.map fun c => .sc (.int .u8 c.toNat)) .no) else .stuck
        | none => .stuck)) else .stuck
  | .sl xs _ => if tkd P d = 3 then
      (match telem P s, abytes xs with
        | some e, some bs => if tint P e = some .u8 then .val (.sc (.string ⟨bs.toArray⟩)) else .stuck
        | _, _ => .stuck) else .stuck
  | _ => .stuck

/-- A row of bytes of one's own, seen as of its own type: it is marked. -/
def amark (P : Program) (s d : TypeId) (x : AV) : ASR :=
  match x with
  | .sl xs (.own g _ _ _) => if s = d ∧ tkd P d = 5 then (match telem P d with | some e => if tint P e = some .u8 then .freeze g (.sl xs .no) else .stuck | none => .stuck) else aconv P s d x
  | _ => aconv P s d x

/-- Are they two bytes, or more, of the text's own? -/
def litB (ps : List (Nat × Operand)) : Bool := decide (2 ≤ ps.length) && ps.all fun p => match p.2 with | .const (.int .u8 _) => true | _ => false

def aint : AV → Option Int
  | .sc (.int _ n) => some n
  | _ => none

def abound (d : Int) : Option AV → Option Int
  | none => some d
  | some (.sc (.int _ n)) => some n
  | _ => none

/-- Has each element so many cells? -/
def szs (sz : Nat) (xs : List AV) : Bool := xs.all fun x => x.cells.length == sz

def aslice (P : Program) (T : TypeId) (x : AV) (lo hi mx : Option AV) : ASR :=
  match x with
  | .sc (.string s) =>
    if tkd P T = 3 ∧ mx.isNone then
      (match abound 0 lo, abound s.size hi with
      | some l, some h => if 0 ≤ l ∧ l ≤ h ∧ h ≤ s.size then .val (.sc (.string (s.extract l.toNat h.toNat))) else .stuck
      | _, _ => .stuck)
    else .stuck
  | .sl xs t =>
    if tkd P T = 5 then
      (match abound 0 lo, abound xs.length hi, abound 0 mx with
      | some l, some h, some m => (match (telem P T).bind (tsize P) with
        | some sz => if 0 ≤ l ∧ l ≤ h ∧ h ≤ xs.length ∧ szs sz xs = true ∧ (mx.isSome → m = h ∧ hi.isSome) then
            .val (.sl ((xs.take h.toNat).drop l.toNat) (if mx.isSome then .full else .no)) else .stuck
        | none => .stuck)
      | _, _, _ => .stuck)
    else .stuck
  | _ => .stuck

/-- A whole array of one's own, sliced: nobody writes it any more. -/
def aunarr (P : Program) (T : TypeId) (x : AV) (lo hi mx : Option AV) (H : Heap) : ASR :=
  match x with
  | .sc (.pointer (some ⟨b, o, none⟩)) =>
    (match H b with
    | some (.cells cs _) =>
      (match tarr P T with
      | some (len, e) =>
        (match abound 0 lo, abound len hi with
        | some l, some h => if tsize P e = some 1 ∧ o = 0 ∧ cs.all AV.one = true ∧ cs.length = len ∧ len ≤ maxLen ∧ 0 ≤ l ∧ l ≤ h ∧ h ≤ len ∧ mx.isNone then .unarr b (.sl ((cs.take h.toNat).drop l.toNat) .no) else .stuck
        | _, _ => .stuck)
      | none => .stuck)
    | _ => .stuck)
  | _ => aslice P T x lo hi mx

def afaddr (P : Program) (S : TypeId) (x : AV) (f : Nat) : ASR :=
  match tfield P S f with
  | some (off, ty) =>
    match tsize P ty with
    | some (_ + 1) =>
      match x with
      | .sc (.pointer (some ⟨b, o, none⟩)) => .val (.sc (.pointer (some ⟨b, o + off, none⟩)))
      | .ip cs o => .val (.ip cs (o + off))
      | _ => .stuck
    | _ => .stuck
  | none => .stuck

def apart (P : Program) (ty : TypeId) (cs : List AV) (off : Nat) : ASR :=
  match tagg P ty, tsize P ty with
  | some true, some sz => if off + sz ≤ cs.length then .val (.agg ((cs.drop off).take sz)) else .stuck
  | some false, _ => (match cs[off]? with | some c => .val c | none => .stuck)
  | _, _ => .stuck

/-! ### Equality of structs -/
def tfs (P : Program) (T : TypeId) : Option (List (Bool × TypeId × Nat)) :=
  match P.underlying T with
  | some (.struct fs) => if P.stoodInHeld T = false ∧ P.eqGuardType P.depth T = false then some (fs.toList.map fun f => (f.name == "_", f.type, f.offset)) else none
  | some (.array n e) => if P.eqGuardType P.depth T = false ∧ (P.info? e).isSome then some ((List.range n).map fun i => (false, e, i * P.cellsOf e)) else none
  | _ => none
def aeqF (P : Program) (g : TypeId → AV → AV → Option Bool) (xs ys : List AV) : List (Bool × TypeId × Nat) → Option Bool
  | [] => some true
  | (blank, t, off) :: r =>
    if blank = true then aeqF P g xs ys r else
    match apart P t xs off, apart P t ys off with
    | .val a, .val b => (match g t a b, aeqF P g xs ys r with | some e, some e' => some (e && e') | _, _ => none)
    | _, _ => none
def aeqv (P : Program) : Nat → TypeId → AV → AV → Option Bool
  | 0, _, _, _ => none
  | n + 1, T, x, y =>
    match x, y with
    | .sc (.bool a), .sc (.bool b) => if tkd P T = 1 then some (a == b) else none
    | .sc (.int k a), .sc (.int k' b) => if tkd P T = 2 ∧ k = k' then some (a == b) else none
    | .sc (.string a), .sc (.string b) => if tkd P T = 3 then some (a.toList == b.toList) else none
    | .agg xs, .agg ys => (match tfs P T with | some fs => aeqF P (aeqv P n) xs ys fs | none => none)
    | _, _ => none
def abinA (P : Program) (op : BinOp) (T : TypeId) (x y : AV) : ASR :=
  match x, y with
  | .agg xs, .agg ys => (match tfs P T, aeqv P 5 T (.agg xs) (.agg ys) with | some _, some b => eqv op b | _, _ => .stuck)
  | _, _ => abin P op T x y

def afield (P : Program) (S : TypeId) (x : AV) (f : Nat) : ASR :=
  match tfield P S f, x with
  | some (off, ty), .agg cs => apart P ty cs off
  | _, _ => .stuck

def aiaddr (P : Program) (T : TypeId) (x i : AV) : ASR :=
  match aint i with
  | some n =>
    if n < 0 then .stuck else
    match x with
    | .sl xs _ =>
      (match telem P T with
      | some e =>
        (match xs[n.toNat]? with
        | some y => if tsize P e = some y.cells.length then .val (.ip y.cells 0) else .stuck
        | none => .stuck)
      | none => .stuck)
    | .sc (.slice (some ⟨b, o, none⟩) len _) =>
      (match telem P T with
      | some e => (match tsize P e with | some sz => if n.toNat < len then .val (.sc (.pointer (some ⟨b, o + n.toNat * sz, none⟩))) else .stuck | none => .stuck)
      | none => .stuck)
    | .sc (.pointer (some ⟨b, o, none⟩)) =>
      (match tarr P T with
      | some (len, e) =>
        (match tsize P e with
        | some sz => if n < len then .val (.sc (.pointer (some ⟨b, o + n.toNat * sz, none⟩))) else .stuck
        | none => .stuck)
      | none => .stuck)
    | .ip cs o =>
      (match tarr P T with
      | some (len, e) =>
        (match tsize P e with
        | some sz => if n < len then .val (.ip cs (o + n.toNat * sz)) else .stuck
        | none => .stuck)
      | none => .stuck)
    | _ => .stuck
  | none => .stuck

def aindex (P : Program) (T : TypeId) (x i : AV) : ASR :=
  match aint i with
  | some n =>
    if n < 0 then .stuck else
    match x with
    | .agg cs =>
      (match tarr P T with
      | some (len, e) =>
        (match tsize P e with
        | some sz => if n < len then apart P e cs (n.toNat * sz) else .stuck
        | none => .stuck)
      | none => .stuck)
    | .sc (.string s) =>
      if tkd P T = 3 then (match s.data.toList[n.toNat]? with | some b => .val (.sc (.int .u8 b.toNat)) | none => .stuck) else .stuck
    | _ => .stuck
  | none => .stuck

def aextract (x : AV) (i : Nat) : ASR :=
  match x with
  | .tup cs => (match cs[i]? with | some c => .val c | none => .stuck)
  | _ => .stuck

def lset : List AV → Nat → List AV → List AV
  | cs, _, [] => cs
  | cs, o, c :: r => lset (cs.set o c) (o + 1) r

def aplace (P : Program) (T : TypeId) (i : Nat) : Option (Nat × Nat) :=
  match P.underlying T with
  | some (.struct fs) => (fs[i]?).bind fun f => (tsize P f.type).map fun s => (f.offset, s)
  | some (.array _ e) => (tsize P e).map fun s => (i * s, s)
  | _ => none

def afill (P : Program) (T : TypeId) (cs : List AV) : List (Nat × AV) → Option (List AV)
  | [] => some cs
  | (i, x) :: r =>
    match aplace P T i with
    | some (off, sz) => if x.lies ∧ x.cells.length = sz ∧ off + sz ≤ cs.length then afill P T (lset cs off x.cells) r else none
    | none => none

/-- Are the sizes of its parts known? -/
def tsizes (P : Program) (T : TypeId) : Bool :=
  match P.underlying T with
  | some (.struct fs) => fs.toList.all fun f => (tsize P f.type).isSome
  | some (.array _ e) => (tsize P e).isSome
  | _ => false

def abuild (P : Program) (T : TypeId) (ps : List (Nat × AV)) : ASR :=
  match tzero P T with
  | some z =>
    if z.cells.toList.all Value.oneCell' ∧ tsizes P T = true then
      (match afill P T (z.cells.toList.map ofCell) ps with
      | some cs => .val (.agg cs)
      | none => .stuck)
    else .stuck
  | none => .stuck

def aels (sz : Nat) (xs : List AV) : List (Nat × AV) → Option (List AV)
  | [] => some xs
  | (i, x) :: r => if x.lies ∧ x.cells.length = sz ∧ i < xs.length then aels sz (xs.set i x) r else none

def abuildSlice (P : Program) (T : TypeId) (n : Nat) (ps : List (Nat × AV)) : ASR :=
  match telem P T with
  | some e =>
    match tsize P e, tzero P e with
    | some sz, some z =>
      if z.cells.toList.all Value.oneCell' ∧ z.cells.toList.length = sz ∧ n * sz ≤ 16777216 ∧ n ≤ 16777216 then
        (match aels sz (List.replicate n (ofV z)) ps with
        | some xs => .val (.sl xs .full)
        | none => .stuck)
      else .stuck
    | _, _ => .stuck
  | none => .stuck

def scs : List AV → Option (List Value)
  | [] => some []
  | .sc v :: r => (scs r).map (v :: ·)
  | _ => none

/-- A row of bytes that stand in the text: of one's own. -/
def alits (P : Program) (T : TypeId) (r : ASR) : ASR :=
  match r with
  | .val (.sl xs .full) => (match telem P T with | some e => (match tsize P e with | some sz => if 1 ≤ sz ∧ xs.length ≤ maxLen then .lits e sz xs else .stuck | none => .stuck) | none => .stuck)
  | _ => .stuck

def amakeFunc (fn : Fn) (first cap : List AV) : ASR :=
  match scs first, scs cap with
  | some a, some b => .val (.sc (.func fn a.toArray b.toArray))
  | _, _ => .stuck

def alen (P : Program) (T : TypeId) (x : AV) : ASR :=
  match x with
  | .sl xs _ => if tkd P T = 5 then .val (.sc (.int .i64 xs.length)) else .stuck
  | .sc (.string s) => if tkd P T = 3 then .val (.sc (.int .i64 s.size)) else .stuck
  | .sc (.slice _ n _) => if tkd P T = 5 then .val (.sc (.int .i64 n)) else .stuck
  | _ => .stuck

def amin2 : AV → AV → Option AV
  | .sc (.int k a), .sc (.int _ b) => some (.sc (.int k (if b < a then b else a)))
  | _, _ => none
def amax2 : AV → AV → Option AV
  | .sc (.int k a), .sc (.int _ b) => some (.sc (.int k (if a < b then b else a)))
  | _, _ => none
def afold (f : AV → AV → Option AV) : AV → List AV → ASR
  | x, [] => .val x
  | x, y :: r => match f x y with | some z => afold f z r | none => .stuck

def abuiltin (P : Program) (b : Builtin) (ts : List TypeId) (args : List AV) : ASR :=
  match b, ts, args with
  | .len, [T], [x] => alen P T x
  | .min, _, x :: r => afold amin2 x r
  | .max, _, x :: r => afold amax2 x r
  | .append, [T, T'], [.sl xs t, .sl ys _] => if T' = T then (match telem P T with | some e => .app T e xs t ys | none => .stuck) else .stuck
  | .append, [T, T'], [.sc (.slice a n c), .sl ys t] => if T' = T then .call P.funcs.size [.sc (.int .i64 (T : Nat)), .sc (.slice a n c), .sl ys t] else .stuck
  | _, _, _ => .stuck

def acallv (P : Program) (f : AV) (args : List AV) : ASR :=
  match f with
  | .sc (.func (.func n) first cap) => if canCall P n then .call n (first.toList.map ofV ++ args ++ cap.toList.map ofV) else .stuck
  | .sc (.func (.yield l) first cap) => if first.isEmpty && cap.isEmpty then .call (P.funcs.size + 1 + l) args else .stuck
  | _ => .stuck

def acall (P : Program) (c : Call) (ev : Operand → AV) : ASR :=
  match c.callee with
  | .builtin b => abuiltin P b c.argTypes.toList (c.args.toList.map ev)
  | .value f => acallv P (ev f) (c.args.toList.map ev)
  | _ => .stuck

def astepV (P : Program) (op : Op) (ev : Operand → AV) (H : Heap) : ASR :=
  match op with
  | .move x => .val (ev x)
  | .assign x => .val (ev x)
  | .pick c a b => apick (ev c) (ev a) (ev b)
  | .alloc T => aalloc P T
  | .box T x => abox T (ev x)
  | .build T ps => abuild P T (ps.toList.map fun p => (p.1, ev p.2))
  | .buildSlice T n ps => if litB ps.toList then alits P T (abuildSlice P T n (ps.toList.map fun p => (p.1, ev p.2))) else abuildSlice P T n (ps.toList.map fun p => (p.1, ev p.2))
  | .load T x => aload P T (ev x) H
  | .store T a x => astore P T (ev a) (ev x) H
  | .nilCheck x => anil (ev x)
  | .binOp op T x y _ => abinA P op T (ev x) (ev y)
  | .unOp op _ x => aun op (ev x)
  | .convert s d x => amark P s d (ev x)
  | .slice T x lo hi mx => aunarr P T (ev x) (lo.map ev) (hi.map ev) (mx.map ev) H
  | .fieldAddr S x f => afaddr P S (ev x) f
  | .field S x f => afield P S (ev x) f
  | .indexAddr T x i => aiaddr P T (ev x) (ev i)
  | .index T x i => aindex P T (ev x) (ev i)
  | .extract t i => aextract (ev t) i
  | .makeFunc fn first cap => amakeFunc fn (first.toList.map ev) (cap.toList.map ev)
  | .call c => acall P c ev
  | _ => .stuck

end Rg
