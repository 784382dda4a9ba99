/- From a call's arguments, as they are read, to abstract values. -/
import Derived.Test.YtdpgnbinekcgdaaGreatDoorRgN
import Derived.ProofKit
import Derived.OpenShut
namespace Rg
open Go Go.RowKit Go.WideShapes Go.ChangeShapes

inductive Sh where
  | bool
  | int (k : IntKind)
  | str
  | sl (s : Sh)
  | st (ss : List Sh)

mutual
def fits : Sh → AV → Prop
  | .bool, a => ∃ b, a = .sc (.bool b)
  | .int k, a => ∃ n, a = .sc (.int k n) ∧ (Lit.int k n).wf = true
  | .str, a => ∃ s : ByteArray, a = .sc (.string s) ∧ s.size ≤ maxLen
  | .sl s, a => ∃ xs, a = .sl xs .no ∧ xs.length ≤ maxLen ∧ ∀ x ∈ xs, fits s x
  | .st ss, a => ∃ cs, a = .agg cs ∧ fitsL ss cs
def fitsL : List Sh → List AV → Prop
  | [], cs => cs = []
  | s :: ss, cs => ∃ a r, cs = a.cells ++ r ∧ fits s a ∧ fitsL ss r
end

def laidB (P : Program) : Nat → List Field → Nat → Bool
  | off, [], tot => off == tot
  | off, f :: r, tot => f.offset == off && laidB P (off + P.cellsOf f.type) r tot

def shOf (P : Program) : Nat → TypeId → Option Sh
  | 0, _ => none
  | n + 1, t =>
    match P.underlying t with
    | some .bool => some .bool
    | some (.int k) => some (.int k)
    | some .string => some .str
    | some (.slice e) => if P.cellsOf e = 0 then none else (shOf P n e).map .sl
    | some (.struct fs) => if laidB P 0 fs.toList (P.cellsOf t) then (fs.toList.mapM fun f => shOf P n f.type).map .st else none
    | some (.array k e) => if P.cellsOf t = k * P.cellsOf e then (shOf P n e).map fun s => .st (List.replicate k s) else none
    | _ => none

/-- All that a world's memory holds. -/
def comOf (w : World) : Com := fun b o => w.cell? ⟨b, o, none⟩

theorem mapM_spec {α β : Type} {f : α → Option β} : ∀ {l : List α} {r : List β}, l.mapM f = some r → r.length = l.length ∧ ∀ (i : Nat) (x : α), l[i]? = some x → ∃ y, r[i]? = some y ∧ f x = some y
  | [], r, h => by simp at h; subst h; simp
  | a :: l, r, h => by
    simp only [List.mapM_cons, Option.bind_eq_bind, Option.pure_def, Option.bind_eq_some_iff, Option.some.injEq] at h
    obtain ⟨y, hy, r', hr, rfl⟩ := h
    obtain ⟨h1, h2⟩ := mapM_spec hr
    refine ⟨by simp [h1], fun i x hx => ?_⟩
    cases i with
    | zero => simp at hx; subst hx; exact ⟨y, rfl, hy⟩
    | succ i => simpa using h2 i x (by simpa using hx)

theorem cells_spec {w : World} {a : Addr} {n : Nat} {l : List Value} (h : w.cells? 0 a n = some l) : l.length = n ∧ ∀ (i : Nat) (u : Value), l[i]? = some u → w.cell? (a.add i) = some u := by
  unfold World.cells? at h
  rw [if_pos (Nat.zero_le _)] at h
  obtain ⟨h1, h2⟩ := mapM_spec h
  simp at h1
  refine ⟨h1, fun i u hu => ?_⟩
  have hi := (List.getElem?_eq_some_iff.1 hu).1
  obtain ⟨y, hy, hf⟩ := h2 i i (List.getElem?_range (by omega))
  rw [hu] at hy; cases hy; exact hf

section
variable {H : Type} {enc : TypeId × Value → H} {P : Program} {w : World} {sp : Nat → Bool} {held : Bool}

theorem elems_spec {e : TypeId} {s : Sh} {b o : Nat} {fuel sz : Nat} (hsz : sz = P.cellsOf e)
    (ih : ∀ (cs : List Value) (d : DataW H) (ps : List MemPlace), DataW.trod enc P w 0 sp held fuel e cs = some (d, ps) → ∃ a : AV, fits s a ∧ RelL (comOf w) a.cells cs ∧ ∀ u ∈ cs, u.oneCell' = true)
    :
    ∀ (n : Nat), (∀ i, i < n → ∃ z, (w.cells? 0 (Addr.add ⟨b, o, none⟩ (i * sz)) sz).bind (DataW.trod enc P w 0 sp held fuel e) = some z) → ∃ (xs : List AV) (us : List Value), xs.length = n ∧ us.length = n * sz ∧ RelL (comOf w) (xs.flatMap AV.cells) us ∧ (∀ x ∈ xs, fits s x ∧ x.cells.length = sz) ∧
      (∀ u ∈ us, u.oneCell' = true) ∧ ∀ (j : Nat) (u : Value), us[j]? = some u → comOf w b (o + j) = some u := by
  intro n
  induction n with
  | zero => intro _; exact ⟨[], [], rfl, by simp, RelL.nil, by simp, by simp, by simp⟩
  | succ n ihn =>
    intro h
    obtain ⟨xs, us, h1, h2, h3, h4, h5, h6⟩ := ihn fun i hi => h i (by omega)
    obtain ⟨⟨d, ps⟩, hd⟩ := h n (by omega)
    obtain ⟨cs, hc, ht⟩ := Option.bind_eq_some_iff.1 hd
    obtain ⟨a, ha1, ha2, ha3⟩ := ih cs d ps ht
    obtain ⟨c1, c2⟩ := cells_spec hc
    have hal := ha2.length
    refine ⟨xs ++ [a], us ++ cs, by simp [h1], by simp [h2, c1, Nat.succ_mul], ?_, ?_, ?_, ?_⟩
    · simp only [List.flatMap_append, List.flatMap_cons, List.flatMap_nil, List.append_nil]
      exact h3.append ha2
    · intro x hx
      rcases List.mem_append.1 hx with hx | hx
      · exact h4 x hx
      · simp at hx; subst hx; exact ⟨ha1, by omega⟩
    · intro u hu
      rcases List.mem_append.1 hu with hu | hu
      · exact h5 u hu
      · exact ha3 u hu
    · intro j u hu
      rw [List.getElem?_append] at hu
      split at hu
      · exact h6 j u hu
      · rename_i hj
        have := c2 _ u hu
        rw [addr_add, addr_add] at this
        unfold comOf
        rw [h2] at this
        rw [show o + j = o + n * sz + (j - n * sz) by omega]
        exact this

theorem fields_spec {n fuel : Nat} {cs : List Value}
    (ih : ∀ (t : TypeId) (s : Sh) (cs : List Value) (d : DataW H) (ps : List MemPlace), shOf P n t = some s → DataW.trod enc P w 0 sp held fuel t cs = some (d, ps) → ∃ a : AV, fits s a ∧ RelL (comOf w) a.cells cs ∧ ∀ u ∈ cs, u.oneCell' = true) :
    ∀ (fs : List Field) (off : Nat) (ss : List Sh), laidB P off fs cs.length = true → (fs.mapM fun f => shOf P n f.type) = some ss →
      (∀ f ∈ fs, ∃ z, DataW.trod enc P w 0 sp held fuel f.type ((cs.drop f.offset).take (P.cellsOf f.type)) = some z) → ∃ as : List AV, fitsL ss as ∧ RelL (comOf w) as (cs.drop off) ∧ ∀ u ∈ cs.drop off, u.oneCell' = true
  | [], off, ss, hl, hs, hx => by
    simp [laidB] at hl
    simp at hs
    subst hs
    refine ⟨[], by simp [fitsL], ?_, ?_⟩
    · rw [List.drop_eq_nil_of_le (by omega)]; exact .nil
    · rw [List.drop_eq_nil_of_le (by omega)]; simp
  | f :: fs, off, ss, hl, hs, hx => by
    simp only [laidB, Bool.and_eq_true, beq_iff_eq] at hl
    obtain ⟨ho, hl⟩ := hl
    simp only [List.mapM_cons, Option.bind_eq_bind, Option.pure_def, Option.bind_eq_some_iff, Option.some.injEq] at hs
    obtain ⟨s, hs1, ss', hs2, rfl⟩ := hs
    obtain ⟨⟨d, ps⟩, hx1⟩ := hx f (by simp)
    rw [ho] at hx1
    obtain ⟨a, ha1, ha2, ha3⟩ := ih _ _ _ _ _ hs1 hx1
    obtain ⟨as, hb1, hb2, hb3⟩ := fields_spec ih fs _ ss' hl hs2 fun g hg => hx g (by simp [hg])
    have e : cs.drop off = (cs.drop off).take (P.cellsOf f.type) ++ cs.drop (off + P.cellsOf f.type) := by
      rw [← List.drop_drop, List.take_append_drop]
    refine ⟨a.cells ++ as, ⟨a, as, rfl, ha1, hb1⟩, ?_, ?_⟩
    · rw [e]; exact ha2.append hb2
    · rw [e]
      intro u hu
      rcases List.mem_append.1 hu with hu | hu
      · exact ha3 u hu
      · exact hb3 u hu

theorem arr_spec {fuel k c : Nat} {e : TypeId} {se : Sh} {cs : List Value} (hc : c = P.cellsOf e) (hl : cs.length = k * c)
    (ih : ∀ (cs : List Value) (d : DataW H) (ps : List MemPlace), DataW.trod enc P w 0 sp held fuel e cs = some (d, ps) → ∃ a : AV, fits se a ∧ RelL (comOf w) a.cells cs ∧ ∀ u ∈ cs, u.oneCell' = true)
    (hx : ∀ i, i < k → ∃ z, DataW.trod enc P w 0 sp held fuel e ((cs.drop (i * c)).take c) = some z) :
    ∀ j, j ≤ k → ∃ as : List AV, fitsL (List.replicate j se) as ∧ RelL (comOf w) as (cs.drop ((k - j) * c)) ∧ ∀ u ∈ cs.drop ((k - j) * c), u.oneCell' = true
  | 0, _ => by
    refine ⟨[], by simp [fitsL], ?_, ?_⟩
    · rw [List.drop_eq_nil_of_le (by rw [hl]; simp)]; exact .nil
    · rw [List.drop_eq_nil_of_le (by rw [hl]; simp)]; simp
  | j + 1, hj => by
    obtain ⟨⟨d, ps⟩, hd⟩ := hx (k - (j + 1)) (by omega)
    obtain ⟨a, ha1, ha2, ha3⟩ := ih _ _ _ hd
    obtain ⟨as, hb1, hb2, hb3⟩ := arr_spec hc hl ih hx j (by omega)
    have e0 : (k - j) * c = (k - (j + 1)) * c + c := by rw [show k - j = (k - (j + 1)) + 1 by omega, Nat.succ_mul]
    have e1 : cs.drop ((k - (j + 1)) * c) = (cs.drop ((k - (j + 1)) * c)).take c ++ cs.drop ((k - j) * c) := by
      rw [e0, ← List.drop_drop, List.take_append_drop]
    refine ⟨a.cells ++ as, ⟨a, as, rfl, ha1, hb1⟩, ?_, ?_⟩
    · rw [e1]; exact ha2.append hb2
    · rw [e1]
      intro u hu
      rcases List.mem_append.1 hu with hu | hu
      · exact ha3 u hu
      · exact hb3 u hu

theorem open_cells : ∀ (fuel n : Nat) (t : TypeId) (s : Sh) (cs : List Value) (d : DataW H) (ps : List MemPlace), shOf P n t = some s → DataW.trod enc P w 0 sp held fuel t cs = some (d, ps) →
    ∃ a : AV, fits s a ∧ RelL (comOf w) a.cells cs ∧ ∀ u ∈ cs, u.oneCell' = true := by
  intro fuel
  induction fuel with
  | zero => intro n t s cs d ps _ h; simp [DataW.trod] at h
  | succ fuel ih =>
    intro n t s cs d ps hs h
    cases n with
    | zero => simp [shOf] at hs
    | succ n =>
    unfold shOf at hs
    split at hs
    · rename_i hu
      cases hs
      obtain ⟨b, rfl, _⟩ := DataW.trod_bool hu h
      exact ⟨.sc (.bool b), by simp [fits], .sc _ .nil, by simp⟩
    · rename_i k hu
      cases hs
      obtain ⟨i, rfl, _, hw⟩ := DataW.trod_int hu h
      exact ⟨.sc (.int k i), ⟨i, rfl, hw⟩, .sc _ .nil, by simp⟩
    · rename_i hu
      cases hs
      obtain ⟨b, rfl, _, hb⟩ := DataW.trod_string hu h
      exact ⟨.sc (.string b), ⟨b, rfl, hb⟩, .sc _ .nil, by simp⟩
    · rename_i e hu
      split at hs
      · cases hs
      rename_i hz
      obtain ⟨se, hse, rfl⟩ := Option.map_eq_some_iff.1 hs
      rcases DataW.trod_slice hu h with ⟨rfl, _⟩ | ⟨a, len, cap, elems, rest, m, hm, rfl, _, _, hl, hc, hel, hat, _, _⟩
      · exact ⟨.sl [] .no, ⟨[], rfl, by simp, by simp⟩, .nils _ rfl .nil, by simp⟩
      · cases hm
        have hsome : ∀ i, i < len → ∃ z, (w.cells? 0 (a.add (i * P.cellsOf e)) (P.cellsOf e)).bind (DataW.trod enc P w 0 sp held fuel e) = some z := fun i hi => ⟨elems[i]'(by omega), by rw [hat i hi]; simp [hel, hi]⟩
        by_cases h0 : len = 0
        · subst h0
          exact ⟨.sl [] .no, ⟨[], rfl, by simp, by simp⟩, .emp _ a cap (.inl rfl) hc .nil, by simp⟩
        · have hspot : a.spot = none := by
            obtain ⟨z, hz'⟩ := hsome 0 (by omega)
            obtain ⟨cs, hcs, _⟩ := Option.bind_eq_some_iff.1 hz'
            obtain ⟨c1, c2⟩ := cells_spec hcs
            have := c2 0 (cs[0]'(by omega)) (List.getElem?_eq_getElem _)
            simp [Addr.add, World.cell?] at this
            split at this
            · split at this
              · cases this
              · rename_i hsp; simpa using hsp
            · cases this
          obtain ⟨b, o, spot⟩ := a
          simp only at hspot
          subst hspot
          obtain ⟨xs, us, h1, h2, h3, h4, h5, h6⟩ := elems_spec (enc := enc) (sp := sp) (held := held) (b := b) (o := o) (sz := P.cellsOf e) rfl (fun cs d ps hh => ih n e se cs d ps hse hh) len hsome
          refine ⟨.sl xs .no, ⟨xs, rfl, by omega, fun x hx => (h4 x hx).1⟩, ?_, by simp⟩
          rw [← h1]
          exact .sl _ b o cap (P.cellsOf e) h3 (fun x hx => (h4 x hx).2) h5 h6 (by omega) hc trivial .nil
    · rename_i fs hu
      split at hs
      · rename_i hlaid
        obtain ⟨ss, hss, rfl⟩ := Option.map_eq_some_iff.1 hs
        obtain ⟨xs, m, hm, _, hlen, hxl, hat⟩ := DataW.trod_struct hu h
        cases hm
        obtain ⟨as, h1, h2, h3⟩ := fields_spec (fun t s cs d ps h1 h2 => ih n t s cs d ps h1 h2) fs.toList 0 ss (by rw [hlen]; exact hlaid) hss fun f hf => by
          obtain ⟨i, hi, rfl⟩ := List.getElem_of_mem hf
          have hi' : i < fs.size := by simpa using hi
          have := hat i fs[i] (by simp [hi'])
          refine ⟨xs[i]'(by omega), ?_⟩
          simp only [Array.getElem_toList]
          rw [this]; simp [hxl, hi']
        exact ⟨.agg as, ⟨as, rfl, h1⟩, by simpa using h2, by simpa using h3⟩
      · cases hs
    · rename_i k e hu
      split at hs
      · rename_i hsz
        obtain ⟨se, hse, rfl⟩ := Option.map_eq_some_iff.1 hs
        obtain ⟨xs, m, hm, _, hlen, hxl, hat⟩ := DataW.trod_array hu h
        cases hm
        obtain ⟨as, h1, h2, h3⟩ := arr_spec (enc := enc) (sp := sp) (held := held) (k := k) rfl (by rw [hlen, hsz]) (fun cs d ps hh => ih n e se cs d ps hse hh)
          (fun i hi => ⟨xs[i]'(by omega), by rw [hat i hi]; simp [hxl, hi]⟩) k (Nat.le_refl _)
        exact ⟨.agg as, ⟨as, rfl, h1⟩, by simpa using h2, by simpa using h3⟩
      · cases hs
    · cases hs

theorem open_arg {r : Reach} {base n : Nat} {t : TypeId} {s : Sh} {v : Value} {d : DataW H} {ps : List MemPlace} (hs : shOf P n t = some s) (hv : Value.okWide P w r base t v) (h : DataW.Trod enc P w 0 sp held t v d ps) :
    ∃ a : AV, fits s a ∧ Rel (comOf w) a v := by
  obtain ⟨fuel, hf⟩ := h
  obtain ⟨a, h1, h2, h3⟩ := open_cells fuel n t s _ d ps hs hf
  refine ⟨a, h1, ?_⟩
  cases n with
  | zero => simp [shOf] at hs
  | succ n =>
  unfold shOf at hs
  split at hs
  · rename_i hu
    cases hs
    obtain ⟨b, rfl⟩ := h1
    simp only [Value.okWide, hu, Cell.okWide, Cell.ok] at hv
    cases v <;> simp at hv
    simpa [Rel, Value.cells, AV.cells] using h2
  · rename_i k hu
    cases hs
    obtain ⟨b, rfl, _⟩ := h1
    simp only [Value.okWide, hu, Cell.okWide, Cell.ok] at hv
    cases v <;> simp at hv
    simpa [Rel, Value.cells, AV.cells] using h2
  · rename_i hu
    cases hs
    obtain ⟨b, rfl, _⟩ := h1
    simp only [Value.okWide, hu, Cell.okWide, Cell.ok] at hv
    cases v <;> simp at hv
    simpa [Rel, Value.cells, AV.cells] using h2
  · rename_i e hu
    split at hs
    · cases hs
    obtain ⟨se, _, rfl⟩ := Option.map_eq_some_iff.1 hs
    obtain ⟨xs, rfl, _⟩ := h1
    obtain ⟨a, l, c, rfl⟩ := okWide_slice hu hv
    simpa [Rel, Value.cells, AV.cells] using h2
  · rename_i fs hu
    split at hs
    · obtain ⟨ss, _, rfl⟩ := Option.map_eq_some_iff.1 hs
      obtain ⟨cs, rfl, _⟩ := h1
      obtain ⟨us, rfl, _⟩ := okWide_struct hu hv
      have := RelL.agg (C := comOf w) (as := []) (vs := []) (us := us.toList) (cs := cs) (by simpa [Value.cells, AV.cells] using h2) (by simpa [Value.cells] using h3) .nil
      simpa [Rel] using this
    · cases hs
  · rename_i k e hu
    split at hs
    · obtain ⟨se, _, rfl⟩ := Option.map_eq_some_iff.1 hs
      obtain ⟨cs, rfl, _⟩ := h1
      obtain ⟨us, rfl⟩ : ∃ us, v = .agg us := by
        simp only [Value.okWide, hu] at hv
        obtain ⟨us, h1, _⟩ := hv
        exact ⟨us, h1⟩
      have := RelL.agg (C := comOf w) (as := []) (vs := []) (us := us.toList) (cs := cs) (by simpa [Value.cells, AV.cells] using h2) (by simpa [Value.cells] using h3) .nil
      simpa [Rel] using this
    · cases hs
  · cases hs

def fitsAll : List Sh → List AV → Prop
  | [], as => as = []
  | s :: ss, as => ∃ a r, as = a :: r ∧ fits s a ∧ fitsAll ss r

theorem open_args {r : Reach} {base n : Nat} : ∀ {ts : List TypeId} {ss : List Sh} {vs : List Value} {ds : List (DataW H)} {ps : List MemPlace}, (ts.mapM fun t => shOf P n t) = some ss →
    (∀ (j : Nat) t v, ts[j]? = some t → vs[j]? = some v → Value.okWide P w r base t v) → DataW.TrodAll enc P w 0 sp held ts vs ds ps → ds.length = ts.length ∧ ∃ as : List AV, fitsAll ss as ∧ RelL (comOf w) as vs
  | [], ss, vs, ds, ps, hs, _, h => by
    obtain ⟨rfl, rfl, rfl⟩ := trodAll_nil h
    simp at hs; subst hs
    exact ⟨rfl, [], by simp [fitsAll], .nil⟩
  | t :: ts, ss, vs, ds, ps, hs, hv, h => by
    simp only [List.mapM_cons, Option.bind_eq_bind, Option.pure_def, Option.bind_eq_some_iff, Option.some.injEq] at hs
    obtain ⟨s, hs1, ss', hs2, rfl⟩ := hs
    obtain ⟨v, vs', d, ds', a, b, rfl, rfl, rfl, h1, h2⟩ := trodAll_cons h
    obtain ⟨x, hx1, hx2⟩ := open_arg hs1 (hv 0 t v rfl rfl) h1
    obtain ⟨hl, as, ha1, ha2⟩ := open_args hs2 (fun j t v ht hv' => hv (j + 1) t v (by simpa using ht) (by simpa using hv')) h2
    exact ⟨by simp [hl], x :: as, ⟨x, as, rfl, hx1, ha1⟩, RelL.cons hx2 ha2⟩

theorem stay_args (hl : laidOutB P = true) {w' : World} (hb : Below w.heap.size w w') {sp' : Nat → Bool} : ∀ {ts : List TypeId} {vs : List Value} {ds : List (DataW H)} {ps : List MemPlace}, (ts.all fun t => P.readableRec t && decide (t < P.types.size)) = true →
    DataW.TrodAll enc P w 0 (fun _ => true) true ts vs ds ps → (∀ p ∈ ps, p.block < w.heap.size) → (∀ p ∈ ps, sp' p.block = true) → DataW.TrodAll enc P w' 0 sp' true ts vs ds ps
  | [], vs, ds, ps, _, h, _, _ => by
    obtain ⟨rfl, rfl, rfl⟩ := trodAll_nil h
    exact rfl
  | t :: ts, vs, ds, ps, hr, h, hlt, hs => by
    simp only [List.all_cons, Bool.and_eq_true, decide_eq_true_eq] at hr
    obtain ⟨v, vs', d, ds', a, b, rfl, rfl, rfl, h1, h2⟩ := trodAll_cons h
    exact ⟨a, b, WideElems.Trod_stays hl hr.1.1 hr.1.2 h1 (fun p hp => hb.same (hlt p (by simp [hp]))) (fun p hp => hs p (by simp [hp])),
      stay_args hl hb hr.2 h2 (fun p hp => hlt p (by simp [hp])) (fun p hp => hs p (by simp [hp])), rfl⟩

theorem inv_start (w : World) : Inv w (comOf w) (fun _ => none) w := ⟨Below.refl _ _, fun _ _ _ h => h, fun _ _ h => by cases h⟩

/-- A law's call: by its run over abstract values. -/
theorem law_contract {f : FuncId} {fn : Func} {s : ChangeSpec} {ts : List TypeId} {ss : List Sh} {rt : TypeId} {n : Nat} (hfn : P.funcs[f]? = some fn) (hts : fn.params.toList = ts) (hss : (ts.mapM fun t => shOf P n t) = some ss) (hrt : fn.resultTypes = #[rt]) (hbool : P.underlying rt = some .bool)
    (hvars : s.vars = []) (hspec : ∀ ds : List (DataW H), ds.length = ts.length → s.fn H ds = { results := [.lit (.bool true)], args := ds }) (hl : laidOutB P = true) (hread : (ts.all fun t => P.readableRec t && decide (t < P.types.size)) = true)
    (hlaw : ∀ as, fitsAll ss as → AOk P f as (fun _ => none) (.sc (.bool true)) (fun _ => none))
    (W : World) (base : Nat) (args : Array Value) (ds gs : List (DataW H)) (before : List MemPlace)
    (hval : ∀ (j : Nat) t v, fn.params[j]? = some t → args[j]? = some v → Value.okWide P W .any base t v) (hW : DataW.Whole enc P fn.params.toList s.vars false W args.toList ds gs before) :
    Calls P f args W fun e W' => ∃ v, e = .returned v ∧ s.post enc P fn false true false false W args v W' := by
  have hlt := hW.lt
  have hW' := hW
  obtain ⟨p, q, hA, hV, rfl, hfz, hnd⟩ := hW
  rw [hvars] at hV
  have hV' := hV
  cases gs with
  | cons g gs => exact hV.elim
  | nil =>
  obtain rfl : q = [] := hV
  obtain ⟨hdl, as, hfit, hrel⟩ := open_args (r := .any) (base := base) hss (fun j t v ht hv => hval j t v (by rw [← hts] at ht; simpa using ht) (by simpa using hv)) (hts ▸ hA)
  have hcall := hlaw as hfit W (comOf W) W args.toList (inv_start W) hrel
  rw [Array.toArray_toList] at hcall
  refine (hcall.calls (Array.getElem?_eq_some_iff.1 hfn).1).mono fun e W' ⟨r, H', C', v, he, ⟨hr, _⟩, _, hv, hinv⟩ => ?_
  subst hr
  obtain rfl := hv.sc_inv
  refine ⟨_, he, ds, [], p ++ [], [], p, [], hW', ?_, ?_, ?_, ?_, fun h => by cases h⟩
  · simp only [List.append_nil]
    rw [hspec ds hdl, hrt]
    exact ⟨[], [], ⟨1, by simp [DataW.trod, Value.cells, hbool]⟩, rfl, rfl⟩
  · simp only [List.append_nil]
    rw [hspec ds hdl, hts]
    rw [hts] at hA
    exact stay_args hl hinv.below hread hA (fun x hx => hlt x (by simp [hx])) fun x hx => by simpa using hlt x (by simp [hx])
  · rw [hvars]
    simp only [List.append_nil]
    rw [hspec ds hdl]
    exact rfl
  · exact World.keptBut_mono (fun x hx => hx) (hinv.below.frame _)

end
end Rg
