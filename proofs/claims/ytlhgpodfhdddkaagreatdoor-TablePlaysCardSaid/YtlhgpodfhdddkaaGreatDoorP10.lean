/- Maps: what the machine's primitives on them do, told as calls. Bare slices: capacity, parts, rows of zeros; a row of one's own, told as one that grows. Rows that are changed in place, of elements of several cells. -/
import Derived.Test.YtlhgpodfhdddkaaGreatDoorP09
import Derived.Test.YtlhgpodfhdddkaaGreatDoorP08
set_option linter.unusedSimpArgs false
set_option linter.unusedVariables false
set_option linter.unnecessarySimpa false
namespace Rg
open Go Go.RowKit
variable {P : Program} {W0 w : World} {C : Com} {H : Heap}
abbrev pa (g : Nat) (T : TypeId) (xs : List AV) : List AV := .sc (.bool true) :: .sc (.int .i64 (g : Nat)) :: .sc (.int .i64 ((T : Nat) : Int)) :: xs
theorem ACalls.prim {g : Nat} {T : TypeId} {xs : List AV} {R : AV → Heap → Prop} (h : ∀ (W0 : World) (C : Com) (w : World) (vs : List Value), Inv W0 C H w → RelL C xs vs → ∀ ty : TypeId, ∃ r w', (primRun g T ty vs).run P w = .ok r w' ∧ ∃ v H' C', R v H' ∧ CLe C C' ∧ Rel C' v r ∧ Inv W0 C' H' w') :
    ACalls P P.funcs.size (pa g T xs) H R := by
  intro W0 C w vs hi ha
  obtain ⟨v0, vs0, rfl, h0, a1⟩ := ha.uncons
  obtain ⟨v1, vs1, rfl, h1, a2⟩ := a1.uncons
  obtain ⟨v2, vs2, rfl, h2, a3⟩ := a2.uncons
  obtain rfl := h0.sc_inv
  obtain rfl := h1.sc_inv
  obtain rfl := h2.sc_inv
  refine .inr <| .inr <| .inr ⟨rfl, g, T, vs2, rfl, fun ty => ?_⟩
  obtain ⟨r, w', h1, v, H', C', h2, h3, h4, h5⟩ := h W0 C w vs2 hi a3 ty
  exact ⟨r, w', h1, v, H', C', r, rfl, h2, h3, h4, h5⟩
theorem run_getMap {r : Nat} {es : Array MapEntry} {ck : Nat} (h : w.heap[r]? = some (.map es ck)) : (getObj r).run P w = .ok (.map es ck) w := by simp [getObj, Sem.run, h]
theorem run_getIter {r : Nat} {m : Option Nat} {a c : Nat} {b : Array Nat} (h : w.heap[r]? = some (.mapIter m a b c)) : (getObj r).run P w = .ok (.mapIter m a b c) w := by simp [getObj, Sem.run, h]
theorem run_setObj_put {r : Nat} {es : Array MapEntry} {ck : Nat} (o : Obj) (h : w.heap[r]? = some (.map es ck)) : (setObj r o).run P w = .ok () (w.putObj r o) := by simp [setObj, Sem.run, h, World.putObj]
theorem run_setIter {r : Nat} {m : Option Nat} {a c : Nat} {b : Array Nat} (o : Obj) (h : w.heap[r]? = some (.mapIter m a b c)) : (setObj r o).run P w = .ok () (w.putObj r o) := by simp [setObj, Sem.run, h, World.putObj]
theorem Inv.putObj (hi : Inv W0 C H w) {r : Nat} {ob0 ob : AObj} {o : Obj} (h0 : H r = some ob0) (hb : W0.heap.size ≤ r) (hC : ∀ k, C r k = none) (ho : ObjOk C (w.putObj r o) r ob) (hb2 : ob.base W0 r) : Inv W0 C (H.set r ob) (w.putObj r o) := by
  have hd := hi.del o hb hC
  refine ⟨hd.below, hd.com, fun b ob' e => ?_⟩
  unfold Heap.set at e
  by_cases hbl : b = r
  · rw [if_pos hbl] at e; cases e; subst hbl; exact ⟨hb2, ho⟩
  · rw [if_neg hbl] at e; exact hd.obj b ob' (by unfold Heap.del; rw [if_neg hbl]; exact e)
theorem putObj_at {r : Nat} (o : Obj) (h : r < w.heap.size) : (w.putObj r o).heap[r]? = some o := by
  simp [World.putObj, h]
theorem RelE.get {es : List (AV × AV × Nat)} {ens : List MapEntry} (h : RelE C es ens) {i : Nat} {e : AV × AV × Nat} (he : es[i]? = some e) : ∃ x, ens[i]? = some x ∧ Rel C e.1 x.key ∧ Rel C e.2.1 x.val ∧ e.2.2 = x.born := by
  obtain ⟨h1, h2, h3⟩ := h
  obtain ⟨k, hk, hk2⟩ := h1.get (i := i) (a := e.1) (by simp [he])
  obtain ⟨v, hv, hv2⟩ := h2.get (i := i) (a := e.2.1) (by simp [he])
  cases hx : ens[i]? with
  | none => simp [hx] at hk
  | some x =>
    simp only [List.getElem?_map, hx, Option.map_some, Option.some.injEq] at hk hv
    subst hk; subst hv
    refine ⟨x, rfl, hk2, hv2, ?_⟩
    have := congrArg (fun l => l[i]?) h3
    simpa [he, hx] using this
theorem RelE.length {es : List (AV × AV × Nat)} {ens : List MapEntry} (h : RelE C es ens) : es.length = ens.length := by have := h.1.length; simpa using this
theorem RelE.cons_inv {e : AV × AV × Nat} {es : List (AV × AV × Nat)} {ens : List MapEntry} (h : RelE C (e :: es) ens) : ∃ x r, ens = x :: r ∧ Rel C e.1 x.key ∧ Rel C e.2.1 x.val ∧ e.2.2 = x.born ∧ RelE C es r := by
  cases ens with
  | nil => have := h.length; simp at this
  | cons x r =>
    obtain ⟨h1, h2, h3⟩ := h
    simp only [List.map_cons] at h1 h2 h3
    obtain ⟨k, ks, e1, h4, h5⟩ := h1.uncons
    obtain ⟨v, vs, e2, h6, h7⟩ := h2.uncons
    cases e1; cases e2
    simp only [List.cons.injEq] at h3
    exact ⟨x, r, rfl, h4, h6, h3.1, h5, h7, h3.2⟩
theorem RelE.nil_inv {ens : List MapEntry} (h : RelE C [] ens) : ens = [] := by have := h.length; exact List.length_eq_zero_iff.1 this.symm
theorem RelE.snoc {es : List (AV × AV × Nat)} {ens : List MapEntry} (h : RelE C es ens) {k v : AV} {x y : Value} (b : Nat) (hk : Rel C k x) (hv : Rel C v y) : RelE C (es ++ [(k, v, b)]) (ens ++ [{ key := x, val := y, born := b }]) := by
  refine ⟨?_, ?_, ?_⟩
  · simp only [List.map_append, List.map_cons, List.map_nil]; exact h.1.append hk
  · simp only [List.map_append, List.map_cons, List.map_nil]; exact h.2.1.append hv
  · simp [h.2.2]
theorem RelE.modify {es : List (AV × AV × Nat)} {ens : List MapEntry} (h : RelE C es ens) {i : Nat} {e : AV × AV × Nat} {en : MapEntry} (he : ens[i]? = some en) {k v : AV} {x y : Value} (hk : Rel C k x) (hv : Rel C v y) (hb : es[i]? = some e) :
    RelE C (es.set i (k, v, e.2.2)) (ens.set i { en with key := x, val := y }) := by
  obtain ⟨h1, h2, h3⟩ := h
  refine ⟨?_, ?_, ?_⟩
  · rw [List.map_set, List.map_set]; exact h1.set hk
  · rw [List.map_set, List.map_set]; exact h2.set hv
  · rw [List.map_set, List.map_set, h3]
    have := congrArg (fun l => l[i]?) h3
    simp [he, hb] at this
    rw [this]
theorem relL_erase {az : List AV} {vs : List Value} (h : RelL C az vs) (i : Nat) : RelL C (az.eraseIdx i) (vs.eraseIdx i) := by
  induction az generalizing vs i with
  | nil => cases h; simpa using RelL.nil
  | cons a az ih =>
    obtain ⟨v, vs', rfl, hv, hr⟩ := RelL.uncons h
    cases i with
    | zero => simpa using hr
    | succ i => simpa using RelL.cons hv (ih hr i)
theorem map_erase {α β : Type} (f : α → β) : ∀ (l : List α) (i : Nat), (l.eraseIdx i).map f = (l.map f).eraseIdx i
  | [], i => by simp
  | a :: l, 0 => by simp
  | a :: l, i + 1 => by simp [map_erase f l i]
theorem RelE.erase {es : List (AV × AV × Nat)} {ens : List MapEntry} (h : RelE C es ens) (i : Nat) : RelE C (es.eraseIdx i) (ens.eraseIdx i) := by
  obtain ⟨h1, h2, h3⟩ := h
  refine ⟨?_, ?_, ?_⟩
  · rw [map_erase, map_erase]; exact relL_erase h1 i
  · rw [map_erase, map_erase]; exact relL_erase h2 i
  · rw [map_erase, map_erase, h3]
def acheck (P : Program) : Nat → TypeId → AV → Bool
  | 0, _, _ => false
  | n + 1, t, v =>
    match P.underlying t, v with
    | some (.struct fs), .agg cs => fs.toList.all fun f => f.name == "_" || (match apart P f.type cs f.offset with | .val x => acheck P n f.type x | _ => false)
    | some (.int _), .sc _ => true
    | some .string, .sc _ => true
    | some .bool, .sc _ => true
    | _, _ => false
theorem for_unit {α : Type} (f : α → PUnit → Sem (ForInStep PUnit)) : ∀ (l : List α), (∀ a ∈ l, (f a PUnit.unit).run P w = .ok (.yield PUnit.unit) w) → (forIn (m := Sem) l PUnit.unit f).run P w = .ok PUnit.unit w
  | [], _ => rfl
  | a :: l, h => by
    rw [List.forIn_cons]
    simp only [Sem.run_bind, h a (by simp), Result.andThen_ok]
    exact for_unit f l fun b hb => h b (by simp [hb])
theorem acheck_run (em : Bool) : ∀ (n m : Nat) (t : TypeId) (x : AV) (v : Value), n ≤ m → Rel C x v → acheck P n t x = true → (Instr.checkKey em m t v).run P w = .ok () w
  | 0, _, _, _, _, _, _, h => by cases h
  | n + 1, 0, _, _, _, hm, _, _ => by omega
  | n + 1, m + 1, t, x, v, hm, hr, h => by
    unfold acheck at h
    split at h
    · rename_i fs cs hu
      obtain ⟨us, rfl, h1, h2⟩ := hr.agg_inv
      unfold Instr.checkKey
      simp only [Sem.run_bind, run_underlying hu w, Result.andThen_ok]
      rw [List.all_eq_true] at h
      rw [← Array.forIn_toList, for_unit _ fs.toList fun f hf => ?_]
      · rfl
      · have hh := h f hf
        by_cases hn : f.name = "_"
        · simp [hn]
        · simp only [beq_eq_false_iff_ne.2 hn, Bool.false_or] at hh
          split at hh
          · rename_i y hy
            obtain ⟨q, hq, hq2⟩ := part_run (P := P) (w := w) h1 h2 hy
            simp only [hn, ne_eq, not_false_iff, if_true, Sem.run_bind, hq, Result.andThen_ok, acheck_run em n m f.type y q (by omega) hq2 hh, Sem.run_pure]
          · cases hh
    · rename_i k x' hu
      unfold Instr.checkKey
      simp only [Sem.run_bind, run_underlying hu w, Result.andThen_ok, Sem.run_pure]
    · rename_i x' hu
      unfold Instr.checkKey
      simp only [Sem.run_bind, run_underlying hu w, Result.andThen_ok, Sem.run_pure]
    · rename_i x' hu
      unfold Instr.checkKey
      simp only [Sem.run_bind, run_underlying hu w, Result.andThen_ok, Sem.run_pure]
    · cases h
def afind (P : Program) (kt : TypeId) (k : AV) : List (AV × AV × Nat) → Nat → Option (Option (Nat × AV))
  | [], _ => some none
  | e :: es, i =>
    match aeqv P 5 kt k e.1 with
    | some true => some (some (i, e.2.1))
    | some false => afind P kt k es (i + 1)
    | none => none
def RelO (C : Com) : Option (Nat × AV) → Option (Nat × Value) → Prop
  | none, none => True
  | some (i, a), some (j, v) => i = j ∧ Rel C a v
  | _, _ => False
theorem same_eqv {d : TypeDesc} {T : TypeId} {x y : AV} {u v : Value} {b b' : Bool} (hu : P.underlying T = some d) (hx : Rel C x u) (hy : Rel C y v) (h : aeqv P 5 T x y = some b) (hs : Instr.sameNow d u v = some b') : b = b' := by
  unfold aeqv at h
  split at h
  · obtain rfl := hx.sc_inv
    obtain rfl := hy.sc_inv
    split at h
    · cases h; unfold Instr.sameNow at hs; split at hs <;> simp_all
    · cases h
  · obtain rfl := hx.sc_inv
    obtain rfl := hy.sc_inv
    split at h
    · cases h; unfold Instr.sameNow at hs; split at hs <;> simp_all
    · cases h
  · obtain rfl := hx.sc_inv
    obtain rfl := hy.sc_inv
    split at h
    · rename_i a b _ hk
      cases h
      unfold Instr.sameNow at hs
      split at hs
      · simp_all
      · rename_i h1 h2
        cases h1; cases h2
        cases hs
        rw [beq_toListBytes]
      · simp_all
      · cases hs
    · cases h
  · obtain ⟨us, rfl, _⟩ := hx.agg_inv
    obtain ⟨vs, rfl, _⟩ := hy.agg_inv
    unfold Instr.sameNow at hs
    split at hs <;> simp_all
  · cases h
theorem findNow_spec {d : TypeDesc} {kt : TypeId} {k : AV} {u : Value} (hu : P.underlying kt = some d) (hk : Rel C k u) : ∀ (es : List (AV × AV × Nat)) (ens : List MapEntry) (i : Nat) (r : Option (Nat × AV)) (r' : Option (Nat × Value)), RelE C es ens → afind P kt k es i = some r → Instr.findNow d u ens i = some r' → RelO C r r'
  | [], ens, i, r, r', he, h, h' => by
    obtain rfl := he.nil_inv
    cases h; cases h'; trivial
  | e :: es, ens, i, r, r', he, h, h' => by
    obtain ⟨x, rest, rfl, h1, h2, _, h4⟩ := he.cons_inv
    simp only [Instr.findNow] at h'
    simp only [afind] at h
    split at h'
    · rename_i hs
      cases h'
      split at h
      · cases h; exact ⟨rfl, h2⟩
      · rename_i hq
        have := same_eqv hu hk h1 hq hs
        cases this
      · cases h
    · rename_i hs
      split at h
      · rename_i hq
        have := same_eqv hu hk h1 hq hs
        cases this
      · exact findNow_spec hu hk es rest (i + 1) r r' h4 h h'
      · cases h
    · cases h'
theorem findAsking_spec {kt : TypeId} {k : AV} {u : Value} (hk : Rel C k u) : ∀ (es : List (AV × AV × Nat)) (ens : List MapEntry) (i : Nat) (r : Option (Nat × AV)), RelE C es ens → afind P kt k es i = some r → ∃ r', (Instr.findAsking kt u ens i).run P w = .ok r' w ∧ RelO C r r'
  | [], ens, i, r, he, h => by
    obtain rfl := he.nil_inv
    cases h
    exact ⟨none, rfl, trivial⟩
  | e :: es, ens, i, r, he, h => by
    obtain ⟨x, rest, rfl, h1, h2, _, h4⟩ := he.cons_inv
    simp only [afind] at h
    unfold Instr.findAsking
    split at h
    · rename_i hq
      cases h
      have hr := aeqv_run (P := P) (w := w) 5 Op.maxDepth kt k e.1 u x.key true (by decide) hk h1 hq
      exact ⟨some (i, x.val), by simp only [Op.equal, Sem.run_bind, hr, Result.andThen_ok, if_true, Sem.run_pure], rfl, h2⟩
    · rename_i hq
      have hr := aeqv_run (P := P) (w := w) 5 Op.maxDepth kt k e.1 u x.key false (by decide) hk h1 hq
      obtain ⟨r', h5, h6⟩ := findAsking_spec hk es rest (i + 1) r h4 h
      exact ⟨r', by simp only [Op.equal, Sem.run_bind, hr, Result.andThen_ok, Bool.false_eq_true, if_false, h5], h6⟩
    · cases h
theorem findKey_spec {kt : TypeId} {d : TypeDesc} {k : AV} {u : Value} (hu : P.underlying kt = some d) (hk : Rel C k u) {es : List (AV × AV × Nat)} {ens : List MapEntry} {r : Option (Nat × AV)} (he : RelE C es ens) (h : afind P kt k es 0 = some r) :
    ∃ r', (Instr.findKey kt u ens).run P w = .ok r' w ∧ RelO C r r' := by
  unfold Instr.findKey
  simp only [Sem.run_bind, run_underlying hu w, Result.andThen_ok]
  cases hf : Instr.findNow d u ens 0 with
  | some r' => exact ⟨r', rfl, findNow_spec hu hk es ens 0 r r' he h hf⟩
  | none => exact findAsking_spec hk es ens 0 r he h
theorem c_makeMap (T : TypeId) : ACalls P P.funcs.size (pa 4 T []) H (fun v H' => ∃ m, H m = none ∧ v = .sc (.map (some m)) ∧ H' = H.set m (.map [] 0)) := by
  refine ACalls.prim fun W0 C w vs hi ha ty => ?_
  obtain rfl := ha.nil_inv
  refine ⟨.map (some w.heap.size), w.alloc (.map #[] 0), by simp [primRun, Instr.makeMap, Sem.run_bind], _, _, C, ⟨w.heap.size, hi.heap_fresh, rfl, rfl⟩, CLe.refl C, Rel.sc _, ?_⟩
  exact hi.newObj _ _ ⟨[], heap_alloc_new w _, ⟨.nil, .nil, rfl⟩, hi.fresh⟩ hi.below.size
theorem map_open (hi : Inv W0 C H w) {m : Nat} {es : List (AV × AV × Nat)} {ck : Nat} (hm : H m = some (.map es ck)) : ∃ ens : List MapEntry, w.heap[m]? = some (.map ens.toArray ck) ∧ RelE C es ens ∧ (∀ o, C m o = none) ∧ W0.heap.size ≤ m :=
  let h := hi.obj _ _ hm; let ⟨ens, h1, h2, h3⟩ := h.2; ⟨ens, h1, h2, h3, h.1⟩
section
variable {T kt et : TypeId} {d : TypeDesc} {m ck : Nat} {es : List (AV × AV × Nat)} {k : AV}
theorem lookup_run (hT : P.underlying T = some (.map kt et)) (hd : P.underlying kt = some d) (hi : Inv W0 C H w) (hm : H m = some (.map es ck)) (hc : acheck P 3 kt k = true) {r : Option (Nat × AV)} (hf : afind P kt k es 0 = some r) {u : Value} (hk : Rel C k u) (z : Value) (hz : r = none → tzero P et = some z) (ok : Bool) :
    ∃ q, (Instr.lookup T (.map (some m)) u ok).run P w = .ok (if ok then .tuple #[q, .bool r.isSome] else q) w ∧ Rel C (match r with | some p => p.2 | none => ofV z) q := by
  obtain ⟨ens, h1, h2, _⟩ := map_open hi hm
  obtain ⟨r', h3, h4⟩ := findKey_spec (P := P) (w := w) hd hk h2 hf
  have h5 := acheck_run (P := P) (w := w) ens.toArray.isEmpty 3 10000 kt k u (by decide) hk hc
  cases r with
  | none =>
    cases r' with
    | some p => exact h4.elim
    | none =>
      exact ⟨z, by
        simp only [Instr.lookup, Sem.run_bind, run_underlying hT w, Result.andThen_ok, run_getMap h1, Sem.run_pure, h5, h3, run_zeroValue (hz rfl) w]
        cases ok <;> rfl, rel_ofV z⟩
  | some p =>
    cases r' with
    | none => exact h4.elim
    | some p' =>
      exact ⟨p'.2, by
        simp only [Instr.lookup, Sem.run_bind, run_underlying hT w, Result.andThen_ok, run_getMap h1, Sem.run_pure, h5, h3]
        cases ok <;> rfl, h4.2⟩
theorem c_lookup2 (hT : P.underlying T = some (.map kt et)) (hd : P.underlying kt = some d) (hm : H m = some (.map es ck)) (hc : acheck P 3 kt k = true) {i : Nat} {v : AV} (hf : afind P kt k es 0 = some (some (i, v))) :
    AOk P P.funcs.size (pa 2 T [.sc (.map (some m)), k]) H (.tup [v, .sc (.bool true)]) H := by
  refine ACalls.prim fun W0 C w vs hi ha ty => ?_
  obtain ⟨x, vs', rfl, hx, ha⟩ := ha.uncons
  obtain ⟨u, vs'', rfl, hu, ha⟩ := ha.uncons
  obtain rfl := ha.nil_inv
  obtain rfl := hx.sc_inv
  obtain ⟨q, h1, h2⟩ := lookup_run hT hd hi hm hc hf hu undef (by simp) true
  exact ⟨_, _, h1, _, _, C, ⟨rfl, rfl⟩, CLe.refl C, RelL.tup (vs := []) (us := [q, .bool true]) (RelL.cons h2 (Rel.sc _)) .nil, hi⟩
theorem c_lookup1 (hT : P.underlying T = some (.map kt et)) (hd : P.underlying kt = some d) (hm : H m = some (.map es ck)) (hc : acheck P 3 kt k = true) {i : Nat} {v : AV} (hf : afind P kt k es 0 = some (some (i, v))) :
    AOk P P.funcs.size (pa 1 T [.sc (.map (some m)), k]) H v H := by
  refine ACalls.prim fun W0 C w vs hi ha ty => ?_
  obtain ⟨x, vs', rfl, hx, ha⟩ := ha.uncons
  obtain ⟨u, vs'', rfl, hu, ha⟩ := ha.uncons
  obtain rfl := ha.nil_inv
  obtain rfl := hx.sc_inv
  obtain ⟨q, h1, h2⟩ := lookup_run hT hd hi hm hc hf hu undef (by simp) false
  exact ⟨_, _, h1, _, _, C, ⟨rfl, rfl⟩, CLe.refl C, h2, hi⟩
theorem c_lookup2_no (hT : P.underlying T = some (.map kt et)) (hd : P.underlying kt = some d) (hm : H m = some (.map es ck)) (hc : acheck P 3 kt k = true) {z : Value} (hz : tzero P et = some z) (hf : afind P kt k es 0 = some none) :
    AOk P P.funcs.size (pa 2 T [.sc (.map (some m)), k]) H (.tup [ofV z, .sc (.bool false)]) H := by
  refine ACalls.prim fun W0 C w vs hi ha ty => ?_
  obtain ⟨x, vs', rfl, hx, ha⟩ := ha.uncons
  obtain ⟨u, vs'', rfl, hu, ha⟩ := ha.uncons
  obtain rfl := ha.nil_inv
  obtain rfl := hx.sc_inv
  obtain ⟨q, h1, h2⟩ := lookup_run hT hd hi hm hc hf hu z (fun _ => hz) true
  exact ⟨_, _, h1, _, _, C, ⟨rfl, rfl⟩, CLe.refl C, RelL.tup (vs := []) (us := [q, .bool false]) (RelL.cons h2 (Rel.sc _)) .nil, hi⟩
theorem toArray_modify {α : Type} (l : List α) (i : Nat) (f : α → α) : l.toArray.modify i f = (l.modify i f).toArray := by
  apply Array.ext'
  simp
theorem modify_set {α : Type} {l : List α} {i : Nat} {x : α} (f : α → α) (h : l[i]? = some x) : l.modify i f = l.set i (f x) := by
  apply List.ext_getElem?
  intro j
  rw [List.getElem?_modify, List.getElem?_set]
  by_cases hj : i = j
  · subst hj
    rw [if_pos rfl, h, if_pos (List.getElem?_eq_some_iff.1 h).1]
    simp
  · rw [if_neg hj]
    simp [hj]
theorem c_insert (hT : P.underlying T = some (.map kt et)) (hd : P.underlying kt = some d) (hm : H m = some (.map es ck)) (hc : acheck P 3 kt k = true) (hf : afind P kt k es 0 = some none) (v : AV) :
    AOk P P.funcs.size (pa 3 T [.sc (.map (some m)), k, v]) H (.sc undef) (H.set m (.map (es ++ [(k, v, ck)]) (ck + 1))) := by
  refine ACalls.prim fun W0 C w vs hi ha ty => ?_
  obtain ⟨x, vs', rfl, hx, ha⟩ := ha.uncons
  obtain ⟨u, vs'', rfl, hu, ha⟩ := ha.uncons
  obtain ⟨y, vs3, rfl, hy, ha⟩ := ha.uncons
  obtain rfl := ha.nil_inv
  obtain rfl := hx.sc_inv
  obtain ⟨ens, h1, h2, h3, h4⟩ := map_open hi hm
  obtain ⟨r', h5, h6⟩ := findKey_spec (P := P) (w := w) hd hu h2 hf
  have h7 := acheck_run (P := P) (w := w) false 3 10000 kt k u (by decide) hu hc
  cases r' with
  | some p => exact h6.elim
  | none =>
    refine ⟨undef, w.putObj m (.map (ens.toArray.push { key := u, val := y, born := ck }) (ck + 1)), ?_, _, _, C, ⟨rfl, rfl⟩, CLe.refl C, Rel.sc _, ?_⟩
    · simp only [primRun, Instr.mapUpdate, Sem.run_bind, run_underlying hT w, Result.andThen_ok, run_getMap h1, Sem.run_pure, h7, h5, run_setObj_put _ h1]
    · refine hi.putObj hm h4 h3 ⟨ens ++ [{ key := u, val := y, born := ck }], ?_, h2.snoc ck hu hy, h3⟩ h4
      rw [putObj_at _ (Array.getElem?_eq_some_iff.1 h1).1, List.push_toArray]
theorem stays_run {a b : Value} : ∃ c w', (Instr.keyThatStays a b).run P w = .ok c w' ∧ (c = a ∨ c = b) ∧ (w' = w ∨ w' = w.drew) := by
  unfold Instr.keyThatStays
  by_cases h : Instr.sameBits 10000 a b = true
  · exact ⟨b, w, by rw [if_pos h]; rfl, .inr rfl, .inl rfl⟩
  · rw [if_neg h]
    simp only [Sem.run_bind, run_choose_drew]
    have hf : Question.forced (.extern "map.whichKeyStays" 2) = false := by rfl
    rw [hf]
    simp only [Bool.false_eq_true, if_false, Result.andThen_ok, Sem.run_pure]
    exact ⟨_, _, rfl, by split <;> simp, .inr rfl⟩
theorem c_update (hT : P.underlying T = some (.map kt et)) (hd : P.underlying kt = some d) (hm : H m = some (.map es ck)) (hc : acheck P 3 kt k = true) {i b : Nat} {v0 : AV} (hf : afind P kt k es 0 = some (some (i, v0))) (he : es[i]? = some (k, v0, b)) (v : AV) :
    AOk P P.funcs.size (pa 3 T [.sc (.map (some m)), k, v]) H (.sc undef) (H.set m (.map (es.set i (k, v, b)) ck)) := by
  refine ACalls.prim fun W0 C w vs hi ha ty => ?_
  obtain ⟨x, vs', rfl, hx, ha⟩ := ha.uncons
  obtain ⟨u, vs'', rfl, hu, ha⟩ := ha.uncons
  obtain ⟨y, vs3, rfl, hy, ha⟩ := ha.uncons
  obtain rfl := ha.nil_inv
  obtain rfl := hx.sc_inv
  obtain ⟨ens, h1, h2, h3, h4⟩ := map_open hi hm
  obtain ⟨r', h5, h6⟩ := findKey_spec (P := P) (w := w) hd hu h2 hf
  have h7 := acheck_run (P := P) (w := w) false 3 10000 kt k u (by decide) hu hc
  cases r' with
  | none => exact h6.elim
  | some p =>
    obtain ⟨j, v'⟩ := p
    obtain ⟨rfl, _⟩ := h6
    obtain ⟨en, hen, e1, e2, e3⟩ := h2.get he
    obtain ⟨c, w', h8, h9, h10⟩ := stays_run (P := P) (w := w) (a := en.key) (b := u)
    have hcR : Rel C k c := by
      rcases h9 with rfl | rfl
      · exact e1
      · exact hu
    have hi' : Inv W0 C H w' := by
      rcases h10 with rfl | rfl
      · exact hi
      · exact hi.draw
    have h1' : w'.heap[m]? = some (.map ens.toArray ck) := by
      rcases h10 with rfl | rfl
      · exact h1
      · exact h1
    refine ⟨undef, w'.putObj m (.map (ens.toArray.modify i fun e => { e with key := c, val := y }) ck), ?_, _, _, C, ⟨rfl, rfl⟩, CLe.refl C, Rel.sc _, ?_⟩
    · have ea : (((ens.toArray)[i]?).map (·.key)).getD u = en.key := by simp [hen]
      simp only [primRun, Instr.mapUpdate, Sem.run_bind, run_underlying hT w, Result.andThen_ok, run_getMap h1, Sem.run_pure, h7, h5, ea, h8, run_setObj_put _ h1']
    · refine hi'.putObj hm h4 h3 ⟨ens.set i { en with key := c, val := y }, ?_, h2.modify hen hcR hy he, h3⟩ h4
      rw [putObj_at _ (Array.getElem?_eq_some_iff.1 h1').1, toArray_modify, modify_set _ hen]
theorem c_delete (hT : P.underlying T = some (.map kt et)) (hd : P.underlying kt = some d) (hm : H m = some (.map es ck)) (hc : acheck P 3 kt k = true) {i : Nat} {v0 : AV} (hf : afind P kt k es 0 = some (some (i, v0))) :
    AOk P P.funcs.size (pa 15 T [.sc (.map (some m)), k]) H (.tup []) (H.set m (.map (es.eraseIdx i) ck)) := by
  refine ACalls.prim fun W0 C w vs hi ha ty => ?_
  obtain ⟨x, vs', rfl, hx, ha⟩ := ha.uncons
  obtain ⟨u, vs'', rfl, hu, ha⟩ := ha.uncons
  obtain rfl := ha.nil_inv
  obtain rfl := hx.sc_inv
  obtain ⟨ens, h1, h2, h3, h4⟩ := map_open hi hm
  obtain ⟨r', h5, h6⟩ := findKey_spec (P := P) (w := w) hd hu h2 hf
  have h7 := acheck_run (P := P) (w := w) ens.toArray.isEmpty 3 10000 kt k u (by decide) hu hc
  cases r' with
  | none => exact h6.elim
  | some p =>
    obtain ⟨j, v'⟩ := p
    obtain ⟨rfl, _⟩ := h6
    refine ⟨.tuple #[], w.putObj m (.map (ens.toArray.eraseIdxIfInBounds i) ck), ?_, _, _, C, ⟨rfl, rfl⟩, CLe.refl C, RelL.tup (us := []) .nil .nil, ?_⟩
    · have g0 : (#[T] : Array TypeId)[0]? = some T := rfl
      have g1 : (#[Value.map (some m), u] : Array Value)[0]? = some (.map (some m)) := rfl
      have g2 : (#[Value.map (some m), u] : Array Value)[1]? = some u := rfl
      simp only [primRun, Builtin.delete_, g0, g1, g2, Sem.run_bind, run_underlying hT w, run_getMap h1, h7, h5, run_setObj_put _ h1, Result.andThen_ok, Sem.run_pure]
    · refine hi.putObj hm h4 h3 ⟨ens.eraseIdx i, ?_, h2.erase i, h3⟩ h4
      rw [putObj_at _ (Array.getElem?_eq_some_iff.1 h1).1]
      congr 2
      apply Array.ext'
      simp
theorem c_lenMap (hT : P.underlying T = some (.map kt et)) (hm : H m = some (.map es ck)) : AOk P P.funcs.size (pa 14 T [.sc (.map (some m))]) H (.sc (.int .i64 es.length)) H := by
  refine ACalls.prim fun W0 C w vs hi ha ty => ?_
  obtain ⟨x, vs', rfl, hx, ha⟩ := ha.uncons
  obtain rfl := ha.nil_inv
  obtain rfl := hx.sc_inv
  obtain ⟨ens, h1, h2, h3, h4⟩ := map_open hi hm
  refine ⟨.int .i64 es.length, w, ?_, _, _, C, ⟨rfl, rfl⟩, CLe.refl C, Rel.sc _, hi⟩
  simp only [primRun, Builtin.len_, List.getElem?_toArray, Sem.run_bind]
  simp [run_underlying hT w, run_getMap h1, Sem.run_bind, goInt, h2.length]
theorem c_rangeMap (hT : P.underlying T = some (.map kt et)) (hm : H m = some (.map es ck)) : ACalls P P.funcs.size (pa 8 T [.sc (.map (some m))]) H (fun v H' => ∃ it, H it = none ∧ v = .sc (.pointer (some ⟨it, 0, none⟩)) ∧ H' = H.set it (.iter (some m) ck [] ck)) := by
  refine ACalls.prim fun W0 C w vs hi ha ty => ?_
  obtain ⟨x, vs', rfl, hx, ha⟩ := ha.uncons
  obtain rfl := ha.nil_inv
  obtain rfl := hx.sc_inv
  obtain ⟨ens, h1, h2, h3, h4⟩ := map_open hi hm
  refine ⟨.pointer (some ⟨w.heap.size, 0, none⟩), w.alloc (.mapIter (some m) ck #[] ck), ?_, _, _, C, ⟨w.heap.size, hi.heap_fresh, rfl, rfl⟩, CLe.refl C, Rel.sc _, ?_⟩
  · simp only [primRun, Instr.range, Sem.run_bind, run_underlying hT w, Result.andThen_ok, run_getMap h1, Sem.run_pure, run_newObj_alloc]
  · exact hi.newObj _ _ ⟨heap_alloc_new w _, hi.fresh⟩ hi.below.size
theorem c_nextMap {it : Nat} {seen : List Nat} (hI : H it = some (.iter (some m) ck seen ck)) (hm : H m = some (.map es ck)) (hb : ∀ e ∈ es, e.2.2 < ck) :
    ACalls P P.funcs.size (pa 9 0 [.sc (.bool false), .sc (.pointer (some ⟨it, 0, none⟩))]) H (fun v H' =>
      (∃ e ∈ es, e.2.2 ∉ seen ∧ v = .tup [.sc (.bool true), e.1, e.2.1] ∧ H' = H.set it (.iter (some m) ck (seen ++ [e.2.2]) ck)) ∨ ((∀ e ∈ es, e.2.2 ∈ seen) ∧ v = .tup [.sc (.bool false)] ∧ H' = H)) := by
  refine ACalls.prim fun W0 C w vs hi ha ty => ?_
  obtain ⟨x, vs', rfl, hx, ha⟩ := ha.uncons
  obtain ⟨x', vs2, rfl, hx', ha⟩ := ha.uncons
  obtain rfl := ha.nil_inv
  obtain rfl := hx.sc_inv
  obtain rfl := hx'.sc_inv
  obtain ⟨ens, h1, h2, h3, h4⟩ := map_open hi hm
  obtain ⟨hbi, hI1, hI2⟩ := hi.obj _ _ hI
  have hmem : ∀ x ∈ ens, ∃ e ∈ es, Rel C e.1 x.key ∧ Rel C e.2.1 x.val ∧ e.2.2 = x.born := fun x hx => by
    obtain ⟨i, hi2, hxi⟩ := List.getElem_of_mem hx
    have hlt : i < es.length := by rw [h2.length]; exact hi2
    obtain ⟨x', h5, h6⟩ := h2.get (List.getElem?_eq_getElem hlt)
    rw [List.getElem?_eq_getElem hi2, hxi] at h5
    cases h5
    exact ⟨_, List.getElem_mem hlt, h6⟩
  have hborn : ∀ x ∈ ens, x.born < ck := fun x hx => by
    obtain ⟨e, he, _, _, h5⟩ := hmem x hx
    rw [← h5]; exact hb e he
  obtain ⟨left, hleft⟩ : ∃ left, ens.filter (fun e => !seen.contains e.born) = left := ⟨_, rfl⟩
  have hnew : (left.filter fun e => decide (e.born ≥ ck)) = [] := by
    rw [List.filter_eq_nil_iff]
    intro x hx
    have := hborn x (by rw [← hleft] at hx; exact (List.mem_filter.1 hx).1)
    simp; omega
  have hold : (left.filter fun e => decide (e.born < ck)) = left := by
    rw [List.filter_eq_self]
    intro x hx
    have := hborn x (by rw [← hleft] at hx; exact (List.mem_filter.1 hx).1)
    simp [this]
  have hguard : (!seen.toArray.isEmpty && !ens.toArray.isEmpty && ens.toArray.all fun e => decide (e.born ≥ ck)) = false := by
    cases ens with
    | nil => simp
    | cons x r =>
      have := hborn x (by simp)
      simp [Nat.not_le.2 this]
  have e1 : (ens.toArray).filter (fun e => !seen.toArray.contains e.born) = left.toArray := by
    rw [List.filter_toArray, ← hleft]
    congr 1
    apply List.filter_congr
    intro x _
    simp
  have e2 : (left.toArray).filter (fun e => decide (e.born < ck)) = left.toArray := by rw [List.filter_toArray, hold]
  have e3 : (left.toArray).filter (fun e => decide (e.born ≥ ck)) = #[] := by rw [List.filter_toArray, hnew]
  have hr : (primRun 9 0 ty [.bool false, .pointer (some ⟨it, 0, none⟩)]).run P w = ((choose (.mapNext ((if left.toArray.isEmpty then #[none] else #[]) ++ (left.toArray ++ #[]).map some).size)).run P w).andThen fun i w' =>
      (match ((if left.toArray.isEmpty then #[none] else #[]) ++ (left.toArray ++ #[]).map some)[i]? with
      | some (some e) => do
        setObj it (.mapIter (some m) ck (seen.toArray.push e.born) ck)
        pure (.tuple #[.bool true, e.key, e.val])
      | some none => pure (.tuple #[.bool false])
      | none => stuck "Next: no such candidate" : Sem Value).run P w' := by
    simp only [primRun, Instr.next, Sem.run_bind, run_getIter hI1, Result.andThen_ok, run_getMap h1, hguard, Bool.false_eq_true, if_false, e1, e2, e3]
    rfl
  cases hl : left with
  | nil =>
    subst hl
    have hall : ∀ e ∈ es, e.2.2 ∈ seen := fun e he => by
      obtain ⟨i, hi2, hei⟩ := List.getElem_of_mem he
      obtain ⟨x, h5, _, _, h6⟩ := h2.get (List.getElem?_eq_getElem hi2)
      rw [hei] at h6
      rw [List.filter_eq_nil_iff] at hleft
      have := hleft x (List.mem_of_getElem? h5)
      simp at this
      rw [h6]; exact this
    have hf : Question.forced (.mapNext 1) = true := rfl
    refine ⟨.tuple #[.bool false], w, ?_, _, _, C, .inr ⟨hall, rfl, rfl⟩, CLe.refl C, RelL.tup (us := [.bool false]) (Rel.sc _) .nil, hi⟩
    rw [hr]
    simp [Sem.run_bind, hf]
  | cons y r =>
    subst hl
    have hcand : ((if (y :: r).toArray.isEmpty then #[none] else #[]) ++ ((y :: r).toArray ++ ([] : List MapEntry).toArray).map some : Array (Option MapEntry)) = ((y :: r).map some).toArray := by simp
    have hpick : ∀ (j : Nat) (w' : World), j < (y :: r).length → (w' = w ∨ w' = w.drew) → ∃ x, ((y :: r).map some)[j]? = some (some x) ∧ x ∈ (y :: r) := fun j w' hj _ => ⟨(y :: r)[j], by rw [List.getElem?_map, List.getElem?_eq_getElem hj]; rfl, List.getElem_mem hj⟩
    have hch : ∃ j w', (choose (.mapNext ((y :: r).map some).toArray.size)).run P w = .ok j w' ∧ j < (y :: r).length ∧ (w' = w ∨ w' = w.drew) := by
      rw [run_choose_drew]
      split
      · exact ⟨0, w, rfl, by simp, .inl rfl⟩
      · refine ⟨_, _, rfl, ?_, .inr rfl⟩
        simp only [Question.cut, List.size_toArray, List.length_map]
        exact Nat.mod_lt _ (by simp)
    obtain ⟨j, w', hj1, hj2, hj3⟩ := hch
    obtain ⟨x, hx1, hx2⟩ := hpick j w' hj2 hj3
    have hxe : x ∈ ens ∧ x.born ∉ seen := by
      rw [← hleft] at hx2
      have := List.mem_filter.1 hx2
      exact ⟨this.1, by simpa using this.2⟩
    obtain ⟨e, he, r1, r2, r3⟩ := hmem x hxe.1
    have hi' : Inv W0 C H w' := by
      rcases hj3 with rfl | rfl
      · exact hi
      · exact hi.draw
    have hI1' : w'.heap[it]? = some (.mapIter (some m) ck seen.toArray ck) := by
      rcases hj3 with rfl | rfl
      · exact hI1
      · exact hI1
    refine ⟨.tuple #[.bool true, x.key, x.val], w'.putObj it (.mapIter (some m) ck (seen.toArray.push x.born) ck), ?_, _, _, C, .inl ⟨e, he, by rw [r3]; exact hxe.2, rfl, rfl⟩, CLe.refl C, RelL.tup (us := [.bool true, x.key, x.val]) (RelL.cons (Rel.sc _) (RelL.cons r1 r2)) .nil, ?_⟩
    · rw [hr, hcand]
      simp only [Sem.run_bind, hj1, Result.andThen_ok, List.getElem?_toArray, hx1, run_setIter _ hI1', Sem.run_pure]
    · refine hi'.putObj hI hbi hI2 ⟨?_, hI2⟩ hbi
      rw [putObj_at _ (Array.getElem?_eq_some_iff.1 hI1').1, List.push_toArray, r3]
end
theorem afind_hit {α : Type} {kt : TypeId} {k : AV} (kf vf : α → AV) (bf : α → Nat) (p : α → Bool) : ∀ (L : List α) (i j : Nat) (e : α), (∀ a ∈ L, aeqv P 5 kt k (kf a) = some (p a)) → L[j]? = some e → p e = true → (∀ j' a, j' < j → L[j']? = some a → p a = false) →
    afind P kt k (L.map fun a => (kf a, vf a, bf a)) i = some (some (i + j, vf e))
  | [], i, j, e, _, h, _, _ => by simp at h
  | a :: L, i, j, e, hp, h, h1, h2 => by
    simp only [List.map_cons, afind]
    rw [hp a (by simp)]
    cases j with
    | zero =>
      simp at h
      subst h
      rw [h1]
      rfl
    | succ j =>
      rw [h2 0 a (by omega) (by simp)]
      simp only
      rw [afind_hit kf vf bf p L (i + 1) j e (fun b hb => hp b (by simp [hb])) (by simpa using h) h1 (fun j' b hj hb => h2 (j' + 1) b (by omega) (by simpa using hb))]
      congr 3
      omega
theorem afind_miss {α : Type} {kt : TypeId} {k : AV} (kf vf : α → AV) (bf : α → Nat) (p : α → Bool) : ∀ (L : List α) (i : Nat), (∀ a ∈ L, aeqv P 5 kt k (kf a) = some (p a)) → (∀ a ∈ L, p a = false) →
    afind P kt k (L.map fun a => (kf a, vf a, bf a)) i = some none
  | [], i, _, _ => rfl
  | a :: L, i, hp, h => by
    simp only [List.map_cons, afind]
    rw [hp a (by simp), h a (by simp)]
    exact afind_miss kf vf bf p L (i + 1) (fun b hb => hp b (by simp [hb])) (fun b hb => h b (by simp [hb]))
end Rg
namespace Rg
open Go Go.RowKit
variable {P : Program} {W0 w : World} {C : Com} {H : Heap}
theorem nil_val {v : Value} (h : Rel C (.sl [] .nil) v) : v = .slice none 0 0 := by
  unfold Rel at h
  cases h with
  | nils => rfl
  | emp _ a cap h => rcases h with h | h | ⟨h, _⟩ <;> cases h
  | sl _ b o cap sz _ _ _ _ _ _ h => exact h.elim
theorem ACalls.nilArg {f : FuncId} {pre post : List AV} {R : AV → Heap → Prop} (h : ACalls P f (pre ++ .sc (.slice none 0 0) :: post) H R) : ACalls P f (pre ++ .sl [] .nil :: post) H R := by
  intro W0 C w vs hi ha
  obtain ⟨us, ws, rfl, ha1, ha2⟩ := RelL.split ha
  obtain ⟨v, ws', rfl, hv, hr⟩ := ha2.uncons
  obtain rfl := nil_val hv
  exact h W0 C w _ hi (ha1.append (RelL.cons (Rel.sc _) hr))
def obv (k : IntKind) : Option Nat → AV
  | some i => .sc (.int k (i : Int))
  | none => .sc undef
theorem c_sliceBare {T e : TypeId} {sz : Nat} (hT : P.underlying T = some (.slice e)) (hs : tsize P e = some sz) {a : Option Addr} {len cap : Nat} {kl kh km : IntKind} (lo hi mx : Option Nat) {l h m : Nat}
    (hm : mx.getD cap = m) (hmc : m ≤ cap) (hh : hi.getD len = h) (hhm : h ≤ m) (hl : lo.getD 0 = l) (hlh : l ≤ h) (hx : mx.isSome = true → hi.isSome = true) :
    AOk P P.funcs.size (pa 18 T [.sc (.slice a len cap), .sc (.bool lo.isSome), obv kl lo, .sc (.bool hi.isSome), obv kh hi, .sc (.bool mx.isSome), obv km mx]) H (.sc (.slice (if m = l then a else a.map (·.add (l * sz))) (h - l) (m - l))) H := by
  refine ACalls.prim fun W0 C w vs hiv ha ty => ?_
  obtain ⟨x, vs', rfl, hxv, ha⟩ := ha.uncons
  obtain ⟨x1, vs1, rfl, hx1, ha⟩ := ha.uncons
  obtain ⟨x2, vs2, rfl, hx2, ha⟩ := ha.uncons
  obtain ⟨x3, vs3, rfl, hx3, ha⟩ := ha.uncons
  obtain ⟨x4, vs4, rfl, hx4, ha⟩ := ha.uncons
  obtain ⟨x5, vs5, rfl, hx5, ha⟩ := ha.uncons
  obtain ⟨x6, vs6, rfl, hx6, ha⟩ := ha.uncons
  obtain rfl := ha.nil_inv
  obtain rfl := hxv.sc_inv
  obtain rfl := hx1.sc_inv
  obtain rfl := hx3.sc_inv
  obtain rfl := hx5.sc_inv
  refine ⟨.slice (if m = l then a else a.map (·.add (l * sz))) (h - l) (m - l), w, ?_, _, _, C, ⟨rfl, rfl⟩, CLe.refl C, Rel.sc _, hiv⟩
  have bound : ∀ (k : IntKind) (i y : Nat) (c : BoundsCode), i ≤ y → (Instr.sliceBound (.int k (i : Int)) y c).run P w = .ok i w := by
    intro k i y c hiy
    have h1 : (0 : Int) ≤ (i : Int) ∧ (i : Int) ≤ (y : Int) := by omega
    simp only [Instr.sliceBound, Sem.run_bind, asIntOf, Sem.run_pure, Result.andThen_ok, if_pos h1, Int.toNat_natCast]
  have hb : (Instr.sliceBounds true len cap (if lo.isSome then some x2 else none) (if hi.isSome then some x4 else none) (if mx.isSome then some x6 else none)).run P w = .ok (l, h, m) w := by
    have b1 : ∀ i, lo = some i → x2 = .int kl (i : Int) := fun i e => by subst e; exact hx2.sc_inv
    have b2 : ∀ i, hi = some i → x4 = .int kh (i : Int) := fun i e => by subst e; exact hx4.sc_inv
    have b3 : ∀ i, mx = some i → x6 = .int km (i : Int) := fun i e => by subst e; exact hx6.sc_inv
    cases mx with
    | none =>
      simp only [Option.getD_none] at hm
      subst hm
      cases hi with
      | none =>
        simp only [Option.getD_none] at hh
        subst hh
        cases lo with
        | none =>
          simp only [Option.getD_none] at hl
          subst hl
          simp [Instr.sliceBounds, Sem.run_bind]
        | some i =>
          simp only [Option.getD_some] at hl
          subst hl
          rw [b1 i rfl]
          simp [Instr.sliceBounds, Sem.run_bind, bound kl i _ _ hlh]
      | some j =>
        simp only [Option.getD_some] at hh
        subst hh
        rw [b2 j rfl]
        cases lo with
        | none =>
          simp only [Option.getD_none] at hl
          subst hl
          simp [Instr.sliceBounds, Sem.run_bind, bound kh j _ _ hhm]
        | some i =>
          simp only [Option.getD_some] at hl
          subst hl
          rw [b1 i rfl]
          simp [Instr.sliceBounds, Sem.run_bind, bound kh j _ _ hhm, bound kl i _ _ hlh]
    | some q =>
      simp only [Option.getD_some] at hm
      subst hm
      rw [b3 q rfl]
      cases hi with
      | none => exact absurd (hx rfl) (by simp)
      | some j =>
        simp only [Option.getD_some] at hh
        subst hh
        rw [b2 j rfl]
        cases lo with
        | none =>
          simp only [Option.getD_none] at hl
          subst hl
          simp [Instr.sliceBounds, Sem.run_bind, bound km q _ _ hmc, bound kh j _ _ hhm]
        | some i =>
          simp only [Option.getD_some] at hl
          subst hl
          rw [b1 i rfl]
          simp [Instr.sliceBounds, Sem.run_bind, bound km q _ _ hmc, bound kh j _ _ hhm, bound kl i _ _ hlh]
  simp only [primRun, Instr.sliceAt, Instr.sureAddr, Instr.slice, Sem.run_bind, Sem.run_pure, Result.andThen_ok, run_underlying hT w, hb, run_sizeOf hs]
theorem c_sliceTo {T e : TypeId} {sz : Nat} (hT : P.underlying T = some (.slice e)) (hs : tsize P e = some sz) {g o len cap hi : Nat} {k : IntKind} (h : hi ≤ cap) :
    AOk P P.funcs.size (pa 18 T [.sc (.slice (some ⟨g, o, none⟩) len cap), .sc (.bool false), .sc undef, .sc (.bool true), .sc (.int k (hi : Int)), .sc (.bool false), .sc undef]) H (.sc (.slice (some ⟨g, o, none⟩) hi cap)) H := by
  have := c_sliceBare (H := H) (P := P) (sz := sz) (kl := .i64) (kh := k) (km := .i64) hT hs (a := some ⟨g, o, none⟩) (len := len) (cap := cap) none (some hi) none (l := 0) (h := hi) (m := cap) rfl (Nat.le_refl _) rfl h rfl (Nat.zero_le _) (by simp)
  have e1 : (if cap = 0 then some (⟨g, o, none⟩ : Addr) else (some (⟨g, o, none⟩ : Addr)).map (·.add (0 * sz))) = some ⟨g, o, none⟩ := by
    split
    · rfl
    · rw [Nat.zero_mul, Option.map_some, addr_add, Nat.add_zero]
  rw [e1, Nat.sub_zero, Nat.sub_zero] at this
  exact this
theorem c_sliceFrom {T e : TypeId} {sz : Nat} (hT : P.underlying T = some (.slice e)) (hs : tsize P e = some sz) {g o len cap lo : Nat} {k : IntKind} (h : lo ≤ len) (h2 : len ≤ cap) :
    AOk P P.funcs.size (pa 18 T [.sc (.slice (some ⟨g, o, none⟩) len cap), .sc (.bool true), .sc (.int k (lo : Int)), .sc (.bool false), .sc undef, .sc (.bool false), .sc undef]) H (.sc (.slice (some ⟨g, if cap = lo then o else o + lo * sz, none⟩) (len - lo) (cap - lo))) H := by
  have := c_sliceBare (H := H) (P := P) (sz := sz) (kl := k) (kh := .i64) (km := .i64) hT hs (a := some ⟨g, o, none⟩) (len := len) (cap := cap) (some lo) none none (l := lo) (h := len) (m := cap) rfl (Nat.le_refl _) rfl h2 rfl h (by simp)
  have e1 : (if cap = lo then some (⟨g, o, none⟩ : Addr) else (some (⟨g, o, none⟩ : Addr)).map (·.add (lo * sz))) = some ⟨g, if cap = lo then o else o + lo * sz, none⟩ := by
    split
    · rfl
    · rw [Option.map_some, addr_add]
  rw [e1] at this
  exact this
theorem AApp.grows0 {n : Nat} {Q : Post} {ρ : Nat → AV} {k : List AItem} {full : Array Oper} {dst : Option Tmp} {r : List Oper} {T e : TypeId} {xs ys : List AV} {t : Tok} {sz by_ : Nat} {H0 K : Heap} (he : ElemOk P T e sz by_) (hg : Grows H0 xs sz e t K) (hl : HLe K H)
    (hx : szs sz xs = true) (hy : szs sz ys = true) (hb : (xs.length + ys.length) * by_ ≤ 140737488355328) (hm : xs.length + ys.length ≤ maxLen)
    (h : ∀ t' K' Hn, Grows H0 (xs ++ ys) sz e t' K' → HLe K' Hn → AGo P n Q (.ops full r :: k) (aput n dst (.sl (xs ++ ys) t') ρ) Hn) : AApp P n Q full dst r k ρ H T e xs t ys := by
  by_cases h0 : ys = []
  · subst h0
    rw [List.length_nil, Nat.add_zero] at hb hm
    refine AApp.same he hx hb hm ?_
    have := h t K H (by rwa [List.append_nil]) hl
    rwa [List.append_nil] at this
  · exact AApp.grows he hg hl h0 hx hy hb hm h
def GrowsF (H0 : Heap) (xs : List AV) (sz : Nat) (e : TypeId) (t : Tok) (K : Heap) : Prop :=
  (xs = [] ∧ (t = .nil ∨ t = .full) ∧ K = H0) ∨ ∃ g cap, H0 g = none ∧ t = .own g cap sz e ∧ K = H0.set g (.open xs.length cap sz e)
theorem GrowsF.zero {H0 : Heap} {sz : Nat} {e : TypeId} : GrowsF H0 [] sz e .full H0 := .inl ⟨rfl, .inr rfl, rfl⟩
theorem GrowsF.le {H0 K : Heap} {xs : List AV} {sz : Nat} {e : TypeId} {t : Tok} (h : GrowsF H0 xs sz e t K) : HLe H0 K := by
  rcases h with ⟨_, _, rfl⟩ | ⟨g, cap, h1, _, rfl⟩
  · exact HLe.refl _
  · exact (HLe.refl _).set_new h1
theorem AApp.growsF {n : Nat} {Q : Post} {ρ : Nat → AV} {k : List AItem} {full : Array Oper} {dst : Option Tmp} {r : List Oper} {T e : TypeId} {xs ys : List AV} {t : Tok} {sz by_ : Nat} {H0 K : Heap} (he : ElemOk P T e sz by_) (hg : GrowsF H0 xs sz e t K) (hl : HLe K H)
    (hx : szs sz xs = true) (hy : szs sz ys = true) (hb : (xs.length + ys.length) * by_ ≤ 140737488355328) (hm : xs.length + ys.length ≤ maxLen)
    (h : ∀ t' K' Hn, GrowsF H0 (xs ++ ys) sz e t' K' → HLe K' Hn → AGo P n Q (.ops full r :: k) (aput n dst (.sl (xs ++ ys) t') ρ) Hn) : AApp P n Q full dst r k ρ H T e xs t ys := by
  rcases hg with ⟨rfl, ht, rfl⟩ | hg
  · by_cases h0 : ys = []
    · subst h0
      refine AApp.same he hx (by simp) (by simp [maxLen]) ?_
      exact h t K H (.inl ⟨rfl, ht, rfl⟩) hl
    · refine AApp.new he ht h0 hx hy hb hm fun g cap hgn => h _ (K.set g (.open ([].length + ys.length) cap sz e)) _ (.inr ⟨g, cap, hl.none hgn, rfl, by simp⟩) hl.set_mono
  · refine AApp.grows0 he (.inr hg) hl hx hy hb hm fun t' K' Hn hg' hl' => h t' K' Hn ?_ hl'
    rcases hg' with ⟨h1, h2, h3⟩ | h1
    · exact .inl ⟨h1, .inl h2, h3⟩
    · exact .inr h1
end Rg
namespace Rg
open Go Go.RowKit
variable {P : Program} {W0 w : World} {C : Com} {H : Heap}
def RawRowZ (sz : Nat) (H0 : Heap) (e : TypeId) (xs : List AV) (v : AV) (K : Heap) : Prop :=
  HLe H0 K ∧ ((xs = [] ∧ v = .sc (.slice none 0 0)) ∨ ∃ g zs cap, H0 g = none ∧ v = .sc (.slice (some ⟨g, 0, none⟩) xs.length cap) ∧ K g = some (.cells (xs.flatMap AV.cells ++ zs) e) ∧ xs.length * sz + zs.length = cap * sz ∧ xs.length ≤ cap ∧ cap ≤ maxLen)
theorem RawRowZ.none {sz : Nat} {H0 : Heap} {e : TypeId} : RawRowZ sz H0 e [] (.sc (.slice none 0 0)) H0 := ⟨HLe.refl _, .inl ⟨rfl, rfl⟩⟩
end Rg
