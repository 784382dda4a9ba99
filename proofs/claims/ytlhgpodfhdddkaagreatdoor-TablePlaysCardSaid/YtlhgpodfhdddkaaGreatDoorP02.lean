/- Composites, slices of parts, append. append; new objects; stores. -/
import Derived.Test.YtlhgpodfhdddkaaGreatDoorP01
set_option linter.unusedSimpArgs false
set_option linter.unusedVariables false
set_option linter.unnecessarySimpa false
namespace Rg
open Go Go.RowKit
variable {P : Program} {W0 : World} {C : Com} {H : Heap} {w : World}
theorem s_build {T : TypeId} {ps : List (Nat × AV)} {qs : Array (Nat × Value)} {r : AV} (hi : Inv W0 C H w) (h3 : ps.map (·.1) = qs.toList.map (·.1)) (h4 : RelL C (ps.map (·.2)) (qs.toList.map (·.2)))
    (h : abuild P T ps = .val r) : VOk P W0 C H w (Instr.build T qs) r := by
  unfold abuild at h
  split at h
  · rename_i z hz
    split at h
    · rename_i hone
      obtain ⟨hone, hss⟩ := hone
      split at h
      · rename_i cs hcs
        cases h
        have hz1 : ∀ u ∈ z.cells.toList, u.oneCell' = true := fun u hu => by simpa using List.all_eq_true.1 hone u hu
        unfold tsizes at hss
        split at hss
        · rename_i fs hu
          obtain ⟨fl⟩ := fs
          have hsz : ∀ f ∈ fl, ∃ n, tsize P f.type = some n := fun f hf => Option.isSome_iff_exists.1 (List.all_eq_true.1 hss f hf)
          have hpl : ∀ i p, aplace P T i = some p → (fun x => Option.map (fun f : Field => (f.offset, (tsize P f.type).getD 0)) fl[x]?) i = some p := by
            intro i p hp
            rw [aplace_struct hu] at hp
            obtain ⟨f, hf, hp⟩ := Option.bind_eq_some_iff.1 hp
            obtain ⟨n, hn, rfl⟩ := Option.map_eq_some_iff.1 hp
            simp only [List.getElem?_toArray] at hf ⊢
            simp [hf, hn]
          obtain ⟨us, f1, f2, f3⟩ := s_fill (C := C) hpl ps qs.toList _ cs z.cells.toList (relL_ofCells _) hz1 h3 h4 hcs
          have hm := mapM_places (P := P) fl w hsz
          simp only [bind_pure_comp] at hm
          refine VOk.same hi (v := .agg us.toArray) ?_ (.agg f2 f3 .nil)
          simp only [Array.toArray_toList] at f1
          simp [Instr.build, Sem.run_bind, run_zeroValue hz, run_underlying hu, hm, f1]
        · rename_i n e hu
          obtain ⟨sz, hsz⟩ := Option.isSome_iff_exists.1 hss
          have hpl : ∀ i p, aplace P T i = some p → (fun i => some (i * sz, sz)) i = some p := by
            intro i p hp
            simpa [aplace, hu, hsz] using hp
          obtain ⟨us, f1, f2, f3⟩ := s_fill (C := C) hpl ps qs.toList _ cs z.cells.toList (relL_ofCells _) hz1 h3 h4 hcs
          refine VOk.same hi (v := .agg us.toArray) ?_ (.agg f2 f3 .nil)
          simp only [Array.toArray_toList] at f1
          simp [Instr.build, Sem.run_bind, run_zeroValue hz, run_underlying hu, run_sizeOf hsz, f1]
        · cases hss
      · cases h
    · cases h
  · cases h
theorem lset_eq (ds : List AV) : ∀ (cs : List AV) (o : Nat), o + ds.length ≤ cs.length → lset cs o ds = cs.take o ++ ds ++ cs.drop (o + ds.length) := by
  induction ds with
  | nil => intro cs o h; simp [lset]
  | cons d ds ih =>
    intro cs o h
    simp only [List.length_cons] at h
    rw [lset, ih (cs.set o d) (o + 1) (by simp; omega)]
    have hA : cs.set o d = cs.take o ++ d :: cs.drop (o + 1) := by rw [List.set_eq_take_append_cons_drop, if_pos (by omega)]
    have hl : (cs.take o).length = o := by simp; omega
    have h1 : (cs.set o d).take (o + 1) = cs.take o ++ [d] := by
      rw [hA, List.take_append, hl, List.take_of_length_le (by omega), Nat.add_sub_cancel_left]
      rfl
    have h2 : (cs.set o d).drop (o + 1 + ds.length) = cs.drop (o + (ds.length + 1)) := by
      rw [hA, List.drop_append, hl, List.drop_eq_nil_of_le (by omega), show o + 1 + ds.length - o = ds.length + 1 by omega, List.drop_succ_cons, List.drop_drop, List.nil_append]
      congr 1
      omega
    rw [h1, h2, List.length_cons]
    simp
theorem flat_set {sz : Nat} {x : AV} (hx : x.cells.length = sz) : ∀ (xs : List AV) (i : Nat), (∀ y ∈ xs, y.cells.length = sz) → i < xs.length → (xs.set i x).flatMap AV.cells = lset (xs.flatMap AV.cells) (i * sz) x.cells := by
  intro xs i h hi
  rw [lset_eq _ _ _ (by
    rw [flat_length h, hx]
    have : (i + 1) * sz ≤ xs.length * sz := Nat.mul_le_mul_right _ hi
    rw [Nat.add_mul] at this; omega)]
  rw [List.set_eq_take_append_cons_drop, if_pos hi, List.flatMap_append, List.flatMap_cons, flat_take h, flat_drop h, hx, Nat.add_mul, Nat.one_mul, List.append_assoc]
theorem szs_set {sz : Nat} {x : AV} (hx : x.cells.length = sz) {xs : List AV} (h : ∀ y ∈ xs, y.cells.length = sz) (i : Nat) : ∀ y ∈ xs.set i x, y.cells.length = sz := by
  intro y hy
  rcases List.mem_or_eq_of_mem_set hy with hy | rfl
  · exact h y hy
  · exact hx
theorem s_els {sz : Nat} : ∀ (ps : List (Nat × AV)) (qs : List (Nat × Value)) (xs xs' : List AV) (us : List Value), RelL C (xs.flatMap AV.cells) us → (∀ u ∈ us, u.oneCell' = true) → (∀ y ∈ xs, y.cells.length = sz) →
      ps.map (·.1) = qs.map (·.1) → RelL C (ps.map (·.2)) (qs.map (·.2)) → aels sz xs ps = some xs' →
      ∃ us', Instr.fill (fun i => some (i * sz, sz)) us.toArray qs = some us'.toArray ∧ RelL C (xs'.flatMap AV.cells) us' ∧ (∀ u ∈ us', u.oneCell' = true) ∧ (∀ y ∈ xs', y.cells.length = sz) ∧ xs'.length = xs.length
  | [], qs, xs, xs', us, h1, h2, hs, h3, _, h => by
    have : qs = [] := by simpa using h3.symm
    subst this
    simp [aels] at h
    subst h
    exact ⟨us, by simp [Instr.fill], h1, h2, hs, rfl⟩
  | (i, x) :: ps, qs, xs, xs', us, h1, h2, hs, h3, h4, h => by
    cases qs with
    | nil => simp at h3
    | cons q qs =>
      obtain ⟨j, v⟩ := q
      simp only [List.map_cons, List.cons.injEq] at h3
      obtain ⟨rfl, h3⟩ := h3
      simp only [List.map_cons] at h4
      obtain ⟨v', vs', e, hv, h4⟩ := h4.uncons
      cases e
      simp only [aels] at h
      split at h
      · rename_i hc
        obtain ⟨hl, hsz, hlt⟩ := hc
        obtain ⟨g1, g2⟩ := lies_cells hv hl
        have gl := g1.length
        have ul := h1.length
        rw [flat_length hs] at ul
        have hcs : v.cells.size = sz := by rw [← Array.length_toList]; omega
        have hfs := flat_set hsz xs i hs hlt
        have hle : (i + 1) * sz ≤ xs.length * sz := Nat.mul_le_mul_right _ hlt
        rw [Nat.add_mul] at hle
        obtain ⟨us', f1, f2, f3, f4, f5⟩ := s_els ps qs (xs.set i x) xs' (vset us (i * sz) v.cells.toList) (by rw [hfs]; exact rel_lset h1 g1) (vset_one h2 g2) (szs_set hsz hs i) h3 h4 h
        refine ⟨us', ?_, f2, f3, f4, by simpa using f5⟩
        rw [Instr.fill]
        have hno : (decide (v.cells.size ≠ sz) || decide (i * sz + v.cells.size > us.toArray.size)) = false := by
          simp; omega
        simp only [hno, Bool.false_eq_true, if_false]
        have hz := zipIdx_vset v.cells.toList us.toArray (i * sz) 0
        simp only [Nat.add_zero] at hz
        rw [← f1]
        congr 1
        rw [← hz, ← Array.foldl_toList, Array.toList_zipIdx]
      · cases h
theorem range_mod (z : List Value) (n : Nat) : (List.range (n * z.length)).map (fun i => z.toArray[i % z.length]!) = (List.replicate n z).flatten := by
  induction n with
  | zero => simp
  | succ n ih =>
    rw [Nat.add_mul, Nat.one_mul, List.range_add, List.map_append, ih, List.replicate_succ', List.flatten_append, List.map_map]
    congr 1
    apply List.ext_getElem?
    intro i
    simp only [List.flatten_cons, List.flatten_nil, List.append_nil]
    by_cases hi : i < z.length
    · simp [hi, Nat.add_comm (n * z.length) i, Nat.mod_eq_of_lt hi]
    · rw [List.getElem?_eq_none (by simp; omega), List.getElem?_eq_none (by omega)]
theorem lies_ofV {z : Value} (h : z.cells.toList.all Value.oneCell' = true) : (ofV z).lies = true ∧ (ofV z).cells = z.cells.toList.map ofCell := by
  unfold ofV
  split
  · rename_i cs
    simp only [Value.cells] at h
    rw [if_pos h]
    exact ⟨rfl, rfl⟩
  · rename_i h1
    have hc : z.cells = #[z] := by
      cases z <;> first | rfl | exact absurd rfl (h1 _)
    rw [hc] at h ⊢
    simp at h
    have ho := one_ofCell z h
    refine ⟨?_, ?_⟩
    · revert ho; cases ofCell z <;> simp [AV.one, AV.lies]
    · have : (ofCell z).cells = [ofCell z] := by
        unfold ofCell
        split <;> rfl
      simpa using this
theorem rel_replicate {z : AV} {us : List Value} (h : RelL C z.cells us) (n : Nat) : RelL C ((List.replicate n z).flatMap AV.cells) (List.replicate n us).flatten := by
  induction n with
  | zero => exact .nil
  | succ n ih =>
    simp only [List.replicate_succ, List.flatMap_cons, List.flatten_cons]
    exact h.append ih
theorem s_buildRow {T : TypeId} {n : Nat} {ps : List (Nat × AV)} {qs : Array (Nat × Value)} {r : AV} (hi : Inv W0 C H w) (h3 : ps.map (·.1) = qs.toList.map (·.1)) (h4 : RelL C (ps.map (·.2)) (qs.toList.map (·.2)))
    (h : abuildSlice P T n ps = .val r) :
    ∃ e sz xs us, telem P T = some e ∧ tsize P e = some sz ∧ r = .sl xs .full ∧ xs.length = n ∧ n ≤ 16777216 ∧ (Instr.buildSlice T n qs).run P w = .ok (.slice (some ⟨w.heap.size, 0, none⟩) xs.length n) (w.alloc (.cells us.toArray e)) ∧
      RelL C (xs.flatMap AV.cells) us ∧ (∀ u ∈ us, u.oneCell' = true) ∧ (∀ x ∈ xs, x.cells.length = sz) := by
  unfold abuildSlice at h
  split at h
  · rename_i e he
    split at h
    · rename_i sz z hsz hz
      split at h
      · rename_i hone
        obtain ⟨hone, hzl, hn⟩ := hone
        split at h
        · rename_i xs hxs
          cases h
          have hu := telem_spec he
          have hz1 : ∀ u ∈ z.cells.toList, u.oneCell' = true := fun u hu => by simpa using List.all_eq_true.1 hone u hu
          obtain ⟨hl1, hl2⟩ := lies_ofV hone
          have hzr : RelL C (ofV z).cells z.cells.toList := by rw [hl2]; exact relL_ofCells _
          have hrep := rel_replicate hzr n
          have hones : ∀ u ∈ (List.replicate n z.cells.toList).flatten, u.oneCell' = true := by
            intro u hu
            obtain ⟨l, hl, hul⟩ := List.mem_flatten.1 hu
            rw [(List.mem_replicate.1 hl).2] at hul
            exact hz1 u hul
          have hszs : ∀ y ∈ List.replicate n (ofV z), y.cells.length = sz := by
            intro y hy
            rw [(List.mem_replicate.1 hy).2, hl2, List.length_map, hzl]
          obtain ⟨us, f1, f2, f3, f4, f5⟩ := s_els ps qs.toList _ xs _ hrep hones hszs h3 h4 hxs
          have hrm := range_mod z.cells.toList n
          rw [hzl] at hrm
          have hzl' : z.cells.size = sz := by rw [← Array.length_toList]; exact hzl
          have hxl : xs.length = n := by simpa using f5
          refine ⟨e, sz, xs, us, he, hsz, rfl, hxl, by omega, ?_, f2, f3, f4⟩
          · rw [hxl]
            have hle : ¬ (n * sz > 2 ^ 24) := by omega
            simp only [Instr.buildSlice, Sem.run_bind, run_underlying hu, run_sizeOf hsz, Result.andThen_ok, hle, if_false]
            have harr : ∀ (zz : Array Value), zz = z.cells ∨ n * sz = 0 → (Array.range (n * sz)).map (fun i => zz[i % zz.size]!) = ((List.replicate n z.cells.toList).flatten).toArray := by
              intro zz hzz
              apply Array.toList_inj.1
              rcases hzz with rfl | h0
              · rw [← hrm]
                simp [hzl']
              · rw [h0]
                simp only [Array.range_zero']
                have : (List.replicate n z.cells.toList).flatten.length = 0 := by simp [hzl', h0]
                simp [List.eq_nil_of_length_eq_zero this]
            by_cases h0 : n * sz = 0
            · have := harr #[] (.inr h0)
              rw [h0] at this
              simp only [h0, if_true, Sem.run_bind, Sem.run_pure, Result.andThen_ok]
              rw [this, f1]
              simp [newRow]
            · simp only [h0, if_false, Sem.run_bind, run_zeroValue hz, Result.andThen_ok, Sem.run_pure]
              rw [harr z.cells (.inl rfl), f1]
              simp [newRow]
        · cases h
      · cases h
    · cases h
  · cases h
theorem s_buildSlice {T : TypeId} {n : Nat} {ps : List (Nat × AV)} {qs : Array (Nat × Value)} {r : AV} (hi : Inv W0 C H w) (h3 : ps.map (·.1) = qs.toList.map (·.1)) (h4 : RelL C (ps.map (·.2)) (qs.toList.map (·.2)))
    (h : abuildSlice P T n ps = .val r) : VOk P W0 C H w (Instr.buildSlice T n qs) r := by
  obtain ⟨e, sz, xs, us, he, hsz, rfl, hxl, hn, hrun, f2, f3, f4⟩ := s_buildRow hi h3 h4 h
  obtain ⟨hI, hC⟩ := hi.allocCom us [] e (0, 0)
  simp only [List.append_nil] at hI
  refine ⟨_, _, _, hrun, ?_, hC, hI⟩
  refine RelL.sl .full w.heap.size 0 n sz (f2.mono hC) f4 f3 (fun j u hu => commit_at hu) (by omega) ?_ (by simp [TokOk, hxl]) .nil
  simp only [maxLen]; omega
theorem s_lits {T e : TypeId} {n sz : Nat} {ps : List (Nat × AV)} {qs : Array (Nat × Value)} {xs : List AV} (hi : Inv W0 C H w) (h3 : ps.map (·.1) = qs.toList.map (·.1)) (h4 : RelL C (ps.map (·.2)) (qs.toList.map (·.2)))
    (h : alits P T (abuildSlice P T n ps) = .lits e sz xs) :
    ∃ v g w' C', (Instr.buildSlice T n qs).run P w = .ok v w' ∧ H g = none ∧ CLe C C' ∧ Rel C' (.sl xs (.own g xs.length sz e)) v ∧ Inv W0 C' (H.set g (.open xs.length xs.length sz e)) w' := by
  unfold alits at h
  split at h
  · rename_i xs' hb
    obtain ⟨e', sz', xs2, us, he, hsz, hr, hxl, hn, hrun, f2, f3, f4⟩ := s_buildRow hi h3 h4 hb
    cases hr
    rw [he] at h
    simp only [hsz] at h
    split at h
    · rename_i hc
      cases h
      have hul : us.length = xs.length * sz := by rw [← f2.length]; exact flat_length f4
      obtain ⟨hI, hC⟩ := hi.allocOpen us [] e xs.length xs.length sz hul (by simpa using hul) (Nat.le_refl _) hc.2
      simp only [List.append_nil] at hI
      refine ⟨_, w.heap.size, _, _, hrun, hi.heap_fresh, hC, ?_, hI⟩
      refine RelL.sl _ w.heap.size 0 n sz (f2.mono hC) f4 f3 (fun j u hu => commit_at hu) (by omega) ?_ (by simp [TokOk, hxl]) .nil
      simp only [maxLen]; omega
    · cases h
  · cases h
theorem heap_freeze {w : World} {a : Addr} (k : Nat) : (w.freeze a 1).heap[k]? = if a.block = k then (w.heap[k]?).map (fun | .cells c elem (lo, hi) => .cells c elem (if lo == hi then (a.off, a.off + 1) else (min lo a.off, max hi (a.off + 1))) | o => o) else w.heap[k]? := by
  unfold World.freeze
  rw [if_neg (by decide)]
  simp only [Array.getElem?_modify]
  rfl
theorem s_mark {s d e : TypeId} {xs : List AV} {g cap sz : Nat} {T : TypeId} {v : Value} {n cap' sz' : Nat} {T' : TypeId} (hi : Inv W0 C H w) (hv : Rel C (.sl xs (.own g cap sz T)) v) (hsd : s = d) (he : telem P d = some e) (hk : tint P e = some .u8)
    (hg : H g = some (.open n cap' sz' T')) : ∃ w', (convert s d v).run P w = .ok v w' ∧ Inv W0 C (H.del g) w' := by
  subst hsd
  obtain ⟨hW, cur, hcur, hcs, hnc, hcm, hfree⟩ := hi.obj _ _ hg
  replace hW : W0.heap.size ≤ g := hW
  have hform : ∃ l c, v = .slice (some ⟨g, 0, none⟩) l c := by
    have hk := hv
    unfold Rel at hk
    cases hk with
    | nils _ h => cases h
    | emp _ _ _ h => rcases h with h | h | ⟨h, _⟩ <;> cases h
    | @sl _ _ _ us t b' o' cap' sz' h1 h2 h3 h4 h5 h6 h7 _ =>
      obtain ⟨rfl, rfl, rfl, _⟩ := h7
      exact ⟨_, _, rfl⟩
  obtain ⟨l, c, rfl⟩ := hform
  have hsh : w.shape? g = some (T', cur.size) := by unfold World.shape?; rw [hcur]
  have hrun : (convert s s (.slice (some ⟨g, 0, none⟩) l c)).run P w = .ok (.slice (some ⟨g, 0, none⟩) l c) (w.freeze ⟨g, cur.size, none⟩ 1) := by
    simp [convert, run_underlying (telem_spec he), run_underlying (tint_spec hk), markStringish, hsh]
  refine ⟨_, hrun, ?_⟩
  have hsame : ∀ k, k ≠ g → (w.freeze ⟨g, cur.size, none⟩ 1).heap[k]? = w.heap[k]? := fun k hk => by
    rw [heap_freeze, if_neg (fun e => hk e.symm)]
  have hcell : ∀ b o, (w.freeze ⟨g, cur.size, none⟩ 1).cell? ⟨b, o, none⟩ = w.cell? ⟨b, o, none⟩ := fun b o => by
    unfold World.cell?
    simp only [heap_freeze]
    by_cases hb : g = b
    · subst hb
      rw [if_pos rfl, hcur]
      rfl
    · rw [if_neg hb]
  refine ⟨hi.below.trans ⟨rfl, rfl, rfl, ?_, fun k hk => hsame k (by omega)⟩, fun b o u hu => by rw [hcell]; exact hi.com _ _ _ hu, fun b ob hob => ?_⟩
  · unfold World.freeze
    rw [if_neg (by decide)]
    simp
  · unfold Heap.del at hob
    split at hob
    · cases hob
    · rename_i hb
      exact ⟨(hi.obj b ob hob).1, (hi.obj b ob hob).2.heap (hsame b hb)⟩
end Rg
namespace Rg
open Go Go.RowKit
variable {P : Program} {W0 : World} {C : Com} {H : Heap} {w : World}
theorem tbytes_spec {T : TypeId} {n : Nat} (h : tbytes P T = some n) : ∃ i, P.info? T = some i ∧ i.bytes = n := by
  unfold tbytes at h; cases hi : P.info? T with
  | none => rw [hi] at h; cases h
  | some i => rw [hi] at h; exact ⟨i, rfl, by simpa using h⟩
structure ElemOk (P : Program) (T e : TypeId) (sz by_ : Nat) : Prop where
  el : telem P T = some e
  size : tsize P e = some sz
  bytes : tbytes P e = some by_
  zero : ∃ z, tzero P e = some z ∧ z.cells.size = sz
  pos : 0 < sz
theorem ElemOk.info {T e : TypeId} {sz by_ : Nat} (h : ElemOk P T e sz by_) : ∃ (i : TypeInfo) (z : Value), P.info? e = some i ∧ i.size = sz ∧ i.bytes = by_ ∧ i.zero = some z ∧ z.cells.size = sz := by
  obtain ⟨i, hi, h1⟩ := tsize_spec h.size
  obtain ⟨i', hi', h2⟩ := tbytes_spec h.bytes
  obtain ⟨z, hz, h3⟩ := h.zero
  rw [hi] at hi'; cases hi'
  unfold tzero at hz
  rw [hi] at hz
  exact ⟨i, z, hi, h1, h2, by simpa using hz, h3⟩
theorem src_cells {ys : List AV} {t : Tok} {v : Value} {sz : Nat} (hi : Inv W0 C H w) (hv : Rel C (.sl ys t) v) (hs : szs sz ys = true) (h0 : ys ≠ []) :
    ∃ b o cap news, v = .slice (some ⟨b, o, none⟩) ys.length cap ∧ RelL C (ys.flatMap AV.cells) news ∧ (∀ u ∈ news, u.oneCell' = true) ∧ news.length = ys.length * sz ∧ (∀ j u, news[j]? = some u → C b (o + j) = some u) ∧
      (∀ j u, news[j]? = some u → w.cell? ((⟨b, o, none⟩ : Addr).add j) = some u) := by
  unfold Rel at hv
  cases hv with
  | nils => exact absurd rfl h0
  | emp => exact absurd rfl h0
  | @sl _ _ _ us t b o cap sz' h1 h2 h3 h4 h5 h6 h7 _ =>
    have hl := h1.length
    rw [flat_length (szs_spec hs)] at hl
    exact ⟨b, o, cap, us, rfl, h1, h3, hl.symm, h4, fun j u hu => by rw [addr_add]; exact hi.com _ _ _ (h4 j u hu)⟩
theorem run_append_zero {T e : TypeId} {sz by_ : Nat} (he : ElemOk P T e sz by_) (ty : TypeId) {a : Option Addr} {n cap : Nat} (hle : n ≤ cap) {v : Value} {t : Tok} (hv : Rel C (.sl [] t) v) :
    (Builtin.append_ #[T, T] ty #[.slice a n cap, v]).run P w = .ok (.slice a n cap) w := by
  obtain ⟨i, z, hi, h1, _⟩ := he.info
  have hu := telem_spec he.el
  obtain ⟨b, c, rfl, _⟩ := hv.sl_form
  cases a <;> cases b <;> simp [Builtin.append_, run_underlying hu, Go.sizeOf, typeInfo, hi, Builtin.lenOf, hle, Builtin.firstCells, loadCells, loadCellsFrom, storeCells]
theorem list_arr3 (a b : List Value) (c : Array Value) : (a.toArray ++ b.toArray ++ c) = (a ++ b ++ c.toList).toArray := by
  apply Array.toList_inj.1; simp
theorem grown_row {e : TypeId} {sz : Nat} {z : Value} (hz : z.cells.size = sz) (hi : Inv W0 C H w) (ls : List AV) (us : List Value) (hr : RelL C (ls.flatMap AV.cells) us) (h1 : ∀ u ∈ us, u.oneCell' = true) (hs : ∀ x ∈ ls, x.cells.length = sz) (cap : Nat)
    (hc : ls.length ≤ cap) (hm : cap ≤ maxLen) :
    ∃ C', CLe C C' ∧ Inv W0 C' (H.set w.heap.size (.open ls.length cap sz e)) (w.drew.alloc (.cells (us ++ (Builtin.zeroCells z.cells (cap - ls.length)).toList).toArray e)) ∧
      Rel C' (.sl ls (.own w.heap.size cap sz e)) (.slice (some ⟨w.heap.size, 0, none⟩) ls.length cap) := by
  have hul := hr.length
  rw [flat_length hs] at hul
  obtain ⟨hI, hC⟩ := hi.draw.allocOpen us (Builtin.zeroCells z.cells (cap - ls.length)).toList e ls.length cap sz hul.symm (by
    have h2 : (Builtin.zeroCells z.cells (cap - ls.length)).toList.length = (cap - ls.length) * sz := by rw [Array.length_toList, size_zeroCells, hz]
    rw [List.length_append, h2, ← hul, ← Nat.add_mul]
    congr 1; omega) hc hm
  refine ⟨_, hC, hI, ?_⟩
  exact .sl _ w.heap.size 0 cap sz (hr.mono hC) hs h1 (fun j u hu => commit_at hu) hc hm ⟨rfl, rfl, rfl, rfl⟩ .nil
theorem szs_append {sz : Nat} {xs ys : List AV} (hx : szs sz xs = true) (hy : szs sz ys = true) : ∀ x ∈ xs ++ ys, x.cells.length = sz := by
  intro x h
  rcases List.mem_append.1 h with h | h
  · exact szs_spec hx x h
  · exact szs_spec hy x h
theorem s_app_new {T e ty : TypeId} {sz by_ : Nat} (he : ElemOk P T e sz by_) {xs ys : List AV} {t t' : Tok} {u v : Value} (hi : Inv W0 C H w) (hu : Rel C (.sl xs t) u) (hv : Rel C (.sl ys t') v)
    (ht : t = .nil ∨ t = .full) (hx : szs sz xs = true) (hy : szs sz ys = true) (h0 : ys ≠ []) (hb : (xs.length + ys.length) * by_ ≤ 140737488355328) (hm : xs.length + ys.length ≤ maxLen) :
    ∃ v' w' C' g cap, (Builtin.append_ #[T, T] ty #[u, v]).run P w = .ok v' w' ∧ H g = none ∧ CLe C C' ∧ Rel C' (.sl (xs ++ ys) (.own g cap sz e)) v' ∧ Inv W0 C' (H.set g (.open (xs.length + ys.length) cap sz e)) w' := by
  obtain ⟨i, z, hinf, rfl, rfl, hz1, hz2⟩ := he.info
  have hT := telem_spec he.el
  obtain ⟨b, o, cp, news, rfl, n1, n2, n3, _, n5⟩ := src_cells hi hv hy h0
  have hylen : 0 < ys.length := List.length_pos_iff.2 h0
  have hm' : xs.length + ys.length ≤ 9223372036854775807 := by simpa [maxLen] using hm
  have grow0 : ∀ a : Addr, xs = [] → u = .slice (some a) 0 0 → (Builtin.append_ #[T, T] ty #[u, .slice (some ⟨b, o, none⟩) ys.length cp]).run P w =
      .ok (.slice (some ⟨w.heap.size, 0, none⟩) ys.length (grownCap w ys.length 0 e)) (w.drew.alloc (.cells (news.toArray ++ Builtin.zeroCells z.cells (grownCap w ys.length 0 e - ys.length)) e)) := by
    rintro a rfl rfl
    simp only [List.length_nil, Nat.zero_add] at hm' hb
    have := run_append_grow (P := P) w T ty e i z hT hinf hz1 a 0 0 [] (by simp) (by simp) ⟨b, o, none⟩ ys.length cp news n3 n5 (by omega) (by simp; omega) (growslice_fits (by omega) (by simpa using hb))
    simpa using this
  by_cases hxs : xs = []
  · subst hxs
    simp only [List.length_nil, Nat.zero_add, List.nil_append] at *
    have hcap := grownCap_ge w ys.length 0 e
    have hcm := grownCap_le_maxLen w ys.length 0 e hm
    have hrun : (Builtin.append_ #[T, T] ty #[u, .slice (some ⟨b, o, none⟩) ys.length cp]).run P w =
      .ok (.slice (some ⟨w.heap.size, 0, none⟩) ys.length (grownCap w ys.length 0 e)) (w.drew.alloc (.cells (news.toArray ++ Builtin.zeroCells z.cells (grownCap w ys.length 0 e - ys.length)) e)) := by
      have hk := hu
      unfold Rel at hk
      cases hk with
      | nils => exact run_append_nil (P := P) w T ty e i z hT hinf hz1 ⟨b, o, none⟩ ys.length cp news n3 n5 hylen (by omega) (by omega)
      | emp t a cap h1 h2 _ =>
        have : cap = 0 := by
          rcases h1 with h1 | h1 | ⟨_, h1⟩
          · subst h1; rcases ht with h | h <;> cases h
          · subst h1; rcases ht with h | h <;> cases h
          · exact h1
        subst this
        exact grow0 a trivial rfl
      | sl t b' o' cap sz' h1 h2 h3 h4 h5 h6 h7 _ =>
        rcases ht with rfl | rfl
        · exact h7.elim
        · simp [TokOk] at h7
          subst h7
          exact grow0 _ trivial rfl
    obtain ⟨C', hC, hI, hR⟩ := grown_row (e := e) hz2 hi ys news n1 n2 (szs_spec hy) _ hcap hcm
    rw [show (news.toArray ++ Builtin.zeroCells z.cells (grownCap w ys.length 0 e - ys.length)) = (news ++ (Builtin.zeroCells z.cells (grownCap w ys.length 0 e - ys.length)).toList).toArray from by apply Array.toList_inj.1; simp] at hrun
    exact ⟨_, _, C', w.heap.size, _, hrun, hi.heap_fresh, hC, hR, hI⟩
  · obtain ⟨b', o', cp', olds, rfl, m1, m2, m3, _, m5⟩ := src_cells hi hu hx hxs
    have hcap' : cp' = xs.length := by
      have hk := hu
      unfold Rel at hk
      cases hk with
      | emp => exact absurd rfl hxs
      | sl t _ _ cap _ _ _ _ _ _ _ h7 _ =>
        rcases ht with rfl | rfl
        · exact h7.elim
        · simpa [TokOk] using h7
    subst hcap'
    have hcap := grownCap_ge w (xs.length + ys.length) xs.length e
    have hcm := grownCap_le_maxLen w (xs.length + ys.length) xs.length e hm
    have hrun := run_append_grow (P := P) w T ty e i z hT hinf hz1 ⟨b', o', none⟩ xs.length xs.length olds m3 m5 ⟨b, o, none⟩ ys.length cp news n3 n5 (by omega) (by omega) (growslice_fits (by omega) hb)
    obtain ⟨C', hC, hI, hR⟩ := grown_row (e := e) hz2 hi (xs ++ ys) (olds ++ news) (by rw [List.flatMap_append]; exact m1.append n1) (by intro q hq; rcases List.mem_append.1 hq with h | h; exact m2 q h; exact n2 q h) (szs_append hx hy) _
      (by rw [List.length_append]; exact hcap) hcm
    rw [list_arr3] at hrun
    rw [List.length_append] at hI hR
    exact ⟨_, _, C', w.heap.size, _, hrun, hi.heap_fresh, hC, hR, hI⟩
theorem s_app_no {T e ty : TypeId} {sz by_ : Nat} (he : ElemOk P T e sz by_) {xs ys : List AV} {t t' : Tok} {u v : Value} (hi : Inv W0 C H w) (hu : Rel C (.sl xs t) u) (hv : Rel C (.sl ys t') v)
    (ht : (t = .nil ∨ t = .full) ∨ ys = []) (hx : szs sz xs = true) (hy : szs sz ys = true) (hb : (xs.length + ys.length) * by_ ≤ 140737488355328) (hm : xs.length + ys.length ≤ maxLen) :
    VOk P W0 C H w (Builtin.append_ #[T, T] ty #[u, v]) (.sl (xs ++ ys) .no) := by
  by_cases h0 : ys = []
  · subst h0
    obtain ⟨a, cap, rfl, hle, _⟩ := hu.sl_form
    rw [List.append_nil]
    exact VOk.same hi (run_append_zero he ty hle hv) hu.forget
  · obtain ⟨v', w', C', g, cap, h1, h2, h3, h4, h5⟩ := s_app_new (ty := ty) he hi hu hv (ht.resolve_right h0) hx hy h0 hb hm
    exact ⟨v', w', C', h1, h4.forget, h3, h5.weaken (HLe.set_fresh h2)⟩
theorem s_app_any {T e ty : TypeId} {sz by_ : Nat} (he : ElemOk P T e sz by_) {xs ys : List AV} {t t' : Tok} {u v : Value} {r : AV} (hi : Inv W0 C H w) (hu : Rel C (.sl xs t) u) (hv : Rel C (.sl ys t') v) (hr : r = .sl (xs ++ ys) .no ∨ (ys = [] ∧ r = .sl xs t))
    (ht : (t = .nil ∨ t = .full) ∨ ys = []) (hx : szs sz xs = true) (hy : szs sz ys = true) (hb : (xs.length + ys.length) * by_ ≤ 140737488355328) (hm : xs.length + ys.length ≤ maxLen) :
    VOk P W0 C H w (Builtin.append_ #[T, T] ty #[u, v]) r := by
  rcases hr with rfl | ⟨rfl, rfl⟩
  · exact s_app_no he hi hu hv ht hx hy hb hm
  · obtain ⟨a, cap, rfl, hle, _⟩ := hu.sl_form
    exact VOk.same hi (run_append_zero he ty hle hv) hu
theorem HLe.del_set {H : Heap} {g : Nat} {o o' : AObj} (h : H g = some o) : HLe ((H.del g).set g o) H := fun k ob e => by
  unfold Heap.set Heap.del at e
  by_cases hk : k = g
  · subst hk; rw [if_pos rfl] at e; cases e; exact h
  · rw [if_neg hk, if_neg hk] at e; exact e
theorem s_app_own {T e ty : TypeId} {sz by_ : Nat} (he : ElemOk P T e sz by_) {xs ys : List AV} {t' : Tok} {u v : Value} {g cap : Nat} (hi : Inv W0 C H w) (hu : Rel C (.sl xs (.own g cap sz e)) u) (hv : Rel C (.sl ys t') v)
    (hg : H g = some (.open xs.length cap sz e)) (hx : szs sz xs = true) (hy : szs sz ys = true) (hb : (xs.length + ys.length) * by_ ≤ 140737488355328) (hm : xs.length + ys.length ≤ maxLen) :
    ∃ v' w' C' g' cap', (Builtin.append_ #[T, T] ty #[u, v]).run P w = .ok v' w' ∧ (H.del g) g' = none ∧ CLe C C' ∧ Rel C' (.sl (xs ++ ys) (.own g' cap' sz e)) v' ∧
      Inv W0 C' ((H.del g).set g' (.open (xs.length + ys.length) cap' sz e)) w' := by
  by_cases h0 : ys = []
  · subst h0
    obtain ⟨a, c, rfl, hle, _⟩ := hu.sl_form
    rw [List.append_nil]
    refine ⟨_, w, C, g, cap, run_append_zero he ty hle hv, by simp [Heap.del], CLe.refl C, hu, hi.weaken ?_⟩
    exact HLe.del_set (o' := .open 0 0 0 0) hg
  obtain ⟨i, z, hinf, rfl, rfl, hz1, hz2⟩ := he.info
  have hT := telem_spec he.el
  obtain ⟨b, o, cp, news, rfl, n1, n2, n3, n4, n5⟩ := src_cells hi hv hy h0
  have hylen : 0 < ys.length := List.length_pos_iff.2 h0
  have hm' : xs.length + ys.length ≤ 9223372036854775807 := by simpa [maxLen] using hm
  obtain ⟨hW, cur, hcur, hcs, hnc, hcm, hfree⟩ := hi.obj _ _ hg
  replace hW : W0.heap.size ≤ g := hW
  -- the row
  have hform : ∃ olds, u = .slice (some ⟨g, 0, none⟩) xs.length cap ∧ RelL C (xs.flatMap AV.cells) olds ∧ (∀ q ∈ olds, q.oneCell' = true) ∧ (∀ j q, olds[j]? = some q → C g j = some q) := by
    have hk := hu
    unfold Rel at hk
    cases hk with
    | nils _ h => cases h
    | emp _ _ _ h => rcases h with h | h | ⟨h, _⟩ <;> cases h
    | @sl _ _ _ us t b' o' cap' sz' h1 h2 h3 h4 h5 h6 h7 _ =>
      obtain ⟨rfl, rfl, rfl, _⟩ := h7
      exact ⟨us, rfl, h1, h3, fun j q hq => by have := h4 j q hq; rwa [Nat.zero_add] at this⟩
  obtain ⟨olds, rfl, m1, m2, m4⟩ := hform
  have m3 : olds.length = xs.length * i.size := by rw [← m1.length, flat_length (szs_spec hx)]
  have m5 : ∀ j q, olds[j]? = some q → w.cell? ((⟨g, 0, none⟩ : Addr).add j) = some q := fun j q hq => by
    rw [addr_add, Nat.zero_add]; exact hi.com _ _ _ (m4 j q hq)
  by_cases hroom : xs.length + ys.length ≤ cap
  · have hfit : xs.length * i.size + news.length ≤ cur.size := by rw [n3, hcs, ← Nat.add_mul]; exact Nat.mul_le_mul_right _ hroom
    have hrun := run_append_room (P := P) w T ty e i hT hinf g xs.length cap cur hcur ⟨b, o, none⟩ ys.length cp news n3 n5 n2 hroom hfit
    let C' := commit C g (xs.length * i.size) news
    have hC : CLe C C' := commit_le fun k hk _ => hfree k hk
    refine ⟨_, _, C', g, cap, hrun, by simp [Heap.del], hC, ?_, ?_⟩
    · have : (xs ++ ys).length = xs.length + ys.length := List.length_append
      rw [← this] at hroom ⊢
      refine .sl (us := olds ++ news) _ g 0 cap i.size (by rw [List.flatMap_append]; exact (m1.append n1).mono hC) (szs_append hx hy) (by intro q hq; rcases List.mem_append.1 hq with h | h; exact m2 q h; exact n2 q h) ?_ hroom hcm ⟨rfl, rfl, rfl, rfl⟩ .nil
      intro j q hq
      rw [Nat.zero_add]
      by_cases hj : j < olds.length
      · rw [List.getElem?_append_left hj] at hq
        exact hC _ _ _ (m4 j q hq)
      · rw [List.getElem?_append_right (by omega)] at hq
        have := commit_at (C := C) (b := g) (o := xs.length * i.size) hq
        rwa [m3, show xs.length * i.size + (j - xs.length * i.size) = j by omega] at this
    · generalize hrow : (cur.toList.take (xs.length * i.size) ++ news ++ cur.toList.drop (xs.length * i.size + news.length)).toArray = row
      have hrs : row.size = cur.size := by
        rw [← hrow]
        simp
        omega
      have hsame : ∀ k, k ≠ g → (w.setRow g row).heap[k]? = w.heap[k]? := fun k hk => setRow_other w g k row hk
      have hnew : (w.setRow g row).heap[g]? = some (.cells row e (0, 0)) := setRow_heap w g cur row e _ hcur
      refine ⟨hi.below.trans ⟨rfl, rfl, rfl, by simp [World.setRow], fun k hk => hsame k (by omega)⟩, ?_, ?_⟩
      · intro b' o' q hq
        rcases commit_inv hq with ⟨rfl, hlo, hnq⟩ | hcq
        · rw [cell_of_row _ b' o' row e _ hnew, ← hrow]
          have hlt := (List.getElem?_eq_some_iff.1 hnq).1
          rw [List.getElem?_toArray, List.getElem?_append_left (by simp; omega), List.getElem?_append_right (by simp; omega)]
          rw [← hnq]
          congr 1
          simp
          omega
        · have hold := hi.com _ _ _ hcq
          by_cases hb' : b' = g
          · subst hb'
            have hlt : o' < xs.length * i.size := by
              rcases Nat.lt_or_ge o' (xs.length * i.size) with h | h
              · exact h
              · rw [hfree o' h] at hcq; cases hcq
            rw [cell_of_row _ b' o' row e _ hnew, ← hrow]
            rw [cell_of_row _ b' o' cur e _ hcur] at hold
            rw [List.getElem?_toArray, List.append_assoc, List.getElem?_append_left (by simp; omega), List.getElem?_take, if_pos hlt]
            simpa using hold
          · rw [World.cell?_of_block (w := w) (a := ⟨b', o', none⟩) (hsame b' hb')]
            exact hold
      · intro b' ob hob
        unfold Heap.set Heap.del at hob
        by_cases hb' : b' = g
        · subst hb'
          rw [if_pos rfl] at hob
          cases hob
          refine ⟨hW, row, hnew, by rw [hrs, hcs], hroom, hcm, fun o' ho' => ?_⟩
          cases hcc : C' b' o' with
          | none => rfl
          | some q =>
            rcases commit_inv hcc with ⟨_, hlo, hnq⟩ | hcq
            · have := (List.getElem?_eq_some_iff.1 hnq).1
              rw [Nat.add_mul] at ho'
              omega
            · rw [Nat.add_mul] at ho'
              rw [hfree o' (by omega)] at hcq; cases hcq
        · rw [if_neg hb', if_neg hb'] at hob
          obtain ⟨q1, q2⟩ := hi.obj _ _ hob
          exact ⟨q1, (q2.heap (hsame b' hb')).com hC fun o' ho' => by rw [show C' b' o' = C b' o' from commit_other hb']; exact ho'⟩
  · have hcap := grownCap_ge w (xs.length + ys.length) cap e
    have hcm' := grownCap_le_maxLen w (xs.length + ys.length) cap e hm
    have hrun := run_append_grow (P := P) w T ty e i z hT hinf hz1 ⟨g, 0, none⟩ xs.length cap olds m3 m5 ⟨b, o, none⟩ ys.length cp news n3 n5 (by omega) (by omega) (growslice_fits (by omega) hb)
    have hi' : Inv W0 C (H.del g) w := hi.weaken fun k ob e => by
      unfold Heap.del at e
      by_cases hk : k = g
      · rw [if_pos hk] at e; cases e
      · rw [if_neg hk] at e; exact e
    obtain ⟨C', hC, hI, hR⟩ := grown_row (e := e) hz2 hi' (xs ++ ys) (olds ++ news) (by rw [List.flatMap_append]; exact m1.append n1) (by intro q hq; rcases List.mem_append.1 hq with h | h; exact m2 q h; exact n2 q h) (szs_append hx hy) _
      (by rw [List.length_append]; exact hcap) hcm'
    rw [list_arr3] at hrun
    rw [List.length_append] at hI hR
    exact ⟨_, _, C', w.heap.size, _, hrun, hi'.heap_fresh, hC, hR, hI⟩
theorem s_alloc {T : TypeId} {cs : List AV} {T' : TypeId} (hi : Inv W0 C H w) (h : aalloc P T = .alloc cs T') :
    ∃ b w', (Instr.alloc T true (.tuple #[])).run P w = .ok (.pointer (some ⟨b, 0, none⟩)) w' ∧ H b = none ∧ Inv W0 C (H.set b (.cells cs T')) w' := by
  unfold aalloc at h
  split at h
  · rename_i z hz
    split at h
    · rename_i ho
      cases h
      have ho' : ∀ v ∈ z.cells.toList, v.oneCell' = true := fun u hu => by simpa using List.all_eq_true.1 ho u hu
      have hI := hi.allocObj _ z.cells.toList T (relL_ofCells _) ho'
      exact ⟨w.heap.size, _, by simp [Instr.alloc, Sem.run_bind, run_zeroValue hz, newVar, newRow], hi.heap_fresh, hI⟩
    · cases h
  · cases h
theorem s_box {T : TypeId} {x : AV} {u : Value} {cs : List AV} {T' : TypeId} (hi : Inv W0 C H w) (hx : Rel C x u) (h : abox T x = .alloc cs T') :
    ∃ b w', (Instr.box T u).run P w = .ok (.pointer (some ⟨b, 0, none⟩)) w' ∧ H b = none ∧ Inv W0 C (H.set b (.cells cs T')) w' := by
  unfold abox at h
  split at h
  · rename_i hl
    cases h
    obtain ⟨h1, h2⟩ := lies_cells hx hl
    have hI := hi.allocObj _ _ T h1 h2
    exact ⟨w.heap.size, _, by simp [Instr.box, newVar, newRow], hi.heap_fresh, hI⟩
  · cases h
theorem vset_eq (ds : List Value) : ∀ (cs : List Value) (o : Nat), o + ds.length ≤ cs.length → vset cs o ds = cs.take o ++ ds ++ cs.drop (o + ds.length) := by
  induction ds with
  | nil => intro cs o h; simp [vset]
  | cons d ds ih =>
    intro cs o h
    simp only [List.length_cons] at h
    rw [vset, ih (cs.set o d) (o + 1) (by simp; omega)]
    have hA : cs.set o d = cs.take o ++ d :: cs.drop (o + 1) := by rw [List.set_eq_take_append_cons_drop, if_pos (by omega)]
    have hl : (cs.take o).length = o := by simp; omega
    have h1 : (cs.set o d).take (o + 1) = cs.take o ++ [d] := by
      rw [hA, List.take_append, hl, List.take_of_length_le (by omega), Nat.add_sub_cancel_left]
      rfl
    have h2 : (cs.set o d).drop (o + 1 + ds.length) = cs.drop (o + (ds.length + 1)) := by
      rw [hA, List.drop_append, hl, List.drop_eq_nil_of_le (by omega), show o + 1 + ds.length - o = ds.length + 1 by omega, List.drop_succ_cons, List.drop_drop, List.nil_append]
      congr 1
      omega
    rw [h1, h2, List.length_cons]
    simp
theorem s_store {T : TypeId} {a x : AV} {p u : Value} {b o : Nat} {ds : List AV} (hi : Inv W0 C H w) (ha : Rel C a p) (hx : Rel C x u) (h : astore P T a x H = .store b o ds) :
    ∃ cs T' w', H b = some (.cells cs T') ∧ (Instr.storeAt T p u).run P w = .ok () w' ∧ Inv W0 C (H.set b (.cells (lset cs o ds) T')) w' := by
  unfold astore at h
  split at h
  · rename_i b' o'
    split at h
    · rename_i cs T' hH
      split at h
      · rename_i hc
        cases h
        obtain ⟨hl, hsz, hle⟩ := hc
        obtain rfl := ha.sc_inv
        obtain ⟨g1, g2⟩ := lies_cells hx hl
        obtain ⟨hW, us, hcur, hrel, hone, hcom⟩ := hi.obj _ _ hH
        replace hW : W0.heap.size ≤ b := hW
        have hlen := g1.length
        have hul := hrel.length
        have hlen2 : u.cells.size = x.cells.length := by rw [← Array.length_toList]; omega
        have hst := run_storeCells_at P b o T' u.cells.toList 0 us.toArray w hcur (by simp; omega) g2
        simp only [Nat.add_zero] at hst
        rw [← vset_eq _ _ _ (by simp; omega)] at hst
        refine ⟨cs, T', w.setRow b (vset us o u.cells.toList).toArray, hH, ?_, ?_⟩
        · have hne : ¬ (u.cells.size ≠ x.cells.length) := by omega
          simp only [Instr.storeAt, Instr.sureAddr, Sem.run_bind, Sem.run_pure, Result.andThen_ok, storeVar, run_sizeOf hsz, hne, if_false]
          exact hst
        · generalize hrow : (vset us o u.cells.toList).toArray = row
          have hsame : ∀ k, k ≠ b → (w.setRow b row).heap[k]? = w.heap[k]? := fun k hk => setRow_other w b k row hk
          have hnew : (w.setRow b row).heap[b]? = some (.cells row T' (0, 0)) := setRow_heap w b us.toArray row T' _ hcur
          refine ⟨hi.below.trans ⟨rfl, rfl, rfl, by simp [World.setRow], fun k hk => hsame k (by omega)⟩, ?_, ?_⟩
          · intro b' o' q hq
            have hb' : b' ≠ b := by
              rintro rfl
              rw [hcom] at hq; cases hq
            rw [World.cell?_of_block (w := w) (a := ⟨b', o', none⟩) (hsame b' hb')]
            exact hi.com _ _ _ hq
          · intro b' ob hob
            unfold Heap.set at hob
            by_cases hb' : b' = b
            · subst hb'
              rw [if_pos rfl] at hob
              cases hob
              refine ⟨hW, vset us o u.cells.toList, ?_, rel_lset hrel g1, vset_one hone g2, hcom⟩
              rw [hnew, ← hrow]
            · rw [if_neg hb'] at hob
              obtain ⟨q1, q2⟩ := hi.obj _ _ hob
              exact ⟨q1, q2.heap (hsame b' hb')⟩
      · cases h
    · cases h
  · cases h
theorem s_unarr {T : TypeId} {x r : AV} {u : Value} {b : Nat} {lo hi' mx : Option AV} {lo' hi'' mx' : Option Value} (hi : Inv W0 C H w) (hx : Rel C x u) (hlo : ORel C lo lo') (hhi : ORel C hi' hi'') (hmx : ORel C mx mx')
    (h : aunarr P T x lo hi' mx H = .unarr b r) : ∃ v C', (Instr.sliceAt T u lo' hi'' mx').run P w = .ok v w ∧ Rel C' r v ∧ CLe C C' ∧ Inv W0 C' (H.del b) w := by
  unfold aunarr at h
  split at h
  · rename_i b' o
    obtain rfl := hx.sc_inv
    split at h
    · rename_i cs T' hH
      split at h
      · rename_i len e hT
        split at h
        · rename_i l h2 hl hh
          split at h
          · rename_i hb
            obtain ⟨hsz, rfl, hone, hlen, hmax, h1, h3, h4, hm⟩ := hb
            cases h
            have hmn : mx' = none := by cases mx <;> cases mx' <;> simp_all [ORel]
            subst hmn
            obtain ⟨hbase, vs, hheap, hrel, hv1, hfree⟩ := hi.obj _ _ hH
            have hvl : vs.length = len := by rw [← hrel.length]; exact hlen
            have hu : P.underlying T = some (.array len e) := by
              unfold tarr at hT
              split at hT
              · rename_i n e' hu; cases hT; exact hu
              · cases hT
            have hle : CLe C (commit C b 0 vs) := commit_le fun k _ _ => hfree k
            have hcell : ∀ j u, vs[j]? = some u → w.cell? ⟨b, j, none⟩ = some u := fun j u hu => by
              rw [cell_of_row _ _ _ _ _ _ hheap]; simpa using hu
            have hI : Inv W0 (commit C b 0 vs) (H.del b) w := by
              refine ⟨hi.below, fun b2 o2 u2 e2 => ?_, fun b2 ob2 e2 => ?_⟩
              · rcases commit_inv e2 with ⟨rfl, _, hu2⟩ | hc
                · exact hcell _ _ (by simpa using hu2)
                · exact hi.com _ _ _ hc
              · unfold Heap.del at e2
                split at e2
                · cases e2
                · rename_i hne
                  refine ⟨(hi.obj _ _ e2).1, (hi.obj _ _ e2).2.com hle fun o2 ho => ?_⟩
                  rw [commit_other hne]; exact ho
            have e1 : (h2.toNat : Int) = h2 := Int.toNat_of_nonneg (by omega)
            have e2 : (l.toNat : Int) = l := Int.toNat_of_nonneg h1
            have hsame : (Instr.sliceBounds false len len lo' hi'' none).run P w = .ok (l.toNat, h2.toNat, len) w := by
              have hhr := bound_spec hhi.some_iff.1 hhi.some_iff.2 hh
              have hlr := bound_spec hlo.some_iff.1 hlo.some_iff.2 hl
              have hb1 : (0 : Int) ≤ h2 ∧ h2 ≤ len := ⟨by omega, h4⟩
              have hb2 : (0 : Int) ≤ l ∧ l ≤ h2.toNat := ⟨by omega, by omega⟩
              rcases hhr with ⟨rfl, _, rfl⟩ | ⟨k, rfl, _⟩ <;> rcases hlr with ⟨rfl, _, rfl⟩ | ⟨k', rfl, _⟩
              · simp [Instr.sliceBounds]
              · simp at hb2
                simp [Instr.sliceBounds, Sem.run_bind, run_sliceBound hb2]
              · simp [Instr.sliceBounds, Sem.run_bind, run_sliceBound hb1]
              · simp [Instr.sliceBounds, Sem.run_bind, run_sliceBound hb1, run_sliceBound hb2]
            have hcells : ∀ zs : List AV, zs.all AV.one = true → zs.flatMap AV.cells = zs := by
              intro zs hz
              induction zs with
              | nil => rfl
              | cons z zs ih =>
                simp only [List.all_cons, Bool.and_eq_true] at hz
                have hc : z.cells = [z] := by cases z <;> first | rfl | (simp [AV.one] at hz)
                simp [hc, ih hz.2]
            have hsub : ((cs.take h2.toNat).drop l.toNat).all AV.one = true := by
              rw [List.all_eq_true] at hone ⊢
              exact fun z hz => hone z (List.mem_of_mem_take (List.mem_of_mem_drop hz))
            have hr2 : RelL C ((cs.take h2.toNat).drop l.toNat) ((vs.take h2.toNat).drop l.toNat) := (hrel.take _).drop _
            have hln : ((cs.take h2.toNat).drop l.toNat).length = h2.toNat - l.toNat := by
              simp; omega
            have hslice : ∀ a : Addr, (l.toNat < len → a = ⟨b, l.toNat, none⟩) → Rel (commit C b 0 vs) (.sl ((cs.take h2.toNat).drop l.toNat) .no) (.slice (some a) (h2.toNat - l.toNat) (len - l.toNat)) := by
              intro a ha
              by_cases h0 : h2.toNat - l.toNat = 0
              · have hnil : (cs.take h2.toNat).drop l.toNat = [] := List.eq_nil_of_length_eq_zero (by rw [hln]; exact h0)
                rw [hnil, h0]
                exact .emp _ a _ (.inl rfl) (by omega) .nil
              · rw [ha (by omega), ← hln]
                refine .sl _ b l.toNat _ 1 (us := (vs.take h2.toNat).drop l.toNat) ?_ ?_ ?_ ?_ (by rw [hln]; omega) (by omega) trivial .nil
                · rw [hcells _ hsub]; exact hr2.mono hle
                · intro z hz
                  have := List.all_eq_true.1 hsub z hz
                  cases z <;> first | rfl | (simp [AV.one] at this)
                · exact fun z hz => hv1 z (List.mem_of_mem_take (List.mem_of_mem_drop hz))
                · intro j u hu
                  have hj := (List.getElem?_eq_some_iff.1 hu).1
                  have hju : vs[l.toNat + j]? = some u := by
                    simp only [List.getElem?_drop, List.getElem?_take] at hu
                    split at hu
                    · exact hu
                    · cases hu
                  have := commit_at (C := C) (b := b) (o := 0) hju
                  simpa using this
            refine ⟨_, _, ?_, hslice (if len = l.toNat then ⟨b, 0, none⟩ else ⟨b, l.toNat, none⟩) (fun hlt => by rw [if_neg (by omega)]), hle, hI⟩
            simp only [Instr.sliceAt, Sem.run_bind, run_underlying hu, Result.andThen_ok, Instr.sureAddr, Sem.run_pure, hsame, run_sizeOf hsz]
            congr 2
            congr 1
            split <;> simp [addr_add]
          · cases h
        · cases h
      · cases h
    · cases h
  · exact absurd h (by unfold aslice; (repeat' split) <;> simp)
theorem unarr_val {T : TypeId} {x v : AV} {lo hi' mx : Option AV} (h : aunarr P T x lo hi' mx H = .val v) : (∀ H', aunarr P T x lo hi' mx H' = .val v) ∧ aslice P T x lo hi' mx = .val v := by
  unfold aunarr at h
  split at h
  · (repeat' split at h) <;> cases h
  · rename_i hx
    refine ⟨fun H' => ?_, h⟩
    unfold aunarr
    split
    · exact absurd rfl (hx _ _)
    · exact h
end Rg
