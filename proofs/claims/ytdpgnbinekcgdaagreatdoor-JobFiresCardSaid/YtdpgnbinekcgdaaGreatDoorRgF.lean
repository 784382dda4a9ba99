/- Composites, slices of parts, append. -/
import Derived.Test.YtdpgnbinekcgdaaGreatDoorRgE
namespace Rg
open Go Go.RowKit

variable {P : Program} {W0 : World} {C : Com} {H : Heap} {w : World}

theorem s_build {T : TypeId} {ps : List (Nat × AV)} {qs : Array (Nat × Value)} {r : AV} (hi : Inv W0 C H w) (h3 : ps.map (·.1) = qs.toList.map (·.1)) (h4 : RelL C (ps.map (·.2)) (qs.toList.map (·.2)))
    (h : abuild P T ps = .val r) : VOk P W0 C H w (Instr.build T qs) r := by
  unfold abuild at h
  split at h
  · rename_i z hz
    split at h
    · rename_i hone
      obtain ⟨hone, hss⟩ := hone
      split at h
      · rename_i cs hcs
        cases h
        have hz1 : ∀ u ∈ z.cells.toList, u.oneCell' = true := fun u hu => by simpa using List.all_eq_true.1 hone u hu
        unfold tsizes at hss
        split at hss
        · rename_i fs hu
          obtain ⟨fl⟩ := fs
          have hsz : ∀ f ∈ fl, ∃ n, tsize P f.type = some n := fun f hf => Option.isSome_iff_exists.1 (List.all_eq_true.1 hss f hf)
          have hpl : ∀ i p, aplace P T i = some p → (fun x => Option.map (fun f : Field => (f.offset, (tsize P f.type).getD 0)) fl[x]?) i = some p := by
            intro i p hp
            rw [aplace_struct hu] at hp
            obtain ⟨f, hf, hp⟩ := Option.bind_eq_some_iff.1 hp
            obtain ⟨n, hn, rfl⟩ := Option.map_eq_some_iff.1 hp
            simp only [List.getElem?_toArray] at hf ⊢
            simp [hf, hn]
          obtain ⟨us, f1, f2, f3⟩ := s_fill (C := C) hpl ps qs.toList _ cs z.cells.toList (relL_ofCells _) hz1 h3 h4 hcs
          have hm := mapM_places (P := P) fl w hsz
          simp only [bind_pure_comp] at hm
          refine VOk.same hi (v := .agg us.toArray) ?_ (.agg f2 f3 .nil)
          simp only [Array.toArray_toList] at f1
          simp [Instr.build, Sem.run_bind, run_zeroValue hz, run_underlying hu, hm, f1]
        · rename_i n e hu
          obtain ⟨sz, hsz⟩ := Option.isSome_iff_exists.1 hss
          have hpl : ∀ i p, aplace P T i = some p → (fun i => some (i * sz, sz)) i = some p := by
            intro i p hp
            simpa [aplace, hu, hsz] using hp
          obtain ⟨us, f1, f2, f3⟩ := s_fill (C := C) hpl ps qs.toList _ cs z.cells.toList (relL_ofCells _) hz1 h3 h4 hcs
          refine VOk.same hi (v := .agg us.toArray) ?_ (.agg f2 f3 .nil)
          simp only [Array.toArray_toList] at f1
          simp [Instr.build, Sem.run_bind, run_zeroValue hz, run_underlying hu, run_sizeOf hsz, f1]
        · cases hss
      · cases h
    · cases h
  · cases h

theorem lset_eq (ds : List AV) : ∀ (cs : List AV) (o : Nat), o + ds.length ≤ cs.length → lset cs o ds = cs.take o ++ ds ++ cs.drop (o + ds.length) := by
  induction ds with
  | nil => intro cs o h; simp [lset]
  | cons d ds ih =>
    intro cs o h
    simp only [List.length_cons] at h
    rw [lset, ih (cs.set o d) (o + 1) (by simp; omega)]
    have hA : cs.set o d = cs.take o ++ d :: cs.drop (o + 1) := by rw [List.set_eq_take_append_cons_drop, if_pos (by omega)]
    have hl : (cs.take o).length = o := by simp; omega
    have h1 : (cs.set o d).take (o + 1) = cs.take o ++ [d] := by
      rw [hA, List.take_append, hl, List.take_of_length_le (by omega), Nat.add_sub_cancel_left]
      rfl
    have h2 : (cs.set o d).drop (o + 1 + ds.length) = cs.drop (o + (ds.length + 1)) := by
      rw [hA, List.drop_append, hl, List.drop_eq_nil_of_le (by omega), show o + 1 + ds.length - o = ds.length + 1 by omega, List.drop_succ_cons, List.drop_drop, List.nil_append]
      congr 1
      omega
    rw [h1, h2, List.length_cons]
    simp

theorem flat_set {sz : Nat} {x : AV} (hx : x.cells.length = sz) : ∀ (xs : List AV) (i : Nat), (∀ y ∈ xs, y.cells.length = sz) → i < xs.length → (xs.set i x).flatMap AV.cells = lset (xs.flatMap AV.cells) (i * sz) x.cells := by
  intro xs i h hi
  rw [lset_eq _ _ _ (by
    rw [flat_length h, hx]
    have : (i + 1) * sz ≤ xs.length * sz := Nat.mul_le_mul_right _ hi
    rw [Nat.add_mul] at this; omega)]
  rw [List.set_eq_take_append_cons_drop, if_pos hi, List.flatMap_append, List.flatMap_cons, flat_take h, flat_drop h, hx, Nat.add_mul, Nat.one_mul, List.append_assoc]

theorem szs_set {sz : Nat} {x : AV} (hx : x.cells.length = sz) {xs : List AV} (h : ∀ y ∈ xs, y.cells.length = sz) (i : Nat) : ∀ y ∈ xs.set i x, y.cells.length = sz := by
  intro y hy
  rcases List.mem_or_eq_of_mem_set hy with hy | rfl
  · exact h y hy
  · exact hx

theorem s_els {sz : Nat} : ∀ (ps : List (Nat × AV)) (qs : List (Nat × Value)) (xs xs' : List AV) (us : List Value), RelL C (xs.flatMap AV.cells) us → (∀ u ∈ us, u.oneCell' = true) → (∀ y ∈ xs, y.cells.length = sz) →
      ps.map (·.1) = qs.map (·.1) → RelL C (ps.map (·.2)) (qs.map (·.2)) → aels sz xs ps = some xs' →
      ∃ us', Instr.fill (fun i => some (i * sz, sz)) us.toArray qs = some us'.toArray ∧ RelL C (xs'.flatMap AV.cells) us' ∧ (∀ u ∈ us', u.oneCell' = true) ∧ (∀ y ∈ xs', y.cells.length = sz) ∧ xs'.length = xs.length
  | [], qs, xs, xs', us, h1, h2, hs, h3, _, h => by
    have : qs = [] := by simpa using h3.symm
    subst this
    simp [aels] at h
    subst h
    exact ⟨us, by simp [Instr.fill], h1, h2, hs, rfl⟩
  | (i, x) :: ps, qs, xs, xs', us, h1, h2, hs, h3, h4, h => by
    cases qs with
    | nil => simp at h3
    | cons q qs =>
      obtain ⟨j, v⟩ := q
      simp only [List.map_cons, List.cons.injEq] at h3
      obtain ⟨rfl, h3⟩ := h3
      simp only [List.map_cons] at h4
      obtain ⟨v', vs', e, hv, h4⟩ := h4.uncons
      cases e
      simp only [aels] at h
      split at h
      · rename_i hc
        obtain ⟨hl, hsz, hlt⟩ := hc
        obtain ⟨g1, g2⟩ := lies_cells hv hl
        have gl := g1.length
        have ul := h1.length
        rw [flat_length hs] at ul
        have hcs : v.cells.size = sz := by rw [← Array.length_toList]; omega
        have hfs := flat_set hsz xs i hs hlt
        have hle : (i + 1) * sz ≤ xs.length * sz := Nat.mul_le_mul_right _ hlt
        rw [Nat.add_mul] at hle
        obtain ⟨us', f1, f2, f3, f4, f5⟩ := s_els ps qs (xs.set i x) xs' (vset us (i * sz) v.cells.toList) (by rw [hfs]; exact rel_lset h1 g1) (vset_one h2 g2) (szs_set hsz hs i) h3 h4 h
        refine ⟨us', ?_, f2, f3, f4, by simpa using f5⟩
        rw [Instr.fill]
        have hno : (decide (v.cells.size ≠ sz) || decide (i * sz + v.cells.size > us.toArray.size)) = false := by
          simp; omega
        simp only [hno, Bool.false_eq_true, if_false]
        have hz := zipIdx_vset v.cells.toList us.toArray (i * sz) 0
        simp only [Nat.add_zero] at hz
        rw [← f1]
        congr 1
        rw [← hz, ← Array.foldl_toList, Array.toList_zipIdx]
      · cases h

theorem range_mod (z : List Value) (n : Nat) : (List.range (n * z.length)).map (fun i => z.toArray[i % z.length]!) = (List.replicate n z).flatten := by
  induction n with
  | zero => simp
  | succ n ih =>
    rw [Nat.add_mul, Nat.one_mul, List.range_add, List.map_append, ih, List.replicate_succ', List.flatten_append, List.map_map]
    congr 1
    apply List.ext_getElem?
    intro i
    simp only [List.flatten_cons, List.flatten_nil, List.append_nil]
    by_cases hi : i < z.length
    · simp [hi, Nat.add_comm (n * z.length) i, Nat.mod_eq_of_lt hi]
    · rw [List.getElem?_eq_none (by simp; omega), List.getElem?_eq_none (by omega)]

theorem lies_ofV {z : Value} (h : z.cells.toList.all Value.oneCell' = true) : (ofV z).lies = true ∧ (ofV z).cells = z.cells.toList.map ofCell := by
  unfold ofV
  split
  · rename_i cs
    simp only [Value.cells] at h
    rw [if_pos h]
    exact ⟨rfl, rfl⟩
  · rename_i h1
    have hc : z.cells = #[z] := by
      cases z <;> first | rfl | exact absurd rfl (h1 _)
    rw [hc] at h ⊢
    simp at h
    have ho := one_ofCell z h
    refine ⟨?_, ?_⟩
    · revert ho; cases ofCell z <;> simp [AV.one, AV.lies]
    · have : (ofCell z).cells = [ofCell z] := by
        unfold ofCell
        split <;> rfl
      simpa using this

theorem rel_replicate {z : AV} {us : List Value} (h : RelL C z.cells us) (n : Nat) : RelL C ((List.replicate n z).flatMap AV.cells) (List.replicate n us).flatten := by
  induction n with
  | zero => exact .nil
  | succ n ih =>
    simp only [List.replicate_succ, List.flatMap_cons, List.flatten_cons]
    exact h.append ih

theorem s_buildRow {T : TypeId} {n : Nat} {ps : List (Nat × AV)} {qs : Array (Nat × Value)} {r : AV} (hi : Inv W0 C H w) (h3 : ps.map (·.1) = qs.toList.map (·.1)) (h4 : RelL C (ps.map (·.2)) (qs.toList.map (·.2)))
    (h : abuildSlice P T n ps = .val r) :
    ∃ e sz xs us, telem P T = some e ∧ tsize P e = some sz ∧ r = .sl xs .full ∧ xs.length = n ∧ n ≤ 16777216 ∧ (Instr.buildSlice T n qs).run P w = .ok (.slice (some ⟨w.heap.size, 0, none⟩) xs.length n) (w.alloc (.cells us.toArray e)) ∧
      RelL C (xs.flatMap AV.cells) us ∧ (∀ u ∈ us, u.oneCell' = true) ∧ (∀ x ∈ xs, x.cells.length = sz) := by
  unfold abuildSlice at h
  split at h
  · rename_i e he
    split at h
    · rename_i sz z hsz hz
      split at h
      · rename_i hone
        obtain ⟨hone, hzl, hn⟩ := hone
        split at h
        · rename_i xs hxs
          cases h
          have hu := telem_spec he
          have hz1 : ∀ u ∈ z.cells.toList, u.oneCell' = true := fun u hu => by simpa using List.all_eq_true.1 hone u hu
          obtain ⟨hl1, hl2⟩ := lies_ofV hone
          have hzr : RelL C (ofV z).cells z.cells.toList := by rw [hl2]; exact relL_ofCells _
          have hrep := rel_replicate hzr n
          have hones : ∀ u ∈ (List.replicate n z.cells.toList).flatten, u.oneCell' = true := by
            intro u hu
            obtain ⟨l, hl, hul⟩ := List.mem_flatten.1 hu
            rw [(List.mem_replicate.1 hl).2] at hul
            exact hz1 u hul
          have hszs : ∀ y ∈ List.replicate n (ofV z), y.cells.length = sz := by
            intro y hy
            rw [(List.mem_replicate.1 hy).2, hl2, List.length_map, hzl]
          obtain ⟨us, f1, f2, f3, f4, f5⟩ := s_els ps qs.toList _ xs _ hrep hones hszs h3 h4 hxs
          have hrm := range_mod z.cells.toList n
          rw [hzl] at hrm
          have hzl' : z.cells.size = sz := by rw [← Array.length_toList]; exact hzl
          have hxl : xs.length = n := by simpa using f5
          refine ⟨e, sz, xs, us, he, hsz, rfl, hxl, by omega, ?_, f2, f3, f4⟩
          · rw [hxl]
            have hle : ¬ (n * sz > 2 ^ 24) := by omega
            simp only [Instr.buildSlice, Sem.run_bind, run_underlying hu, run_sizeOf hsz, Result.andThen_ok, hle, if_false]
            have harr : ∀ (zz : Array Value), zz = z.cells ∨ n * sz = 0 → (Array.range (n * sz)).map (fun i => zz[i % zz.size]!) = ((List.replicate n z.cells.toList).flatten).toArray := by
              intro zz hzz
              apply Array.toList_inj.1
              rcases hzz with rfl | h0
              · rw [← hrm]
                simp [hzl']
              · rw [h0]
                simp only [Array.range_zero']
                have : (List.replicate n z.cells.toList).flatten.length = 0 := by simp [hzl', h0]
                simp [List.eq_nil_of_length_eq_zero this]
            by_cases h0 : n * sz = 0
            · have := harr #[] (.inr h0)
              rw [h0] at this
              simp only [h0, if_true, Sem.run_bind, Sem.run_pure, Result.andThen_ok]
              rw [this, f1]
              simp [newRow]
            · simp only [h0, if_false, Sem.run_bind, run_zeroValue hz, Result.andThen_ok, Sem.run_pure]
              rw [harr z.cells (.inl rfl), f1]
              simp [newRow]
        · cases h
      · cases h
    · cases h
  · cases h

theorem s_buildSlice {T : TypeId} {n : Nat} {ps : List (Nat × AV)} {qs : Array (Nat × Value)} {r : AV} (hi : Inv W0 C H w) (h3 : ps.map (·.1) = qs.toList.map (·.1)) (h4 : RelL C (ps.map (·.2)) (qs.toList.map (·.2)))
    (h : abuildSlice P T n ps = .val r) : VOk P W0 C H w (Instr.buildSlice T n qs) r := by
  obtain ⟨e, sz, xs, us, he, hsz, rfl, hxl, hn, hrun, f2, f3, f4⟩ := s_buildRow hi h3 h4 h
  obtain ⟨hI, hC⟩ := hi.allocCom us [] e (0, 0)
  simp only [List.append_nil] at hI
  refine ⟨_, _, _, hrun, ?_, hC, hI⟩
  refine RelL.sl .full w.heap.size 0 n sz (f2.mono hC) f4 f3 (fun j u hu => commit_at hu) (by omega) ?_ (by simp [TokOk, hxl]) .nil
  simp only [maxLen]; omega

/-- The same, kept as one's own. -/
theorem s_lits {T e : TypeId} {n sz : Nat} {ps : List (Nat × AV)} {qs : Array (Nat × Value)} {xs : List AV} (hi : Inv W0 C H w) (h3 : ps.map (·.1) = qs.toList.map (·.1)) (h4 : RelL C (ps.map (·.2)) (qs.toList.map (·.2)))
    (h : alits P T (abuildSlice P T n ps) = .lits e sz xs) :
    ∃ v g w' C', (Instr.buildSlice T n qs).run P w = .ok v w' ∧ H g = none ∧ CLe C C' ∧ Rel C' (.sl xs (.own g xs.length sz e)) v ∧ Inv W0 C' (H.set g (.open xs.length xs.length sz e)) w' := by
  unfold alits at h
  split at h
  · rename_i xs' hb
    obtain ⟨e', sz', xs2, us, he, hsz, hr, hxl, hn, hrun, f2, f3, f4⟩ := s_buildRow hi h3 h4 hb
    cases hr
    rw [he] at h
    simp only [hsz] at h
    split at h
    · rename_i hc
      cases h
      have hul : us.length = xs.length * sz := by rw [← f2.length]; exact flat_length f4
      obtain ⟨hI, hC⟩ := hi.allocOpen us [] e xs.length xs.length sz hul (by simpa using hul) (Nat.le_refl _) hc.2
      simp only [List.append_nil] at hI
      refine ⟨_, w.heap.size, _, _, hrun, hi.heap_fresh, hC, ?_, hI⟩
      refine RelL.sl _ w.heap.size 0 n sz (f2.mono hC) f4 f3 (fun j u hu => commit_at hu) (by omega) ?_ (by simp [TokOk, hxl]) .nil
      simp only [maxLen]; omega
    · cases h
  · cases h

theorem heap_freeze {w : World} {a : Addr} (k : Nat) : (w.freeze a 1).heap[k]? = if a.block = k then (w.heap[k]?).map (fun | .cells c elem (lo, hi) => .cells c elem (if lo == hi then (a.off, a.off + 1) else (min lo a.off, max hi (a.off + 1))) | o => o) else w.heap[k]? := by
  unfold World.freeze
  rw [if_neg (by decide)]
  simp only [Array.getElem?_modify]
  rfl

/-- A mark on a row of one's own, which one gives up. -/
theorem s_mark {s d e : TypeId} {xs : List AV} {g cap sz : Nat} {T : TypeId} {v : Value} {n cap' sz' : Nat} {T' : TypeId} (hi : Inv W0 C H w) (hv : Rel C (.sl xs (.own g cap sz T)) v) (hsd : s = d) (he : telem P d = some e) (hk : tint P e = some .u8)
    (hg : H g = some (.open n cap' sz' T')) : ∃ w', (convert s d v).run P w = .ok v w' ∧ Inv W0 C (H.del g) w' := by
  subst hsd
  obtain ⟨hW, cur, hcur, hcs, hnc, hcm, hfree⟩ := hi.obj _ _ hg
  replace hW : W0.heap.size ≤ g := hW
  have hform : ∃ l c, v = .slice (some ⟨g, 0, none⟩) l c := by
    have hk := hv
    unfold Rel at hk
    cases hk with
    | nils _ h => cases h
    | emp _ _ _ h => rcases h with h | h | ⟨h, _⟩ <;> cases h
    | @sl _ _ _ us t b' o' cap' sz' h1 h2 h3 h4 h5 h6 h7 _ =>
      obtain ⟨rfl, rfl, rfl, _⟩ := h7
      exact ⟨_, _, rfl⟩
  obtain ⟨l, c, rfl⟩ := hform
  have hsh : w.shape? g = some (T', cur.size) := by unfold World.shape?; rw [hcur]
  have hrun : (convert s s (.slice (some ⟨g, 0, none⟩) l c)).run P w = .ok (.slice (some ⟨g, 0, none⟩) l c) (w.freeze ⟨g, cur.size, none⟩ 1) := by
    simp [convert, run_underlying (telem_spec he), run_underlying (tint_spec hk), markStringish, hsh]
  refine ⟨_, hrun, ?_⟩
  have hsame : ∀ k, k ≠ g → (w.freeze ⟨g, cur.size, none⟩ 1).heap[k]? = w.heap[k]? := fun k hk => by
    rw [heap_freeze, if_neg (fun e => hk e.symm)]
  have hcell : ∀ b o, (w.freeze ⟨g, cur.size, none⟩ 1).cell? ⟨b, o, none⟩ = w.cell? ⟨b, o, none⟩ := fun b o => by
    unfold World.cell?
    simp only [heap_freeze]
    by_cases hb : g = b
    · subst hb
      rw [if_pos rfl, hcur]
      rfl
    · rw [if_neg hb]
  refine ⟨hi.below.trans ⟨rfl, rfl, rfl, ?_, fun k hk => hsame k (by omega)⟩, fun b o u hu => by rw [hcell]; exact hi.com _ _ _ hu, fun b ob hob => ?_⟩
  · unfold World.freeze
    rw [if_neg (by decide)]
    simp
  · unfold Heap.del at hob
    split at hob
    · cases hob
    · rename_i hb
      exact ⟨(hi.obj b ob hob).1, (hi.obj b ob hob).2.heap (hsame b hb)⟩

end Rg
