/- append; new objects; stores. -/
import Derived.Test.YtdpgnbinekcgdaaGreatDoorRgF
namespace Rg
open Go Go.RowKit

variable {P : Program} {W0 : World} {C : Com} {H : Heap} {w : World}

theorem tbytes_spec {T : TypeId} {n : Nat} (h : tbytes P T = some n) : ∃ i, P.info? T = some i ∧ i.bytes = n := by
  unfold tbytes at h; cases hi : P.info? T with
  | none => rw [hi] at h; cases h
  | some i => rw [hi] at h; exact ⟨i, rfl, by simpa using h⟩

/-- What append wants to know of the element's type. -/
structure ElemOk (P : Program) (T e : TypeId) (sz by_ : Nat) : Prop where
  el : telem P T = some e
  size : tsize P e = some sz
  bytes : tbytes P e = some by_
  zero : ∃ z, tzero P e = some z ∧ z.cells.size = sz
  pos : 0 < sz

theorem ElemOk.info {T e : TypeId} {sz by_ : Nat} (h : ElemOk P T e sz by_) : ∃ (i : TypeInfo) (z : Value), P.info? e = some i ∧ i.size = sz ∧ i.bytes = by_ ∧ i.zero = some z ∧ z.cells.size = sz := by
  obtain ⟨i, hi, h1⟩ := tsize_spec h.size
  obtain ⟨i', hi', h2⟩ := tbytes_spec h.bytes
  obtain ⟨z, hz, h3⟩ := h.zero
  rw [hi] at hi'; cases hi'
  unfold tzero at hz
  rw [hi] at hz
  exact ⟨i, z, hi, h1, h2, by simpa using hz, h3⟩

/-- The cells of a slice, as append reads them. -/
theorem src_cells {ys : List AV} {t : Tok} {v : Value} {sz : Nat} (hi : Inv W0 C H w) (hv : Rel C (.sl ys t) v) (hs : szs sz ys = true) (h0 : ys ≠ []) :
    ∃ b o cap news, v = .slice (some ⟨b, o, none⟩) ys.length cap ∧ RelL C (ys.flatMap AV.cells) news ∧ (∀ u ∈ news, u.oneCell' = true) ∧ news.length = ys.length * sz ∧ (∀ j u, news[j]? = some u → C b (o + j) = some u) ∧
      (∀ j u, news[j]? = some u → w.cell? ((⟨b, o, none⟩ : Addr).add j) = some u) := by
  unfold Rel at hv
  cases hv with
  | nils => exact absurd rfl h0
  | emp => exact absurd rfl h0
  | @sl _ _ _ us t b o cap sz' h1 h2 h3 h4 h5 h6 h7 _ =>
    have hl := h1.length
    rw [flat_length (szs_spec hs)] at hl
    exact ⟨b, o, cap, us, rfl, h1, h3, hl.symm, h4, fun j u hu => by rw [addr_add]; exact hi.com _ _ _ (h4 j u hu)⟩

theorem run_append_zero {T e : TypeId} {sz by_ : Nat} (he : ElemOk P T e sz by_) (ty : TypeId) {a : Option Addr} {n cap : Nat} (hle : n ≤ cap) {v : Value} {t : Tok} (hv : Rel C (.sl [] t) v) :
    (Builtin.append_ #[T, T] ty #[.slice a n cap, v]).run P w = .ok (.slice a n cap) w := by
  obtain ⟨i, z, hi, h1, _⟩ := he.info
  have hu := telem_spec he.el
  obtain ⟨b, c, rfl, _⟩ := hv.sl_form
  cases a <;> cases b <;> simp [Builtin.append_, run_underlying hu, Go.sizeOf, typeInfo, hi, Builtin.lenOf, hle, Builtin.firstCells, loadCells, loadCellsFrom, storeCells]

theorem list_arr3 (a b : List Value) (c : Array Value) : (a.toArray ++ b.toArray ++ c) = (a ++ b ++ c.toList).toArray := by
  apply Array.toList_inj.1; simp

/-- A new row behind an append that had to grow. -/
theorem grown_row {e : TypeId} {sz : Nat} {z : Value} (hz : z.cells.size = sz) (hi : Inv W0 C H w) (ls : List AV) (us : List Value) (hr : RelL C (ls.flatMap AV.cells) us) (h1 : ∀ u ∈ us, u.oneCell' = true) (hs : ∀ x ∈ ls, x.cells.length = sz) (cap : Nat)
    (hc : ls.length ≤ cap) (hm : cap ≤ maxLen) :
    ∃ C', CLe C C' ∧ Inv W0 C' (H.set w.heap.size (.open ls.length cap sz e)) (w.drew.alloc (.cells (us ++ (Builtin.zeroCells z.cells (cap - ls.length)).toList).toArray e)) ∧
      Rel C' (.sl ls (.own w.heap.size cap sz e)) (.slice (some ⟨w.heap.size, 0, none⟩) ls.length cap) := by
  have hul := hr.length
  rw [flat_length hs] at hul
  obtain ⟨hI, hC⟩ := hi.draw.allocOpen us (Builtin.zeroCells z.cells (cap - ls.length)).toList e ls.length cap sz hul.symm (by
    have h2 : (Builtin.zeroCells z.cells (cap - ls.length)).toList.length = (cap - ls.length) * sz := by rw [Array.length_toList, size_zeroCells, hz]
    rw [List.length_append, h2, ← hul, ← Nat.add_mul]
    congr 1; omega) hc hm
  refine ⟨_, hC, hI, ?_⟩
  exact .sl _ w.heap.size 0 cap sz (hr.mono hC) hs h1 (fun j u hu => commit_at hu) hc hm ⟨rfl, rfl, rfl, rfl⟩ .nil

theorem szs_append {sz : Nat} {xs ys : List AV} (hx : szs sz xs = true) (hy : szs sz ys = true) : ∀ x ∈ xs ++ ys, x.cells.length = sz := by
  intro x h
  rcases List.mem_append.1 h with h | h
  · exact szs_spec hx x h
  · exact szs_spec hy x h

/-- append onto a slice that has no room, at least one element: a new row, the call's own. -/
theorem s_app_new {T e ty : TypeId} {sz by_ : Nat} (he : ElemOk P T e sz by_) {xs ys : List AV} {t t' : Tok} {u v : Value} (hi : Inv W0 C H w) (hu : Rel C (.sl xs t) u) (hv : Rel C (.sl ys t') v)
    (ht : t = .nil ∨ t = .full) (hx : szs sz xs = true) (hy : szs sz ys = true) (h0 : ys ≠ []) (hb : (xs.length + ys.length) * by_ ≤ 140737488355328) (hm : xs.length + ys.length ≤ maxLen) :
    ∃ v' w' C' g cap, (Builtin.append_ #[T, T] ty #[u, v]).run P w = .ok v' w' ∧ H g = none ∧ CLe C C' ∧ Rel C' (.sl (xs ++ ys) (.own g cap sz e)) v' ∧ Inv W0 C' (H.set g (.open (xs.length + ys.length) cap sz e)) w' := by
  obtain ⟨i, z, hinf, rfl, rfl, hz1, hz2⟩ := he.info
  have hT := telem_spec he.el
  obtain ⟨b, o, cp, news, rfl, n1, n2, n3, _, n5⟩ := src_cells hi hv hy h0
  have hylen : 0 < ys.length := List.length_pos_iff.2 h0
  have hm' : xs.length + ys.length ≤ 9223372036854775807 := by simpa [maxLen] using hm
  have grow0 : ∀ a : Addr, xs = [] → u = .slice (some a) 0 0 → (Builtin.append_ #[T, T] ty #[u, .slice (some ⟨b, o, none⟩) ys.length cp]).run P w =
      .ok (.slice (some ⟨w.heap.size, 0, none⟩) ys.length (grownCap w ys.length 0 e)) (w.drew.alloc (.cells (news.toArray ++ Builtin.zeroCells z.cells (grownCap w ys.length 0 e - ys.length)) e)) := by
    rintro a rfl rfl
    simp only [List.length_nil, Nat.zero_add] at hm' hb
    have := run_append_grow (P := P) w T ty e i z hT hinf hz1 a 0 0 [] (by simp) (by simp) ⟨b, o, none⟩ ys.length cp news n3 n5 (by omega) (by simp; omega) (growslice_fits (by omega) (by simpa using hb))
    simpa using this
  by_cases hxs : xs = []
  · subst hxs
    simp only [List.length_nil, Nat.zero_add, List.nil_append] at *
    have hcap := grownCap_ge w ys.length 0 e
    have hcm := grownCap_le_maxLen w ys.length 0 e hm
    have hrun : (Builtin.append_ #[T, T] ty #[u, .slice (some ⟨b, o, none⟩) ys.length cp]).run P w =
      .ok (.slice (some ⟨w.heap.size, 0, none⟩) ys.length (grownCap w ys.length 0 e)) (w.drew.alloc (.cells (news.toArray ++ Builtin.zeroCells z.cells (grownCap w ys.length 0 e - ys.length)) e)) := by
      have hk := hu
      unfold Rel at hk
      cases hk with
      | nils => exact run_append_nil (P := P) w T ty e i z hT hinf hz1 ⟨b, o, none⟩ ys.length cp news n3 n5 hylen (by omega) (by omega)
      | emp t a cap h1 h2 _ =>
        have : cap = 0 := by
          rcases h1 with h1 | h1 | ⟨_, h1⟩
          · subst h1; rcases ht with h | h <;> cases h
          · subst h1; rcases ht with h | h <;> cases h
          · exact h1
        subst this
        exact grow0 a trivial rfl
      | sl t b' o' cap sz' h1 h2 h3 h4 h5 h6 h7 _ =>
        rcases ht with rfl | rfl
        · exact h7.elim
        · simp [TokOk] at h7
          subst h7
          exact grow0 _ trivial rfl
    obtain ⟨C', hC, hI, hR⟩ := grown_row (e := e) hz2 hi ys news n1 n2 (szs_spec hy) _ hcap hcm
    rw [show (news.toArray ++ Builtin.zeroCells z.cells (grownCap w ys.length 0 e - ys.length)) = (news ++ (Builtin.zeroCells z.cells (grownCap w ys.length 0 e - ys.length)).toList).toArray from by apply Array.toList_inj.1; simp] at hrun
    exact ⟨_, _, C', w.heap.size, _, hrun, hi.heap_fresh, hC, hR, hI⟩
  · obtain ⟨b', o', cp', olds, rfl, m1, m2, m3, _, m5⟩ := src_cells hi hu hx hxs
    have hcap' : cp' = xs.length := by
      have hk := hu
      unfold Rel at hk
      cases hk with
      | emp => exact absurd rfl hxs
      | sl t _ _ cap _ _ _ _ _ _ _ h7 _ =>
        rcases ht with rfl | rfl
        · exact h7.elim
        · simpa [TokOk] using h7
    subst hcap'
    have hcap := grownCap_ge w (xs.length + ys.length) xs.length e
    have hcm := grownCap_le_maxLen w (xs.length + ys.length) xs.length e hm
    have hrun := run_append_grow (P := P) w T ty e i z hT hinf hz1 ⟨b', o', none⟩ xs.length xs.length olds m3 m5 ⟨b, o, none⟩ ys.length cp news n3 n5 (by omega) (by omega) (growslice_fits (by omega) hb)
    obtain ⟨C', hC, hI, hR⟩ := grown_row (e := e) hz2 hi (xs ++ ys) (olds ++ news) (by rw [List.flatMap_append]; exact m1.append n1) (by intro q hq; rcases List.mem_append.1 hq with h | h; exact m2 q h; exact n2 q h) (szs_append hx hy) _
      (by rw [List.length_append]; exact hcap) hcm
    rw [list_arr3] at hrun
    rw [List.length_append] at hI hR
    exact ⟨_, _, C', w.heap.size, _, hrun, hi.heap_fresh, hC, hR, hI⟩

/-- append onto a slice that has no room: its spare places are forgotten. -/
theorem s_app_no {T e ty : TypeId} {sz by_ : Nat} (he : ElemOk P T e sz by_) {xs ys : List AV} {t t' : Tok} {u v : Value} (hi : Inv W0 C H w) (hu : Rel C (.sl xs t) u) (hv : Rel C (.sl ys t') v)
    (ht : (t = .nil ∨ t = .full) ∨ ys = []) (hx : szs sz xs = true) (hy : szs sz ys = true) (hb : (xs.length + ys.length) * by_ ≤ 140737488355328) (hm : xs.length + ys.length ≤ maxLen) :
    VOk P W0 C H w (Builtin.append_ #[T, T] ty #[u, v]) (.sl (xs ++ ys) .no) := by
  by_cases h0 : ys = []
  · subst h0
    obtain ⟨a, cap, rfl, hle, _⟩ := hu.sl_form
    rw [List.append_nil]
    exact VOk.same hi (run_append_zero he ty hle hv) hu.forget
  · obtain ⟨v', w', C', g, cap, h1, h2, h3, h4, h5⟩ := s_app_new (ty := ty) he hi hu hv (ht.resolve_right h0) hx hy h0 hb hm
    exact ⟨v', w', C', h1, h4.forget, h3, h5.weaken (HLe.set_fresh h2)⟩

/-- The same; of nothing appended the slice itself comes. -/
theorem s_app_any {T e ty : TypeId} {sz by_ : Nat} (he : ElemOk P T e sz by_) {xs ys : List AV} {t t' : Tok} {u v : Value} {r : AV} (hi : Inv W0 C H w) (hu : Rel C (.sl xs t) u) (hv : Rel C (.sl ys t') v) (hr : r = .sl (xs ++ ys) .no ∨ (ys = [] ∧ r = .sl xs t))
    (ht : (t = .nil ∨ t = .full) ∨ ys = []) (hx : szs sz xs = true) (hy : szs sz ys = true) (hb : (xs.length + ys.length) * by_ ≤ 140737488355328) (hm : xs.length + ys.length ≤ maxLen) :
    VOk P W0 C H w (Builtin.append_ #[T, T] ty #[u, v]) r := by
  rcases hr with rfl | ⟨rfl, rfl⟩
  · exact s_app_no he hi hu hv ht hx hy hb hm
  · obtain ⟨a, cap, rfl, hle, _⟩ := hu.sl_form
    exact VOk.same hi (run_append_zero he ty hle hv) hu

theorem HLe.del_set {H : Heap} {g : Nat} {o o' : AObj} (h : H g = some o) : HLe ((H.del g).set g o) H := fun k ob e => by
  unfold Heap.set Heap.del at e
  by_cases hk : k = g
  · subst hk; rw [if_pos rfl] at e; cases e; exact h
  · rw [if_neg hk, if_neg hk] at e; exact e

/-- append onto a slice whose spare places are the call's own. -/
theorem s_app_own {T e ty : TypeId} {sz by_ : Nat} (he : ElemOk P T e sz by_) {xs ys : List AV} {t' : Tok} {u v : Value} {g cap : Nat} (hi : Inv W0 C H w) (hu : Rel C (.sl xs (.own g cap sz e)) u) (hv : Rel C (.sl ys t') v)
    (hg : H g = some (.open xs.length cap sz e)) (hx : szs sz xs = true) (hy : szs sz ys = true) (hb : (xs.length + ys.length) * by_ ≤ 140737488355328) (hm : xs.length + ys.length ≤ maxLen) :
    ∃ v' w' C' g' cap', (Builtin.append_ #[T, T] ty #[u, v]).run P w = .ok v' w' ∧ (H.del g) g' = none ∧ CLe C C' ∧ Rel C' (.sl (xs ++ ys) (.own g' cap' sz e)) v' ∧
      Inv W0 C' ((H.del g).set g' (.open (xs.length + ys.length) cap' sz e)) w' := by
  by_cases h0 : ys = []
  · subst h0
    obtain ⟨a, c, rfl, hle, _⟩ := hu.sl_form
    rw [List.append_nil]
    refine ⟨_, w, C, g, cap, run_append_zero he ty hle hv, by simp [Heap.del], CLe.refl C, hu, hi.weaken ?_⟩
    exact HLe.del_set (o' := .open 0 0 0 0) hg
  obtain ⟨i, z, hinf, rfl, rfl, hz1, hz2⟩ := he.info
  have hT := telem_spec he.el
  obtain ⟨b, o, cp, news, rfl, n1, n2, n3, n4, n5⟩ := src_cells hi hv hy h0
  have hylen : 0 < ys.length := List.length_pos_iff.2 h0
  have hm' : xs.length + ys.length ≤ 9223372036854775807 := by simpa [maxLen] using hm
  obtain ⟨hW, cur, hcur, hcs, hnc, hcm, hfree⟩ := hi.obj _ _ hg
  replace hW : W0.heap.size ≤ g := hW
  -- the row
  have hform : ∃ olds, u = .slice (some ⟨g, 0, none⟩) xs.length cap ∧ RelL C (xs.flatMap AV.cells) olds ∧ (∀ q ∈ olds, q.oneCell' = true) ∧ (∀ j q, olds[j]? = some q → C g j = some q) := by
    have hk := hu
    unfold Rel at hk
    cases hk with
    | nils _ h => cases h
    | emp _ _ _ h => rcases h with h | h | ⟨h, _⟩ <;> cases h
    | @sl _ _ _ us t b' o' cap' sz' h1 h2 h3 h4 h5 h6 h7 _ =>
      obtain ⟨rfl, rfl, rfl, _⟩ := h7
      exact ⟨us, rfl, h1, h3, fun j q hq => by have := h4 j q hq; rwa [Nat.zero_add] at this⟩
  obtain ⟨olds, rfl, m1, m2, m4⟩ := hform
  have m3 : olds.length = xs.length * i.size := by rw [← m1.length, flat_length (szs_spec hx)]
  have m5 : ∀ j q, olds[j]? = some q → w.cell? ((⟨g, 0, none⟩ : Addr).add j) = some q := fun j q hq => by
    rw [addr_add, Nat.zero_add]; exact hi.com _ _ _ (m4 j q hq)
  by_cases hroom : xs.length + ys.length ≤ cap
  · have hfit : xs.length * i.size + news.length ≤ cur.size := by rw [n3, hcs, ← Nat.add_mul]; exact Nat.mul_le_mul_right _ hroom
    have hrun := run_append_room (P := P) w T ty e i hT hinf g xs.length cap cur hcur ⟨b, o, none⟩ ys.length cp news n3 n5 n2 hroom hfit
    let C' := commit C g (xs.length * i.size) news
    have hC : CLe C C' := commit_le fun k hk _ => hfree k hk
    refine ⟨_, _, C', g, cap, hrun, by simp [Heap.del], hC, ?_, ?_⟩
    · have : (xs ++ ys).length = xs.length + ys.length := List.length_append
      rw [← this] at hroom ⊢
      refine .sl (us := olds ++ news) _ g 0 cap i.size (by rw [List.flatMap_append]; exact (m1.append n1).mono hC) (szs_append hx hy) (by intro q hq; rcases List.mem_append.1 hq with h | h; exact m2 q h; exact n2 q h) ?_ hroom hcm ⟨rfl, rfl, rfl, rfl⟩ .nil
      intro j q hq
      rw [Nat.zero_add]
      by_cases hj : j < olds.length
      · rw [List.getElem?_append_left hj] at hq
        exact hC _ _ _ (m4 j q hq)
      · rw [List.getElem?_append_right (by omega)] at hq
        have := commit_at (C := C) (b := g) (o := xs.length * i.size) hq
        rwa [m3, show xs.length * i.size + (j - xs.length * i.size) = j by omega] at this
    · generalize hrow : (cur.toList.take (xs.length * i.size) ++ news ++ cur.toList.drop (xs.length * i.size + news.length)).toArray = row
      have hrs : row.size = cur.size := by
        rw [← hrow]
        simp
        omega
      have hsame : ∀ k, k ≠ g → (w.setRow g row).heap[k]? = w.heap[k]? := fun k hk => setRow_other w g k row hk
      have hnew : (w.setRow g row).heap[g]? = some (.cells row e (0, 0)) := setRow_heap w g cur row e _ hcur
      refine ⟨hi.below.trans ⟨rfl, rfl, rfl, by simp [World.setRow], fun k hk => hsame k (by omega)⟩, ?_, ?_⟩
      · intro b' o' q hq
        rcases commit_inv hq with ⟨rfl, hlo, hnq⟩ | hcq
        · rw [cell_of_row _ b' o' row e _ hnew, ← hrow]
          have hlt := (List.getElem?_eq_some_iff.1 hnq).1
          rw [List.getElem?_toArray, List.getElem?_append_left (by simp; omega), List.getElem?_append_right (by simp; omega)]
          rw [← hnq]
          congr 1
          simp
          omega
        · have hold := hi.com _ _ _ hcq
          by_cases hb' : b' = g
          · subst hb'
            have hlt : o' < xs.length * i.size := by
              rcases Nat.lt_or_ge o' (xs.length * i.size) with h | h
              · exact h
              · rw [hfree o' h] at hcq; cases hcq
            rw [cell_of_row _ b' o' row e _ hnew, ← hrow]
            rw [cell_of_row _ b' o' cur e _ hcur] at hold
            rw [List.getElem?_toArray, List.append_assoc, List.getElem?_append_left (by simp; omega), List.getElem?_take, if_pos hlt]
            simpa using hold
          · rw [World.cell?_of_block (w := w) (a := ⟨b', o', none⟩) (hsame b' hb')]
            exact hold
      · intro b' ob hob
        unfold Heap.set Heap.del at hob
        by_cases hb' : b' = g
        · subst hb'
          rw [if_pos rfl] at hob
          cases hob
          refine ⟨hW, row, hnew, by rw [hrs, hcs], hroom, hcm, fun o' ho' => ?_⟩
          cases hcc : C' b' o' with
          | none => rfl
          | some q =>
            rcases commit_inv hcc with ⟨_, hlo, hnq⟩ | hcq
            · have := (List.getElem?_eq_some_iff.1 hnq).1
              rw [Nat.add_mul] at ho'
              omega
            · rw [Nat.add_mul] at ho'
              rw [hfree o' (by omega)] at hcq; cases hcq
        · rw [if_neg hb', if_neg hb'] at hob
          obtain ⟨q1, q2⟩ := hi.obj _ _ hob
          exact ⟨q1, (q2.heap (hsame b' hb')).com hC fun o' ho' => by rw [show C' b' o' = C b' o' from commit_other hb']; exact ho'⟩
  · have hcap := grownCap_ge w (xs.length + ys.length) cap e
    have hcm' := grownCap_le_maxLen w (xs.length + ys.length) cap e hm
    have hrun := run_append_grow (P := P) w T ty e i z hT hinf hz1 ⟨g, 0, none⟩ xs.length cap olds m3 m5 ⟨b, o, none⟩ ys.length cp news n3 n5 (by omega) (by omega) (growslice_fits (by omega) hb)
    have hi' : Inv W0 C (H.del g) w := hi.weaken fun k ob e => by
      unfold Heap.del at e
      by_cases hk : k = g
      · rw [if_pos hk] at e; cases e
      · rw [if_neg hk] at e; exact e
    obtain ⟨C', hC, hI, hR⟩ := grown_row (e := e) hz2 hi' (xs ++ ys) (olds ++ news) (by rw [List.flatMap_append]; exact m1.append n1) (by intro q hq; rcases List.mem_append.1 hq with h | h; exact m2 q h; exact n2 q h) (szs_append hx hy) _
      (by rw [List.length_append]; exact hcap) hcm'
    rw [list_arr3] at hrun
    rw [List.length_append] at hI hR
    exact ⟨_, _, C', w.heap.size, _, hrun, hi'.heap_fresh, hC, hR, hI⟩

/-! ### New objects, stores -/

theorem s_alloc {T : TypeId} {cs : List AV} {T' : TypeId} (hi : Inv W0 C H w) (h : aalloc P T = .alloc cs T') :
    ∃ b w', (Instr.alloc T true (.tuple #[])).run P w = .ok (.pointer (some ⟨b, 0, none⟩)) w' ∧ H b = none ∧ Inv W0 C (H.set b (.cells cs T')) w' := by
  unfold aalloc at h
  split at h
  · rename_i z hz
    split at h
    · rename_i ho
      cases h
      have ho' : ∀ v ∈ z.cells.toList, v.oneCell' = true := fun u hu => by simpa using List.all_eq_true.1 ho u hu
      have hI := hi.allocObj _ z.cells.toList T (relL_ofCells _) ho'
      exact ⟨w.heap.size, _, by simp [Instr.alloc, Sem.run_bind, run_zeroValue hz, newVar, newRow], hi.heap_fresh, hI⟩
    · cases h
  · cases h

theorem s_box {T : TypeId} {x : AV} {u : Value} {cs : List AV} {T' : TypeId} (hi : Inv W0 C H w) (hx : Rel C x u) (h : abox T x = .alloc cs T') :
    ∃ b w', (Instr.box T u).run P w = .ok (.pointer (some ⟨b, 0, none⟩)) w' ∧ H b = none ∧ Inv W0 C (H.set b (.cells cs T')) w' := by
  unfold abox at h
  split at h
  · rename_i hl
    cases h
    obtain ⟨h1, h2⟩ := lies_cells hx hl
    have hI := hi.allocObj _ _ T h1 h2
    exact ⟨w.heap.size, _, by simp [Instr.box, newVar, newRow], hi.heap_fresh, hI⟩
  · cases h

theorem vset_eq (ds : List Value) : ∀ (cs : List Value) (o : Nat), o + ds.length ≤ cs.length → vset cs o ds = cs.take o ++ ds ++ cs.drop (o + ds.length) := by
  induction ds with
  | nil => intro cs o h; simp [vset]
  | cons d ds ih =>
    intro cs o h
    simp only [List.length_cons] at h
    rw [vset, ih (cs.set o d) (o + 1) (by simp; omega)]
    have hA : cs.set o d = cs.take o ++ d :: cs.drop (o + 1) := by rw [List.set_eq_take_append_cons_drop, if_pos (by omega)]
    have hl : (cs.take o).length = o := by simp; omega
    have h1 : (cs.set o d).take (o + 1) = cs.take o ++ [d] := by
      rw [hA, List.take_append, hl, List.take_of_length_le (by omega), Nat.add_sub_cancel_left]
      rfl
    have h2 : (cs.set o d).drop (o + 1 + ds.length) = cs.drop (o + (ds.length + 1)) := by
      rw [hA, List.drop_append, hl, List.drop_eq_nil_of_le (by omega), show o + 1 + ds.length - o = ds.length + 1 by omega, List.drop_succ_cons, List.drop_drop, List.nil_append]
      congr 1
      omega
    rw [h1, h2, List.length_cons]
    simp

theorem s_store {T : TypeId} {a x : AV} {p u : Value} {b o : Nat} {ds : List AV} (hi : Inv W0 C H w) (ha : Rel C a p) (hx : Rel C x u) (h : astore P T a x H = .store b o ds) :
    ∃ cs T' w', H b = some (.cells cs T') ∧ (Instr.storeAt T p u).run P w = .ok () w' ∧ Inv W0 C (H.set b (.cells (lset cs o ds) T')) w' := by
  unfold astore at h
  split at h
  · rename_i b' o'
    split at h
    · rename_i cs T' hH
      split at h
      · rename_i hc
        cases h
        obtain ⟨hl, hsz, hle⟩ := hc
        obtain rfl := ha.sc_inv
        obtain ⟨g1, g2⟩ := lies_cells hx hl
        obtain ⟨hW, us, hcur, hrel, hone, hcom⟩ := hi.obj _ _ hH
        replace hW : W0.heap.size ≤ b := hW
        have hlen := g1.length
        have hul := hrel.length
        have hlen2 : u.cells.size = x.cells.length := by rw [← Array.length_toList]; omega
        have hst := run_storeCells_at P b o T' u.cells.toList 0 us.toArray w hcur (by simp; omega) g2
        simp only [Nat.add_zero] at hst
        rw [← vset_eq _ _ _ (by simp; omega)] at hst
        refine ⟨cs, T', w.setRow b (vset us o u.cells.toList).toArray, hH, ?_, ?_⟩
        · have hne : ¬ (u.cells.size ≠ x.cells.length) := by omega
          simp only [Instr.storeAt, Instr.sureAddr, Sem.run_bind, Sem.run_pure, Result.andThen_ok, storeVar, run_sizeOf hsz, hne, if_false]
          exact hst
        · generalize hrow : (vset us o u.cells.toList).toArray = row
          have hsame : ∀ k, k ≠ b → (w.setRow b row).heap[k]? = w.heap[k]? := fun k hk => setRow_other w b k row hk
          have hnew : (w.setRow b row).heap[b]? = some (.cells row T' (0, 0)) := setRow_heap w b us.toArray row T' _ hcur
          refine ⟨hi.below.trans ⟨rfl, rfl, rfl, by simp [World.setRow], fun k hk => hsame k (by omega)⟩, ?_, ?_⟩
          · intro b' o' q hq
            have hb' : b' ≠ b := by
              rintro rfl
              rw [hcom] at hq; cases hq
            rw [World.cell?_of_block (w := w) (a := ⟨b', o', none⟩) (hsame b' hb')]
            exact hi.com _ _ _ hq
          · intro b' ob hob
            unfold Heap.set at hob
            by_cases hb' : b' = b
            · subst hb'
              rw [if_pos rfl] at hob
              cases hob
              refine ⟨hW, vset us o u.cells.toList, ?_, rel_lset hrel g1, vset_one hone g2, hcom⟩
              rw [hnew, ← hrow]
            · rw [if_neg hb'] at hob
              obtain ⟨q1, q2⟩ := hi.obj _ _ hob
              exact ⟨q1, q2.heap (hsame b' hb')⟩
      · cases h
    · cases h
  · cases h

/-- An array of one's own, sliced and given up. -/
theorem s_unarr {T : TypeId} {x r : AV} {u : Value} {b : Nat} {lo hi' mx : Option AV} {lo' hi'' mx' : Option Value} (hi : Inv W0 C H w) (hx : Rel C x u) (hlo : ORel C lo lo') (hhi : ORel C hi' hi'') (hmx : ORel C mx mx')
    (h : aunarr P T x lo hi' mx H = .unarr b r) : ∃ v C', (Instr.sliceAt T u lo' hi'' mx').run P w = .ok v w ∧ Rel C' r v ∧ CLe C C' ∧ Inv W0 C' (H.del b) w := by
  unfold aunarr at h
  split at h
  · rename_i b' o
    obtain rfl := hx.sc_inv
    split at h
    · rename_i cs T' hH
      split at h
      · rename_i len e hT
        split at h
        · rename_i l h2 hl hh
          split at h
          · rename_i hb
            obtain ⟨hsz, rfl, hone, hlen, hmax, h1, h3, h4, hm⟩ := hb
            cases h
            have hmn : mx' = none := by cases mx <;> cases mx' <;> simp_all [ORel]
            subst hmn
            obtain ⟨hbase, vs, hheap, hrel, hv1, hfree⟩ := hi.obj _ _ hH
            have hvl : vs.length = len := by rw [← hrel.length]; exact hlen
            have hu : P.underlying T = some (.array len e) := by
              unfold tarr at hT
              split at hT
              · rename_i n e' hu; cases hT; exact hu
              · cases hT
            have hle : CLe C (commit C b 0 vs) := commit_le fun k _ _ => hfree k
            have hcell : ∀ j u, vs[j]? = some u → w.cell? ⟨b, j, none⟩ = some u := fun j u hu => by
              rw [cell_of_row _ _ _ _ _ _ hheap]; simpa using hu
            have hI : Inv W0 (commit C b 0 vs) (H.del b) w := by
              refine ⟨hi.below, fun b2 o2 u2 e2 => ?_, fun b2 ob2 e2 => ?_⟩
              · rcases commit_inv e2 with ⟨rfl, _, hu2⟩ | hc
                · exact hcell _ _ (by simpa using hu2)
                · exact hi.com _ _ _ hc
              · unfold Heap.del at e2
                split at e2
                · cases e2
                · rename_i hne
                  refine ⟨(hi.obj _ _ e2).1, (hi.obj _ _ e2).2.com hle fun o2 ho => ?_⟩
                  rw [commit_other hne]; exact ho
            have e1 : (h2.toNat : Int) = h2 := Int.toNat_of_nonneg (by omega)
            have e2 : (l.toNat : Int) = l := Int.toNat_of_nonneg h1
            have hsame : (Instr.sliceBounds false len len lo' hi'' none).run P w = .ok (l.toNat, h2.toNat, len) w := by
              have hhr := bound_spec hhi.some_iff.1 hhi.some_iff.2 hh
              have hlr := bound_spec hlo.some_iff.1 hlo.some_iff.2 hl
              have hb1 : (0 : Int) ≤ h2 ∧ h2 ≤ len := ⟨by omega, h4⟩
              have hb2 : (0 : Int) ≤ l ∧ l ≤ h2.toNat := ⟨by omega, by omega⟩
              rcases hhr with ⟨rfl, _, rfl⟩ | ⟨k, rfl, _⟩ <;> rcases hlr with ⟨rfl, _, rfl⟩ | ⟨k', rfl, _⟩
              · simp [Instr.sliceBounds]
              · simp at hb2
                simp [Instr.sliceBounds, Sem.run_bind, run_sliceBound hb2]
              · simp [Instr.sliceBounds, Sem.run_bind, run_sliceBound hb1]
              · simp [Instr.sliceBounds, Sem.run_bind, run_sliceBound hb1, run_sliceBound hb2]
            have hcells : ∀ zs : List AV, zs.all AV.one = true → zs.flatMap AV.cells = zs := by
              intro zs hz
              induction zs with
              | nil => rfl
              | cons z zs ih =>
                simp only [List.all_cons, Bool.and_eq_true] at hz
                have hc : z.cells = [z] := by cases z <;> first | rfl | (simp [AV.one] at hz)
                simp [hc, ih hz.2]
            have hsub : ((cs.take h2.toNat).drop l.toNat).all AV.one = true := by
              rw [List.all_eq_true] at hone ⊢
              exact fun z hz => hone z (List.mem_of_mem_take (List.mem_of_mem_drop hz))
            have hr2 : RelL C ((cs.take h2.toNat).drop l.toNat) ((vs.take h2.toNat).drop l.toNat) := (hrel.take _).drop _
            have hln : ((cs.take h2.toNat).drop l.toNat).length = h2.toNat - l.toNat := by
              simp; omega
            have hslice : ∀ a : Addr, (l.toNat < len → a = ⟨b, l.toNat, none⟩) → Rel (commit C b 0 vs) (.sl ((cs.take h2.toNat).drop l.toNat) .no) (.slice (some a) (h2.toNat - l.toNat) (len - l.toNat)) := by
              intro a ha
              by_cases h0 : h2.toNat - l.toNat = 0
              · have hnil : (cs.take h2.toNat).drop l.toNat = [] := List.eq_nil_of_length_eq_zero (by rw [hln]; exact h0)
                rw [hnil, h0]
                exact .emp _ a _ (.inl rfl) (by omega) .nil
              · rw [ha (by omega), ← hln]
                refine .sl _ b l.toNat _ 1 (us := (vs.take h2.toNat).drop l.toNat) ?_ ?_ ?_ ?_ (by rw [hln]; omega) (by omega) trivial .nil
                · rw [hcells _ hsub]; exact hr2.mono hle
                · intro z hz
                  have := List.all_eq_true.1 hsub z hz
                  cases z <;> first | rfl | (simp [AV.one] at this)
                · exact fun z hz => hv1 z (List.mem_of_mem_take (List.mem_of_mem_drop hz))
                · intro j u hu
                  have hj := (List.getElem?_eq_some_iff.1 hu).1
                  have hju : vs[l.toNat + j]? = some u := by
                    simp only [List.getElem?_drop, List.getElem?_take] at hu
                    split at hu
                    · exact hu
                    · cases hu
                  have := commit_at (C := C) (b := b) (o := 0) hju
                  simpa using this
            refine ⟨_, _, ?_, hslice (if len = l.toNat then ⟨b, 0, none⟩ else ⟨b, l.toNat, none⟩) (fun hlt => by rw [if_neg (by omega)]), hle, hI⟩
            simp only [Instr.sliceAt, Sem.run_bind, run_underlying hu, Result.andThen_ok, Instr.sureAddr, Sem.run_pure, hsame, run_sizeOf hsz]
            congr 2
            congr 1
            split <;> simp [addr_add]
          · cases h
        · cases h
      · cases h
    · cases h
  · exact absurd h (by unfold aslice; (repeat' split) <;> simp)

theorem unarr_val {T : TypeId} {x v : AV} {lo hi' mx : Option AV} (h : aunarr P T x lo hi' mx H = .val v) : (∀ H', aunarr P T x lo hi' mx H' = .val v) ∧ aslice P T x lo hi' mx = .val v := by
  unfold aunarr at h
  split at h
  · (repeat' split at h) <;> cases h
  · rename_i hx
    refine ⟨fun H' => ?_, h⟩
    unfold aunarr
    split
    · exact absurd rfl (hx _ _)
    · exact h

end Rg
