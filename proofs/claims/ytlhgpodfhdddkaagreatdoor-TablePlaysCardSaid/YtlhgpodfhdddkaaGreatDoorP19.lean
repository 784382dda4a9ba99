/- A table of jobs, plainly. Regions that draw their order, walked by hand: a value that hangs on no cell may be put first at any time; guards. slices.Sort at numbers of 64 bits: the kit's plain sort, walked. slices.Sort at numbers of 64 bits: heap sort, reversing. -/
import Derived.Test.YtlhgpodfhdddkaaGreatDoorP18
import Derived.Test.YtlhgpodfhdddkaaGreatDoorP10
import Derived.Test.YtlhgpodfhdddkaaGreatDoorP14
import Derived.Sort.AssemblyPlain
set_option linter.unusedSimpArgs false
set_option linter.unusedVariables false
set_option linter.unnecessarySimpa false
namespace Go.Proofs.YtlhgpodfhdddkaaGreatDoor
open Rg
abbrev Nd := Nat × List Nat
abbrev ndOf (j : Jb) : Nd := (j.id, j.deps)
abbrev ndsOf (L : List Jb) : List Nd := L.map ndOf
abbrev idsN (l : List Nd) : List Nat := l.map fun n => n.1
def Waits (l : List Nd) (a b : Nat) : Prop := ∃ d, (a, d) ∈ l ∧ b ∈ d
def Circ (l : List Nd) : Prop := ∃ a ∈ idsN l, Comes (Waits l) a a
def longN (l : List Nd) : Prop := 64 < l.length ∨ ∃ n ∈ l, 8 < n.2.length
def twiceN (l : List Nd) : Prop := ¬ (idsN l).Nodup ∨ ∃ n ∈ l, ¬ n.2.Nodup
def noneN (l : List Nd) : Prop := ∃ n ∈ l, ∃ d ∈ n.2, d ∉ idsN l
open Classical in
noncomputable def mayN (l : List Nd) : Int :=
  if longN l then 3 else if twiceN l then 130 else if noneN l then 5 else if Circ l then 131 else 0
theorem mayN_zero {l : List Nd} : mayN l = 0 ↔ ¬ longN l ∧ ¬ twiceN l ∧ ¬ noneN l ∧ ¬ Circ l := by
  classical
  unfold mayN
  by_cases h1 : longN l <;> by_cases h2 : twiceN l <;> by_cases h3 : noneN l <;> by_cases h4 : Circ l <;> simp [h1, h2, h3, h4]
structure Tb where
  L : List Jb
  last : Nat
def namedT (T : Tb) (n : List UInt8) : Option Jb := T.L.find? fun j => decide (j.name = n)
def foundT (T : Tb) (id : Nat) : Option Jb := T.L.find? fun j => decide (j.id = id)
def putT (L : List Jb) (id : Nat) (x : Jb) : List Jb := L.map fun k => if k.id = id then x else k
abbrev newJ (T : Tb) (j : Jb) : Jb := { j with id := T.last + 1, ver := 1 }
abbrev chgJ (w j : Jb) : Jb := { j with id := w.id, pau := w.pau, seen := w.seen, ver := w.ver + 1 }
abbrev pauJ (w : Jb) (p : Bool) (s : Int) : Jb := { w with pau := p, seen := if w.pau = true ∧ p = false then max w.seen s else w.seen }
abbrev seeJ (w : Jb) (s : Int) : Jb := { w with seen := max w.seen s }
def badT (s : Int) : Prop := s < -1 ∨ 13569465600 ≤ s
instance (s : Int) : Decidable (badT s) := by unfold badT; infer_instance
noncomputable def addT (T : Tb) (j : Jb) : Nat × Int × Tb :=
  if mayJ j ≠ 0 then (0, mayJ j, T) else if (namedT T j.name).isSome = true then (0, 150, T) else if 32 ≤ T.L.length then (0, 6, T) else
    if mayN (ndsOf (T.L ++ [newJ T j])) ≠ 0 then (0, mayN (ndsOf (T.L ++ [newJ T j])), T) else (T.last + 1, 0, ⟨T.L ++ [newJ T j], T.last + 1⟩)
noncomputable def changeT (T : Tb) (id : Nat) (j : Jb) : Int × Tb :=
  match foundT T id with
  | none => (5, T)
  | some w => if mayJ j ≠ 0 then (mayJ j, T) else if (match namedT T j.name with | some x => decide (x.id ≠ id) | none => false) = true then (150, T) else
    if mayN (ndsOf (putT T.L id (chgJ w j))) ≠ 0 then (mayN (ndsOf (putT T.L id (chgJ w j))), T) else (0, ⟨putT T.L id (chgJ w j), T.last⟩)
def removeT (T : Tb) (id : Nat) : Int × Tb :=
  match foundT T id with
  | none => (5, T)
  | some _ => if ∃ k ∈ T.L, id ∈ k.deps then (151, T) else (0, ⟨T.L.filter fun k => decide (k.id ≠ id), T.last⟩)
def pauseT (T : Tb) (id : Nat) (p : Bool) (s : Int) : Int × Tb :=
  match foundT T id with
  | none => (5, T)
  | some w => if badT s then (2, T) else (0, ⟨putT T.L id (pauJ w p s), T.last⟩)
def seeT (T : Tb) (id : Nat) (s : Int) : Int × Tb :=
  match foundT T id with
  | none => (5, T)
  | some w => if badT s then (2, T) else (0, ⟨putT T.L id (seeJ w s), T.last⟩)
structure TbOk (T : Tb) (n : Nat) : Prop where
  asc : T.L.Pairwise fun a b => a.id < b.id
  pos : ∀ j ∈ T.L, 1 ≤ j.id ∧ j.id ≤ T.last
  nam : (T.L.map fun j => j.name).Nodup
  may : ∀ j ∈ T.L, mayJ j = 0
  len : T.L.length ≤ 32
  row : mayN (ndsOf T.L) = 0
  lst : T.last ≤ n
  ver : ∀ j ∈ T.L, j.ver ≤ n
theorem ids_nodup {L : List Jb} (h : L.Pairwise fun a b => a.id < b.id) : (L.map fun j => j.id).Nodup := by
  unfold List.Nodup
  rw [List.pairwise_map]
  exact h.imp fun hab => by omega
theorem id_inj {L : List Jb} (h : L.Pairwise fun a b => a.id < b.id) {x y : Jb} (hx : x ∈ L) (hy : y ∈ L) (e : x.id = y.id) : x = y := by
  induction L with
  | nil => cases hx
  | cons a L ih =>
    rw [List.pairwise_cons] at h
    rcases List.mem_cons.1 hx with h1 | h1
    · rcases List.mem_cons.1 hy with h2 | h2
      · rw [h1, h2]
      · have := h.1 y h2; rw [h1] at e; omega
    · rcases List.mem_cons.1 hy with h2 | h2
      · have := h.1 x h1; rw [h2] at e; omega
      · exact ih h.2 h1 h2
theorem found_some {T : Tb} {id : Nat} {w : Jb} (h : foundT T id = some w) : w ∈ T.L ∧ w.id = id := by
  unfold foundT at h
  exact ⟨List.mem_of_find?_eq_some h, by simpa using List.find?_some h⟩
theorem found_none {T : Tb} {id : Nat} (h : foundT T id = none) : ∀ k ∈ T.L, k.id ≠ id := by
  unfold foundT at h
  simpa using h
theorem named_some {T : Tb} {n : List UInt8} {w : Jb} (h : namedT T n = some w) : w ∈ T.L ∧ w.name = n := by
  unfold namedT at h
  exact ⟨List.mem_of_find?_eq_some h, by simpa using List.find?_some h⟩
theorem named_none {T : Tb} {n : List UInt8} (h : namedT T n = none) : ∀ k ∈ T.L, k.name ≠ n := by
  unfold namedT at h
  simpa using h
theorem put_ids {L : List Jb} {id : Nat} {x : Jb} (hx : x.id = id) : (putT L id x).map (fun j => j.id) = L.map fun j => j.id := by
  unfold putT
  rw [List.map_map]
  refine List.map_congr_left fun k _ => ?_
  simp only [Function.comp]
  by_cases h : k.id = id
  · rw [if_pos h, hx, h]
  · rw [if_neg h]
theorem put_len {L : List Jb} {id : Nat} {x : Jb} : (putT L id x).length = L.length := by unfold putT; simp
theorem put_mem {L : List Jb} {id : Nat} {x k : Jb} (h : k ∈ putT L id x) : k = x ∨ (k ∈ L ∧ k.id ≠ id) := by
  unfold putT at h
  obtain ⟨q, hq, e⟩ := List.mem_map.1 h
  by_cases hi : q.id = id
  · rw [if_pos hi] at e; exact .inl e.symm
  · rw [if_neg hi] at e; subst e; exact .inr ⟨hq, hi⟩
theorem put_asc {L : List Jb} {id : Nat} {x : Jb} (hx : x.id = id) (h : L.Pairwise fun a b => a.id < b.id) : (putT L id x).Pairwise fun a b => a.id < b.id := by
  have h1 : (L.map fun j => j.id).Pairwise (· < ·) := by rw [List.pairwise_map]; exact h
  rw [← put_ids hx, List.pairwise_map] at h1
  exact h1
theorem put_nds {L : List Jb} {id : Nat} {x w : Jb} (hw : ∀ k ∈ L, k.id = id → ndOf k = ndOf x) : ndsOf (putT L id x) = ndsOf L := by
  unfold putT ndsOf
  rw [List.map_map]
  refine List.map_congr_left fun k hk => ?_
  simp only [Function.comp]
  by_cases h : k.id = id
  · rw [if_pos h, hw k hk h]
  · rw [if_neg h]
theorem put_nam {L : List Jb} {id : Nat} {x : Jb} (ha : L.Pairwise fun a b => a.id < b.id) (hn : (L.map fun j => j.name).Nodup) (hx : ∀ k ∈ L, k.name = x.name → k.id = id) : ((putT L id x).map fun j => j.name).Nodup := by
  have h1 := ids_nodup ha
  clear ha
  induction L with
  | nil => simp [putT]
  | cons a L ih =>
    rw [List.map_cons, List.nodup_cons] at hn h1
    have ihL := ih hn.2 (fun k hk => hx k (List.mem_cons_of_mem _ hk)) h1.2
    have e1 : putT (a :: L) id x = (if a.id = id then x else a) :: putT L id x := rfl
    rw [e1, List.map_cons, List.nodup_cons]
    refine ⟨fun hm => ?_, ihL⟩
    obtain ⟨q, hq, he⟩ := List.mem_map.1 hm
    unfold putT at hq
    obtain ⟨k, hk, rfl⟩ := List.mem_map.1 hq
    have hne : k.id ≠ a.id := fun e => h1.1 (by rw [← e]; exact List.mem_map_of_mem hk)
    have hnn : k.name ≠ a.name := fun e => hn.1 (by rw [← e]; exact List.mem_map_of_mem hk)
    by_cases ha : a.id = id
    · rw [if_pos ha] at he
      have hki : k.id ≠ id := by omega
      rw [if_neg hki] at he
      exact hki (hx k (List.mem_cons_of_mem _ hk) he)
    · rw [if_neg ha] at he
      by_cases hki : k.id = id
      · rw [if_pos hki] at he
        exact ha (hx a (by simp) he.symm)
      · rw [if_neg hki] at he
        exact hnn he
theorem waits_mono {l m : List Nd} (h : ∀ n ∈ l, n ∈ m) {a b : Nat} (hc : Comes (Waits l) a b) : Comes (Waits m) a b := by
  refine hc.mono fun a b h' => .one ?_
  obtain ⟨d, h1, h2⟩ := h'
  exact ⟨d, h _ h1, h2⟩
theorem mayN_filter {L : List Jb} {id : Nat} (h : mayN (ndsOf L) = 0) (hid : ¬ ∃ k ∈ L, id ∈ k.deps) : mayN (ndsOf (L.filter fun k => decide (k.id ≠ id))) = 0 := by
  rw [mayN_zero] at h ⊢
  obtain ⟨h1, h2, h3, h4⟩ := h
  have hm : ∀ n ∈ ndsOf (L.filter fun k => decide (k.id ≠ id)), n ∈ ndsOf L := fun n hn => by
    obtain ⟨k, hk, rfl⟩ := List.mem_map.1 hn
    exact List.mem_map_of_mem (List.mem_filter.1 hk).1
  have hs : (ndsOf (L.filter fun k => decide (k.id ≠ id))).Sublist (ndsOf L) := List.Sublist.map _ List.filter_sublist
  refine ⟨?_, ?_, ?_, ?_⟩
  · rintro (h | ⟨n, hn, h⟩)
    · exact h1 (.inl (by have := hs.length_le; omega))
    · exact h1 (.inr ⟨n, hm n hn, h⟩)
  · rintro (h | ⟨n, hn, h⟩)
    · exact h2 (.inl fun hd => h (hd.sublist (hs.map _)))
    · exact h2 (.inr ⟨n, hm n hn, h⟩)
  · rintro ⟨n, hn, d, hd, h⟩
    refine h3 ⟨n, hm n hn, d, hd, fun hd' => h ?_⟩
    obtain ⟨q, hq, e⟩ := List.mem_map.1 hd'
    obtain ⟨k, hk, rfl⟩ := List.mem_map.1 hq
    obtain ⟨k', hk', rfl⟩ := List.mem_map.1 (hm n hn)
    have : k.id ≠ id := fun e2 => hid ⟨k', hk', by rw [← e2]; simp only [ndOf] at e; rw [e]; exact hd⟩
    exact List.mem_map.2 ⟨ndOf k, List.mem_map_of_mem (List.mem_filter.2 ⟨hk, by simpa using this⟩), e⟩
  · rintro ⟨a, ha, hc⟩
    obtain ⟨n, hn, e⟩ := List.mem_map.1 ha
    exact h4 ⟨a, List.mem_map.2 ⟨n, hm n hn, e⟩, waits_mono hm hc⟩
theorem add_ok {T : Tb} {n : Nat} (h : TbOk T n) (j : Jb) : TbOk (addT T j).2.2 (n + 1) := by
  have up : TbOk T (n + 1) := ⟨h.asc, h.pos, h.nam, h.may, h.len, h.row, by have := h.lst; omega, fun k hk => by have := h.ver k hk; omega⟩
  unfold addT
  by_cases h1 : mayJ j ≠ 0
  · rw [if_pos h1]; exact up
  rw [if_neg h1]
  by_cases h2 : (namedT T j.name).isSome = true
  · rw [if_pos h2]; exact up
  rw [if_neg h2]
  by_cases h3 : 32 ≤ T.L.length
  · rw [if_pos h3]; exact up
  rw [if_neg h3]
  by_cases h4 : mayN (ndsOf (T.L ++ [newJ T j])) ≠ 0
  · rw [if_pos h4]; exact up
  rw [if_neg h4]
  have hn : namedT T j.name = none := by simpa using h2
  have hl := h.lst
  refine ⟨?_, ?_, ?_, ?_, ?_, ?_, ?_, ?_⟩
  · rw [List.pairwise_append]
    refine ⟨h.asc, by simp, fun a ha b hb => ?_⟩
    rw [List.mem_singleton.1 hb]
    have := (h.pos a ha).2
    simp only
    omega
  · intro k hk
    rcases List.mem_append.1 hk with hk | hk
    · have := h.pos k hk; simp only; omega
    · rw [List.mem_singleton.1 hk]; simp
  · simp only [List.map_append, List.map_cons, List.map_nil]
    rw [List.nodup_append]
    refine ⟨h.nam, by simp, fun a ha b hb => ?_⟩
    rw [List.mem_singleton.1 hb]
    obtain ⟨k, hk, rfl⟩ := List.mem_map.1 ha
    exact named_none hn k hk
  · intro k hk
    rcases List.mem_append.1 hk with hk | hk
    · exact h.may k hk
    · rw [List.mem_singleton.1 hk]
      have : mayJ (newJ T j) = mayJ j := rfl
      rw [this]
      simpa using h1
  · simp only [List.length_append, List.length_singleton]; omega
  · simpa using h4
  · simp only; omega
  · intro k hk
    rcases List.mem_append.1 hk with hk | hk
    · have := h.ver k hk; omega
    · rw [List.mem_singleton.1 hk]; simp
theorem put_ok {T : Tb} {n id : Nat} (h : TbOk T n) {x : Jb} (hx : x.id = id) (hi : ∃ k ∈ T.L, k.id = id) (hm : mayJ x = 0) (hn : ∀ k ∈ T.L, k.name = x.name → k.id = id) (hr : mayN (ndsOf (putT T.L id x)) = 0) (hv : x.ver ≤ n + 1) : TbOk ⟨putT T.L id x, T.last⟩ (n + 1) := by
  refine ⟨put_asc hx h.asc, ?_, put_nam h.asc h.nam hn, ?_, ?_, hr, ?_, ?_⟩
  · intro k hk
    rcases put_mem hk with rfl | ⟨hk, _⟩
    · obtain ⟨q, hq, e⟩ := hi
      have := h.pos q hq
      simp only
      omega
    · exact h.pos k hk
  · intro k hk
    rcases put_mem hk with rfl | ⟨hk, _⟩
    · exact hm
    · exact h.may k hk
  · simp only [put_len]; exact h.len
  · have := h.lst; simp only; omega
  · intro k hk
    rcases put_mem hk with rfl | ⟨hk, _⟩
    · exact hv
    · have := h.ver k hk; omega
theorem TbOk.up {T : Tb} {n : Nat} (h : TbOk T n) : TbOk T (n + 1) := ⟨h.asc, h.pos, h.nam, h.may, h.len, h.row, by have := h.lst; omega, fun k hk => by have := h.ver k hk; omega⟩
theorem change_ok {T : Tb} {n : Nat} (h : TbOk T n) (id : Nat) (j : Jb) : TbOk (changeT T id j).2 (n + 1) := by
  unfold changeT
  cases hf : foundT T id with
  | none => exact h.up
  | some w =>
    obtain ⟨hw, hwi⟩ := found_some hf
    dsimp only
    by_cases h1 : mayJ j ≠ 0
    · rw [if_pos h1]; exact h.up
    rw [if_neg h1]
    by_cases h2 : (match namedT T j.name with | some x => decide (x.id ≠ id) | none => false) = true
    · rw [if_pos h2]; exact h.up
    rw [if_neg h2]
    by_cases h3 : mayN (ndsOf (putT T.L id (chgJ w j))) ≠ 0
    · rw [if_pos h3]; exact h.up
    rw [if_neg h3]
    refine put_ok h hwi ⟨w, hw, hwi⟩ ?_ ?_ (by simpa using h3) (by have := h.ver w hw; simp only; omega)
    · have h0 : mayJ j = 0 := by simpa using h1
      have h0' := h.may w hw
      unfold mayJ at h0 h0' ⊢
      have hb : ∀ q : Jb, badJ q = (decide (q.pol < 1) || decide (3 < q.pol) || decide (q.gr < 0) || decide (604800 < q.gr) || decide (q.lim < 1) || decide (8 < q.lim) || decide (q.ret < 0) || decide (5 < q.ret) || decide (q.tim < 1) || decide (86400 < q.tim) || decide (q.seen < -1) || decide (13569465600 ≤ q.seen)) := fun q => rfl
      have s1 : badJ w = false := by
        by_cases hq : badJ w = true
        · rw [if_pos hq] at h0'
          repeat first | split at h0' | omega
        · simpa using hq
      have s2 : badJ j = false := by
        by_cases hq : badJ j = true
        · rw [if_pos hq] at h0
          repeat first | split at h0 | omega
        · simpa using hq
      have s3 : badJ (chgJ w j) = false := by
        rw [hb] at s1 s2 ⊢
        simp at s1 s2 ⊢
        omega
      rw [s3]
      rw [s2] at h0
      exact h0
    · intro k hk e
      cases hnm : namedT T j.name with
      | none => exact absurd e (named_none hnm k hk)
      | some x =>
        rw [hnm] at h2
        obtain ⟨hx, hxn⟩ := named_some hnm
        have hxi : x.id = id := by simpa using h2
        have : k = x := by
          have hnd := h.nam
          have inj : ∀ (L : List Jb), (L.map fun j => j.name).Nodup → ∀ x ∈ L, ∀ y ∈ L, x.name = y.name → x = y := by
            intro L
            induction L with
            | nil => intro _ x hx; cases hx
            | cons a L ih =>
              intro hn x hx y hy e
              rw [List.map_cons, List.nodup_cons] at hn
              rcases List.mem_cons.1 hx with h1 | h1
              · rcases List.mem_cons.1 hy with h2 | h2
                · rw [h1, h2]
                · exact absurd (by rw [← h1, e]; exact List.mem_map_of_mem h2) hn.1
              · rcases List.mem_cons.1 hy with h2 | h2
                · exact absurd (by rw [← h2, ← e]; exact List.mem_map_of_mem h1) hn.1
                · exact ih hn.2 x h1 y h2 e
          exact inj _ hnd k hk x hx (by rw [hxn]; exact e)
        rw [this]; exact hxi
theorem remove_ok {T : Tb} {n : Nat} (h : TbOk T n) (id : Nat) : TbOk (removeT T id).2 (n + 1) := by
  unfold removeT
  cases hf : foundT T id with
  | none => exact h.up
  | some w =>
    dsimp only
    by_cases h1 : ∃ k ∈ T.L, id ∈ k.deps
    · rw [if_pos h1]; exact h.up
    rw [if_neg h1]
    have hs : (T.L.filter fun k => decide (k.id ≠ id)).Sublist T.L := List.filter_sublist
    exact ⟨h.asc.sublist hs, fun j hj => h.pos j (hs.subset hj), h.nam.sublist (hs.map _), fun j hj => h.may j (hs.subset hj), by have := hs.length_le; have := h.len; simp only; omega, mayN_filter h.row h1, by have := h.lst; simp only; omega, fun j hj => by have := h.ver j (hs.subset hj); omega⟩
theorem may_seen {w x : Jb} (hw : mayJ w = 0) (e1 : x.name = w.name) (e2 : x.ex = w.ex) (e3 : x.pol = w.pol) (e4 : x.gr = w.gr) (e5 : x.lim = w.lim) (e6 : x.ret = w.ret) (e7 : x.tim = w.tim) (e8 : x.deps = w.deps) (hs : -1 ≤ x.seen ∧ x.seen < 13569465600) : mayJ x = 0 := by
  unfold mayJ at hw ⊢
  rw [e1, e2, e8]
  have hb : ∀ q : Jb, badJ q = (decide (q.pol < 1) || decide (3 < q.pol) || decide (q.gr < 0) || decide (604800 < q.gr) || decide (q.lim < 1) || decide (8 < q.lim) || decide (q.ret < 0) || decide (5 < q.ret) || decide (q.tim < 1) || decide (86400 < q.tim) || decide (q.seen < -1) || decide (13569465600 ≤ q.seen)) := fun q => rfl
  have s1 : badJ w = false := by
    by_cases hq : badJ w = true
    · rw [if_pos hq] at hw
      repeat first | split at hw | omega
    · simpa using hq
  have s3 : badJ x = false := by
    rw [hb] at s1 ⊢
    rw [e3, e4, e5, e6, e7]
    simp at s1 ⊢
    omega
  rw [s3]
  rw [s1] at hw
  exact hw
theorem may_seenB {w : Jb} (hw : mayJ w = 0) : -1 ≤ w.seen ∧ w.seen < 13569465600 := by
  unfold mayJ at hw
  have hb : badJ w = (decide (w.pol < 1) || decide (3 < w.pol) || decide (w.gr < 0) || decide (604800 < w.gr) || decide (w.lim < 1) || decide (8 < w.lim) || decide (w.ret < 0) || decide (5 < w.ret) || decide (w.tim < 1) || decide (86400 < w.tim) || decide (w.seen < -1) || decide (13569465600 ≤ w.seen)) := rfl
  have s1 : badJ w = false := by
    by_cases hq : badJ w = true
    · rw [if_pos hq] at hw
      repeat first | split at hw | omega
    · simpa using hq
  rw [hb] at s1
  simp at s1
  omega
theorem seen_ok {T : Tb} {n id : Nat} (h : TbOk T n) {w x : Jb} (hf : foundT T id = some w) (hx : ∃ p s, x = { w with pau := p, seen := s } ∧ -1 ≤ s ∧ s < 13569465600) : TbOk ⟨putT T.L id x, T.last⟩ (n + 1) := by
  obtain ⟨hw, hwi⟩ := found_some hf
  obtain ⟨p, s, rfl, hs⟩ := hx
  refine put_ok h hwi ⟨w, hw, hwi⟩ (may_seen (h.may w hw) rfl rfl rfl rfl rfl rfl rfl rfl hs) ?_ ?_ (by have := h.ver w hw; simp only; omega)
  · intro k hk e
    have inj : ∀ (L : List Jb), (L.map fun j => j.name).Nodup → ∀ x ∈ L, ∀ y ∈ L, x.name = y.name → x = y := by
      intro L
      induction L with
      | nil => intro _ x hx; cases hx
      | cons a L ih =>
        intro hn x hx y hy e
        rw [List.map_cons, List.nodup_cons] at hn
        rcases List.mem_cons.1 hx with h1 | h1
        · rcases List.mem_cons.1 hy with h2 | h2
          · rw [h1, h2]
          · exact absurd (by rw [← h1, e]; exact List.mem_map_of_mem h2) hn.1
        · rcases List.mem_cons.1 hy with h2 | h2
          · exact absurd (by rw [← h2, ← e]; exact List.mem_map_of_mem h1) hn.1
          · exact ih hn.2 x h1 y h2 e
    rw [inj _ h.nam k hk w hw e]
    exact hwi
  · rw [put_nds (w := w) fun k hk e => ?_]
    · exact h.row
    · rw [id_inj h.asc hk hw (by rw [e, hwi])]
theorem pause_ok {T : Tb} {n : Nat} (h : TbOk T n) (id : Nat) (p : Bool) (s : Int) : TbOk (pauseT T id p s).2 (n + 1) := by
  unfold pauseT
  cases hf : foundT T id with
  | none => exact h.up
  | some w =>
    dsimp only
    by_cases h1 : badT s
    · rw [if_pos h1]; exact h.up
    rw [if_neg h1]
    have hw := may_seenB (h.may w (found_some hf).1)
    unfold badT at h1
    exact seen_ok h hf ⟨p, _, rfl, by split <;> omega, by split <;> omega⟩
theorem see_ok {T : Tb} {n : Nat} (h : TbOk T n) (id : Nat) (s : Int) : TbOk (seeT T id s).2 (n + 1) := by
  unfold seeT
  cases hf : foundT T id with
  | none => exact h.up
  | some w =>
    dsimp only
    by_cases h1 : badT s
    · rw [if_pos h1]; exact h.up
    rw [if_neg h1]
    have hw := may_seenB (h.may w (found_some hf).1)
    unfold badT at h1
    exact seen_ok h hf ⟨w.pau, _, rfl, by omega, by omega⟩
end Go.Proofs.YtlhgpodfhdddkaaGreatDoor
namespace Rg
open Go Go.RowKit
variable {P : Program} {n : Nat} {Q : Post} {ρ : Nat → AV} {k : List AItem} {H H0 : Heap}
def pathB (full : Array Oper) : List Nat → Array Bool → Bool
  | [], _ => true
  | i :: r, l => (Region.ready .any full l).contains i && decide (i < full.size) && pathB full r (l.setIfInBounds i true)
theorem path_inv {full : Array Oper} : ∀ (d : List Nat) (l : Array Bool), pathB full d l = true → HeadInv .any full full.size l → HeadInv .any full full.size (d.foldl (fun a i => a.setIfInBounds i true) l)
  | [], l, _, h => h
  | i :: r, l, hp, h => by
    simp only [pathB, Bool.and_eq_true, decide_eq_true_eq] at hp
    obtain ⟨⟨h1, h2⟩, h3⟩ := hp
    exact path_inv r _ h3 (h.set (by simpa using h1) h2)
def pureB (full : Array Oper) (d : List Nat) (i : Nat) : Bool :=
  pathB full d (Array.replicate full.size false) && (Region.ready .any full (markL full.size d)).contains i && Region.free .any full (markL full.size d) i && decide (i < full.size) && decide (d.length < full.size)
theorem AWK.pure {l0 : List Oper} {J : (Nat → AV) → Heap → Prop} {d : List Nat} (i : Nat) (hb : pureB l0.toArray d i = true) (h : AQ3 P n H0 l0.toArray (fun r => AWK P n H0 J l0.toArray (d ++ [i]) r H) ((l0[i]?).toList) ρ) : AWK P n H0 J l0.toArray d ρ H := by
  simp only [pureB, Bool.and_eq_true, decide_eq_true_eq] at hb
  obtain ⟨⟨⟨⟨h1, h2⟩, h3⟩, h4⟩, h5⟩ := hb
  have inv0 : HeadInv .any l0.toArray l0.toArray.size (Array.replicate l0.toArray.size false) :=
    ⟨by simp, fun j oj _ hl => (by rw [getD_replicate_false] at hl; cases hl), fun t _ ht => getD_in (by simpa using ht) (getD_replicate_false _ _)⟩
  have inv := path_inv d _ h1 inv0
  have hi : l0[i]? = some (l0[i]'(by simpa using h4)) := List.getElem?_eq_getElem (by simpa using h4)
  rw [hi] at h
  obtain ⟨v, hy, hK⟩ := h
  have hoi : l0.toArray[i]? = some (l0[i]'(by simpa using h4)) := by rw [List.getElem?_toArray, hi]
  unfold AWK
  rw [show l0.toArray.size - d.length = (l0.toArray.size - (d.length + 1)) + 1 by omega]
  refine wAny_first hoi (waits_all l0.toArray) h4 (fun listed' r H' hL j hj => by rw [hL.1] at hj; cases hj) _ (markL l0.toArray.size d) ρ H inv (Region.free_spec hoi h3) (by simpa using h2) hy ?_
  have hK' : AWK P n H0 J l0.toArray (d ++ [i]) (aput n (l0[i]'(by simpa using h4)).dst v ρ) H := hK
  unfold AWK at hK'
  rw [markL_snoc, List.length_append, List.length_singleton] at hK'
  exact hK'
section
variable {full : Array Oper} {K : (Nat → AV) → Prop} {l : List Oper} {dst : Option Tmp}
end
end Rg
namespace Go.Proofs.YtlhgpodfhdddkaaGreatDoor
open Rg Go Go.RowKit
variable {H : Heap}
abbrev ltN (x y : Nat) : Bool := decide (x < y)
abbrev uAV (n : Nat) : AV := .sc (.int .u64 (n : Int))
theorem c_nan (x : Nat) : AOk Tryz.prog 114 [uAV x] H (.sc (.bool false)) H := by
  refine ACalls.into Tryz.func114 rfl Tryz.ntmps114 Tryz.results114 (by simp) ?_
  simp -implicitDefEqProofs
theorem c_less (x y : Nat) : AOk Tryz.prog 94 [uAV x, uAV y] H (.sc (.bool (ltN x y))) H := by
  refine ACalls.into Tryz.func94 rfl Tryz.ntmps94 Tryz.results94 (by simp) ?_
  simp -implicitDefEqProofs
  refine ACall.eq (c_nan x) ?_
  simp -implicitDefEqProofs
def rowC (T : TypeId) (d : Array Nat) (rest : List AV) : AObj := .cells (d.toList.map uAV ++ rest) T
theorem rd_row {T : TypeId} {d : Array Nat} {rest : List AV} : rd (some (rowC T d rest)) = some (d.toList.map uAV ++ rest) := rfl
theorem st_row {T : TypeId} {d : Array Nat} {rest : List AV} : rowC T d rest = .cells (d.toList.map uAV ++ rest) T := rfl
abbrev slV (b n cap : Nat) : AV := .sc (.slice (some ⟨b, 0, none⟩) n cap)
theorem swp_size (d : Array Nat) (i j : Nat) : (Go.Sort.swp d i j).size = d.size := by simp [Go.Sort.swp]
theorem set_same {b : Nat} {o : AObj} (h : H b = some o) : H.set b o = H := by
  funext c
  simp only [Heap.set]
  split
  · rename_i hc; rw [hc, h]
  · rfl
theorem row_get {d : Array Nat} {rest : List AV} {i : Nat} (h : i < d.size) : (d.toList.map uAV ++ rest)[i]? = some (uAV d[i]!) := by
  rw [List.getElem?_append_left (by simpa using h), List.getElem?_map, Array.getElem?_toList, getElem!_pos d i h, Array.getElem?_eq_getElem h]
  rfl
theorem row_set {d : Array Nat} {rest : List AV} {i x : Nat} (h : i < d.size) : (d.toList.map uAV ++ rest).set i (uAV x) = (d.setIfInBounds i x).toList.map uAV ++ rest := by
  rw [List.set_append_left _ _ (by simpa using h), Array.toList_setIfInBounds, List.map_set]
theorem swap_cells {e : Array Nat} {rest : List AV} {i j x y : Nat} (hi : i < e.size) (hj : j < e.size) (hx : e[i]! = x) (hy : e[j]! = y) :
    ((e.toList.map uAV).set i (uAV y) ++ rest).set j (uAV x) = (Go.Sort.swp e i j).toList.map uAV ++ rest := by
  have h1 : (e.toList.map uAV).set i (uAV y) = (e.setIfInBounds i y).toList.map uAV := by rw [Array.toList_setIfInBounds, List.map_set]
  rw [h1, row_set (by simpa using hj), Go.Sort.swp, hx, hy]
theorem insInner_size {lt : Nat → Nat → Bool} {a : Nat} : ∀ (j : Nat) (d : Array Nat), (Go.Sort.insInner lt a j d).size = d.size
  | 0, d => rfl
  | j + 1, d => by
    rw [Go.Sort.insInner]
    split
    · rw [insInner_size j]; simp [Go.Sort.swp]
    · rfl
theorem c_ins {b n cap : Nat} {T : TypeId} {rest : List AV} {d : Array Nat} (hn : d.size = n) (i j : Nat) (hi : i ≤ j) (hj : j ≤ n) (hl : n ≤ 1000000) (h : H b = some (rowC T d rest)) :
    AOk Tryz.prog 88 [slV b n cap, .sc (.int .i64 (i : Int)), .sc (.int .i64 (j : Int))] H (.tup []) (H.set b (rowC T (Go.Sort.insertionSort ltN d i j) rest)) := by
  refine ACalls.into Tryz.func88 rfl Tryz.ntmps88 Tryz.results88 (by simp) ?_
  have w1 : IntKind.i64.wrap ((i : Int) + 1) = (i : Int) + 1 := wrap_i64 (by omega) (by omega)
  simp -implicitDefEqProofs [w1]
  unfold Go.Sort.insertionSort
  obtain ⟨F, hF⟩ : ∃ F, Go.Sort.insOuter ltN i j (i + 1) d = F := ⟨_, rfl⟩
  rw [hF]
  generalize hR : ROk _ _ = R
  refine AGo.rounds (fun m ρ K => ∃ (k : Nat) (d' : Array Nat), m = j + 1 - k ∧ i < k ∧ d'.size = n ∧ Go.Sort.insOuter ltN i j k d' = F ∧ ρ 0 = slV b n cap ∧ ρ 1 = .sc (.int .i64 (i : Int)) ∧ ρ 2 = .sc (.int .i64 (j : Int)) ∧ ρ 6 = .sc (.int .i64 (k : Int)) ∧ K = H.set b (rowC T d' rest)) ?_ (m := j + 1 - (i + 1)) (HLe.refl H)
    ⟨i + 1, d, rfl, by omega, hn, hF, by simp, by simp, by simp, by simp, (set_same h).symm⟩
  rintro m ρ K ih ⟨k, d', rfl, hik, hdn, hF', r0, r1, r2, r6, rfl⟩
  by_cases hkj : k < j
  · have hkj' : (k : Int) < (j : Int) := by omega
    rw [Go.Sort.insOuter, if_pos hkj] at hF'
    simp -implicitDefEqProofs [r0, r1, r2, r6, hkj']
    obtain ⟨D, hD⟩ : ∃ D, Go.Sort.insInner ltN i k d' = D := ⟨_, rfl⟩
    have hDn : D.size = n := by rw [← hD, insInner_size, hdn]
    rw [hD] at hF'
    refine AGo.rounds (fun m ρ K => ∃ (q : Nat) (e : Array Nat), m = q ∧ q ≤ k ∧ e.size = n ∧ Go.Sort.insInner ltN i q e = D ∧ ρ 0 = slV b n cap ∧ ρ 1 = .sc (.int .i64 (i : Int)) ∧ ρ 2 = .sc (.int .i64 (j : Int)) ∧ ρ 6 = .sc (.int .i64 (k : Int)) ∧ ρ 7 = .sc (.int .i64 (q : Int)) ∧ K = H.set b (rowC T e rest)) ?_ (m := k) (HLe.refl _)
      ⟨k, d', rfl, Nat.le_refl _, hdn, hD, by simp [r0], by simp [r1], by simp [r2], by simp [r6], by simp, rfl⟩
    clear r0 r1 r2 r6 hdn hD
    rintro m ρ2 K2 ih2 ⟨q, e, rfl, hq, hen, hD, r0, r1, r2, r6, r7, rfl⟩
    have w2 : IntKind.i64.wrap ((k : Int) + 1) = (k : Int) + 1 := wrap_i64 (by omega) (by omega)
    have done : ∀ (ρ3 : Nat → AV), e = D → ρ3 0 = slV b n cap → ρ3 1 = .sc (.int .i64 (i : Int)) → ρ3 2 = .sc (.int .i64 (j : Int)) → ρ3 6 = .sc (.int .i64 ((k : Int) + 1)) → ∃ (k2 : Nat) (d2 : Array Nat), j + 1 - (k + 1) = j + 1 - k2 ∧ i < k2 ∧ d2.size = n ∧ Go.Sort.insOuter ltN i j k2 d2 = F ∧ ρ3 0 = slV b n cap ∧ ρ3 1 = .sc (.int .i64 (i : Int)) ∧ ρ3 2 = .sc (.int .i64 (j : Int)) ∧ ρ3 6 = .sc (.int .i64 (k2 : Int)) ∧ H.set b (rowC T e rest) = H.set b (rowC T d2 rest) :=
      fun ρ3 he a0 a1 a2 a6 => ⟨k + 1, e, rfl, by omega, hen, by rw [he]; exact hF', a0, a1, a2, a6, rfl⟩
    cases m with
    | zero =>
      have hlt : ¬ (i : Int) < 0 := by omega
      rw [Go.Sort.insInner] at hD
      simp -implicitDefEqProofs [r0, r1, r2, r6, r7]
      refine go_draw 15 f_mixed (by decide +kernel) ?_
      simp -implicitDefEqProofs [r0, r1, r2, r6, r7, hlt, w2]
      exact AGo.again ih (m' := j + 1 - (k + 1)) (by omega) (HLe.refl _) (done _ hD (by simp [r0]) (by simp [r1]) (by simp [r2]) (by simp))
    | succ q =>
      rw [Go.Sort.insInner] at hD
      have w3 : IntKind.i64.wrap (q : Int) = (q : Int) := wrap_i64 (by omega) (by omega)
      have tq : ((q : Int) + 1).toNat = q + 1 := by omega
      have nq : ¬ (q : Int) + 1 < 0 := by omega
      have q1 : q + 1 < e.size := by omega
      have q0 : q < e.size := by omega
      have n1 : q + 1 < n := by omega
      have n0 : q < n := by omega
      have g1 := row_get (rest := rest) q1
      have g0 := row_get (rest := rest) q0
      obtain ⟨x1, hx1⟩ : ∃ x, e[q + 1]! = x := ⟨_, rfl⟩
      obtain ⟨x0, hx0⟩ : ∃ x, e[q]! = x := ⟨_, rfl⟩
      rw [hx1] at g1
      rw [hx0] at g0
      rw [hx1, hx0] at hD
      simp -implicitDefEqProofs [r0, r1, r2, r6, r7]
      refine go_draw 15 f_mixed (by decide +kernel) ?_
      by_cases hiq : i < q + 1
      · have hiq' : (i : Int) < (q : Int) + 1 := by omega
        simp -implicitDefEqProofs [r0, r1, r2, r6, r7, hiq', w3, tq, nq, rd_row, g1, g0, n1, n0]
        refine AQS.eq (c_less _ _) ?_
        by_cases hlt : x1 < x0
        · have hb : ltN x1 x0 = true := by simpa using hlt
          rw [if_pos (by rw [hb]; simp; omega)] at hD
          simp -implicitDefEqProofs [hb]
          refine go_draw3 [0, 1, 2, 3, 4, 5, 6, 7, 8, 10, 11, 12] (fun _ => none) f_mixed (by decide +kernel) HC.nothing ?_
          simp -implicitDefEqProofs
          repeat (refine aq3_op ?_; simp -implicitDefEqProofs [r0, r1, r2, r6, r7, w3, tq, nq, n1, n0])
          obtain ⟨e', he'⟩ : ∃ e', Go.Sort.swp e (q + 1) q = e' := ⟨_, rfl⟩
          have hen' : e'.size = n := by rw [← he', swp_size]; exact hen
          rw [he'] at hD
          have rs1 : (e.toList.map uAV ++ rest).set (q + 1) (uAV x0) = (e.setIfInBounds (q + 1) x0).toList.map uAV ++ rest := row_set q1
          have rs2 : ((e.toList.map uAV).set (q + 1) (uAV x0) ++ rest).set q (uAV x1) = e'.toList.map uAV ++ rest := by rw [← he']; exact swap_cells q1 q0 hx1 hx0
          have q1' : q + 1 + 1 ≤ e.size + rest.length := by omega
          have q0' : q + 1 ≤ e.size + rest.length := by omega
          refine AWK.two 9 13 (by decide +kernel) ?_ ?_
          · refine AWE.op rfl ?_
            simp -implicitDefEqProofs [rd_row, g1, g0]
            refine AWK.one 13 (by decide +kernel) ?_
            refine AWE.op rfl ?_
            simp -implicitDefEqProofs [rd_row, g1, g0]
            refine AWK.one 14 (by decide +kernel) ?_
            refine AWE.op rfl ?_
            simp -implicitDefEqProofs [r0, r1, r2, r6, r7, w3, tq, nq, n1, n0]
            refine AWK.one 15 (by decide +kernel) ?_
            refine AWE.op rfl ?_
            simp -implicitDefEqProofs [st_row, q1']
            refine AWS.store (by simp [Heap.set]; exact ⟨rfl, rfl⟩) HC.nothing ?_
            simp only [lset]
            rw [rs1]
            refine AWK.one 16 (by decide +kernel) ?_
            refine AWE.op rfl ?_
            simp -implicitDefEqProofs [r0, r1, r2, r6, r7, w3, tq, nq, n1, n0]
            refine AWK.one 17 (by decide +kernel) ?_
            refine AWE.op rfl ?_
            simp -implicitDefEqProofs [st_row, q0']
            refine AWS.store (by simp [Heap.set]; exact ⟨rfl, rfl⟩) HC.nothing ?_
            simp only [lset]
            rw [rs2]
            refine AWK.fin (by decide +kernel) ?_
            simp -implicitDefEqProofs [r7, w3]
            exact AGo.again ih2 (m' := q) (by omega) (HLe.refl _) ⟨q, e', rfl, by omega, hen', hD, by simp [r0], by simp [r1], by simp [r2], by simp [r6], by simp, rfl⟩
          · refine AWE.op rfl ?_
            simp -implicitDefEqProofs [rd_row, g1, g0]
            refine AWK.one 9 (by decide +kernel) ?_
            refine AWE.op rfl ?_
            simp -implicitDefEqProofs [rd_row, g1, g0]
            refine AWK.one 14 (by decide +kernel) ?_
            refine AWE.op rfl ?_
            simp -implicitDefEqProofs [r0, r1, r2, r6, r7, w3, tq, nq, n1, n0]
            refine AWK.one 15 (by decide +kernel) ?_
            refine AWE.op rfl ?_
            simp -implicitDefEqProofs [st_row, q1']
            refine AWS.store (by simp [Heap.set]; exact ⟨rfl, rfl⟩) HC.nothing ?_
            simp only [lset]
            rw [rs1]
            refine AWK.one 16 (by decide +kernel) ?_
            refine AWE.op rfl ?_
            simp -implicitDefEqProofs [r0, r1, r2, r6, r7, w3, tq, nq, n1, n0]
            refine AWK.one 17 (by decide +kernel) ?_
            refine AWE.op rfl ?_
            simp -implicitDefEqProofs [st_row, q0']
            refine AWS.store (by simp [Heap.set]; exact ⟨rfl, rfl⟩) HC.nothing ?_
            simp only [lset]
            rw [rs2]
            refine AWK.fin (by decide +kernel) ?_
            simp -implicitDefEqProofs [r7, w3]
            exact AGo.again ih2 (m' := q) (by omega) (HLe.refl _) ⟨q, e', rfl, by omega, hen', hD, by simp [r0], by simp [r1], by simp [r2], by simp [r6], by simp, rfl⟩
        · have hb : ltN x1 x0 = false := by simpa using hlt
          rw [if_neg (by rw [hb]; simp)] at hD
          simp -implicitDefEqProofs [r0, r1, r2, r6, r7, hb, w2]
          exact AGo.again ih (m' := j + 1 - (k + 1)) (by omega) (HLe.refl _) (done _ hD (by simp [r0]) (by simp [r1]) (by simp [r2]) (by simp))
      · have hiq' : ¬ (i : Int) < (q : Int) + 1 := by omega
        rw [if_neg (by simp; omega)] at hD
        simp -implicitDefEqProofs [r0, r1, r2, r6, r7, hiq', w2]
        exact AGo.again ih (m' := j + 1 - (k + 1)) (by omega) (HLe.refl _) (done _ hD (by simp [r0]) (by simp [r1]) (by simp [r2]) (by simp))
  · have hkj' : ¬ (k : Int) < (j : Int) := by omega
    rw [Go.Sort.insOuter, if_neg hkj] at hF'
    subst hF'
    simp -implicitDefEqProofs [r0, r1, r2, r6, hkj']
    subst hR
    exact AFin.intro _ _ (wk_refl _) (HWk.refl _) ⟨rfl, rfl⟩
end Go.Proofs.YtlhgpodfhdddkaaGreatDoor
namespace Go.Proofs.YtlhgpodfhdddkaaGreatDoor
open Rg Go Go.RowKit
variable {H : Heap}
theorem swap_cells2 {e : Array Nat} {rest : List AV} {i j x y : Nat} (hi : i < e.size) (hj : j < e.size) (hx : e[i]! = x) (hy : e[j]! = y) :
    ((e.toList.map uAV ++ rest).set i (uAV y)).set j (uAV x) = (Go.Sort.swp e i j).toList.map uAV ++ rest := by
  rw [row_set hi, row_set (by simpa using hj), Go.Sort.swp, hx, hy]
theorem atRho {P : Program} {n : Nat} {Q : Post} {ρ : Nat → AV} {k : List AItem} {K : Heap} (h : ∀ ρ1, ρ1 = ρ → AGo P n Q k ρ1 K) : AGo P n Q k ρ K := h ρ rfl
theorem siftDown_size {lt : Nat → Nat → Bool} {hi first : Nat} : ∀ (m r : Nat) (d : Array Nat), hi - r ≤ m → (Go.Sort.siftDown lt hi first r d).size = d.size := by
  intro m
  induction m with
  | zero =>
    intro r d h
    rw [Go.Sort.siftDown, dif_pos (by omega)]
  | succ m ih =>
    intro r d h
    rw [Go.Sort.siftDown]
    split
    · rfl
    · split
      · split
        · rfl
        · split
          · rw [ih _ _ (by omega), swp_size]
          · rfl
      · split
        · rfl
        · rw [ih _ _ (by omega), swp_size]
set_option maxHeartbeats 4000000 in
theorem c_sift {b n cap : Nat} {T : TypeId} {rest : List AV} {d : Array Nat} (hn : d.size = n) (lo hi first : Nat) (hf : first + hi ≤ n) (hlo : lo ≤ n) (hl : n ≤ 1000000) (h : H b = some (rowC T d rest)) :
    AOk Tryz.prog 109 [slV b n cap, .sc (.int .i64 (lo : Int)), .sc (.int .i64 (hi : Int)), .sc (.int .i64 (first : Int))] H (.tup []) (H.set b (rowC T (Go.Sort.siftDown ltN hi first lo d) rest)) := by
  refine ACalls.into Tryz.func109 rfl Tryz.ntmps109 Tryz.results109 (by simp) ?_
  simp -implicitDefEqProofs
  obtain ⟨F, hF⟩ : ∃ F, Go.Sort.siftDown ltN hi first lo d = F := ⟨_, rfl⟩
  rw [hF]
  generalize hR : ROk _ _ = R
  refine AGo.rounds (fun m ρ K => ∃ (r : Nat) (e : Array Nat), m = hi - r ∧ r ≤ n ∧ e.size = n ∧ Go.Sort.siftDown ltN hi first r e = F ∧ ρ 0 = slV b n cap ∧ ρ 2 = .sc (.int .i64 (hi : Int)) ∧ ρ 3 = .sc (.int .i64 (first : Int)) ∧ ρ 8 = .sc (.int .i64 (r : Int)) ∧ K = H.set b (rowC T e rest)) ?_ (m := hi - lo) (HLe.refl H)
    ⟨lo, d, rfl, hlo, hn, hF, by simp, by simp, by simp, by simp, (set_same h).symm⟩
  rintro m ρ K ih ⟨r, e, rfl, hr, hen, hF', r0, r2, r3, r8, rfl⟩
  obtain ⟨c, hc⟩ : ∃ c, 2 * r + 1 = c := ⟨_, rfl⟩
  have y1 : IntKind.i64.wrap (2 * (r : Int)) = 2 * (r : Int) := wrap_i64 (by omega) (by omega)
  have y2 : IntKind.i64.wrap (2 * (r : Int) + 1) = (c : Int) := by rw [wrap_i64 (by omega) (by omega)]; omega
  rw [Go.Sort.siftDown, hc] at hF'
  by_cases hch : c ≥ hi
  · have hch' : (hi : Int) ≤ (c : Int) := by omega
    rw [dif_pos hch] at hF'
    subst hF'
    simp -implicitDefEqProofs [r0, r2, r3, r8, y1, y2, hch']
    subst hR
    exact AFin.intro _ _ (wk_refl _) (HWk.refl _) ⟨rfl, rfl⟩
  have hch' : ¬ (hi : Int) ≤ (c : Int) := by omega
  rw [dif_neg hch] at hF'
  obtain ⟨c2, hc2⟩ : ∃ c2, c + 1 = c2 := ⟨_, rfl⟩
  obtain ⟨fc, hfc⟩ : ∃ x, first + c = x := ⟨_, rfl⟩
  obtain ⟨fr, hfr⟩ : ∃ x, first + r = x := ⟨_, rfl⟩
  have y3 : IntKind.i64.wrap ((c : Int) + 1) = (c2 : Int) := by rw [wrap_i64 (by omega) (by omega)]; omega
  have y4 : IntKind.i64.wrap ((first : Int) + (c : Int)) = (fc : Int) := by rw [wrap_i64 (by omega) (by omega)]; omega
  have y5 : IntKind.i64.wrap ((first : Int) + (r : Int)) = (fr : Int) := by rw [wrap_i64 (by omega) (by omega)]; omega
  have n0 : fr < n := by omega
  have n1 : fc < n := by omega
  have z0 : fr < e.size := by omega
  have z1 : fc < e.size := by omega
  have g0 := row_get (rest := rest) z0
  have g1 := row_get (rest := rest) z1
  obtain ⟨x0, hx0⟩ : ∃ x, e[fr]! = x := ⟨_, rfl⟩
  obtain ⟨x1, hx1⟩ : ∃ x, e[fc]! = x := ⟨_, rfl⟩
  rw [hx0] at g0
  rw [hx1] at g1
  have e2 : 2 * r + 2 = c2 := by omega
  rw [e2, hc2, hfc, hfr, show first + c2 = fc + 1 by omega, hx0, hx1] at hF'
  obtain ⟨fd, hfd⟩ : ∃ x, fc + 1 = x := ⟨_, rfl⟩
  have y6 : IntKind.i64.wrap ((fc : Int) + 1) = (fd : Int) := by rw [wrap_i64 (by omega) (by omega)]; omega
  have y7 : IntKind.i64.wrap ((first : Int) + (c2 : Int)) = (fd : Int) := by rw [wrap_i64 (by omega) (by omega)]; omega
  rw [hfd] at hF'
  simp -implicitDefEqProofs [r0, r2, r3, r8, y1, y2, hch']
  refine atRho fun ρ2 hρ => ?_
  have t0 : ρ2 0 = slV b n cap := by rw [hρ]; simp [r0]
  have t2 : ρ2 2 = .sc (.int .i64 (hi : Int)) := by rw [hρ]; simp [r2]
  have t3 : ρ2 3 = .sc (.int .i64 (first : Int)) := by rw [hρ]; simp [r3]
  have t8 : ρ2 8 = .sc (.int .i64 (r : Int)) := by rw [hρ]; simp [r8]
  have t9 : ρ2 9 = .sc (.int .i64 (c : Int)) := by rw [hρ]; simp
  clear hρ r0 r2 r3 r8
  first | refine go_draw 21 f_mixed (by decide +kernel) ?_ | refine go_draw 20 f_mixed (by decide +kernel) ?_ | refine go_draw 14 f_mixed (by decide +kernel) ?_
  by_cases h2 : c2 < hi
  · have h2' : (c2 : Int) < (hi : Int) := by omega
    have n2 : fd < n := by omega
    have z2 : fd < e.size := by omega
    have g2 := row_get (rest := rest) z2
    obtain ⟨x2, hx2⟩ : ∃ x, e[fd]! = x := ⟨_, rfl⟩
    rw [hx2] at g2 hF'
    simp -implicitDefEqProofs [t0, t2, t3, t8, y3, y4, y5, y6, y7, rd_row, g0, g1, n0, n1, t9, g2, n2, h2']
    refine AQS.eq (c_less _ _) ?_
    by_cases hlt : x1 < x2
    · have hb : ltN x1 x2 = true := by simpa using hlt
      rw [if_pos (by rw [hb]; simp [h2])] at hF'
      simp -implicitDefEqProofs [hb, t9, y3]
      first | refine go_draw 21 f_mixed (by decide +kernel) ?_ | refine go_draw 20 f_mixed (by decide +kernel) ?_ | refine go_draw 14 f_mixed (by decide +kernel) ?_
      simp -implicitDefEqProofs [t0, t2, t3, t8, y3, y4, y5, y6, y7, rd_row, g0, g1, n0, n1, g2, n2, ]
      refine AQS.eq (c_less _ _) ?_
      by_cases hlt2 : x0 < x2
      · have hb2 : ltN x0 x2 = true := by simpa using hlt2
        rw [hb2] at hF'
        simp only [Bool.not_true, Bool.false_eq_true, if_false] at hF'
        rw [dif_pos h2] at hF'
        simp -implicitDefEqProofs [hb2]
        refine atRho fun ρ2 hρ2 => ?_
        have u0 : ρ2 0 = slV b n cap := by rw [hρ2]; simp [t0, t2, t3, t8]
        have u2 : ρ2 2 = .sc (.int .i64 (hi : Int)) := by rw [hρ2]; simp [t0, t2, t3, t8]
        have u3 : ρ2 3 = .sc (.int .i64 (first : Int)) := by rw [hρ2]; simp [t0, t2, t3, t8]
        have u8 : ρ2 8 = .sc (.int .i64 (r : Int)) := by rw [hρ2]; simp [t0, t2, t3, t8]
        have u9 : ρ2 9 = .sc (.int .i64 (c2 : Int)) := by rw [hρ2]; simp [t0, t2, t3, t8]
        clear hρ2 t0 t2 t3 t8
        have rs2 : ((e.toList.map uAV).set fr (uAV x2) ++ rest).set fd (uAV x0) = (Go.Sort.swp e fr fd).toList.map uAV ++ rest := swap_cells z0 z2 hx0 hx2
        have rs3 : ((e.toList.map uAV ++ rest).set fr (uAV x2)).set fd (uAV x0) = (Go.Sort.swp e fr fd).toList.map uAV ++ rest := swap_cells2 z0 z2 hx0 hx2
        have cI : fr + 1 ≤ e.size + rest.length := by omega
        have cJ : fd + 1 ≤ e.size + rest.length := by omega
        refine go_draw3J (fun ρ' K' => ρ' 0 = ρ2 0 ∧ ρ' 2 = ρ2 2 ∧ ρ' 3 = ρ2 3 ∧ ρ' 8 = ρ2 8 ∧ ρ' 9 = ρ2 9 ∧ K' = H.set b (rowC T (Go.Sort.swp e fr fd) rest)) [0, 1, 2, 3, 4, 5, 6, 7, 8, 9, 10, 11, 12, 14, 15, 16, 17, 18] (fun _ => none) f_mixed (by decide +kernel) HC.nothing ?_ ?_
        · simp -implicitDefEqProofs
          repeat (refine aq3_op ?_; simp -implicitDefEqProofs [u0, u2, u3, u8, u9, y3, y4, y5, y6, y7, n0, n1, n2])
          refine AWK.two 13 19 (by decide +kernel) ?_ ?_
          · refine AWE.op rfl ?_
            simp -implicitDefEqProofs [rd_row, g0, g2]
            refine AWK.one 19 (by decide +kernel) ?_
            refine AWE.op rfl ?_
            simp -implicitDefEqProofs [rd_row, g0, g2]
            refine AWK.one 20 (by decide +kernel) ?_
            refine AWE.op rfl ?_
            simp -implicitDefEqProofs [u0, u2, u3, u8, u9, y3, y4, y5, y6, y7, n0, n1, n2]
            refine AWK.one 21 (by decide +kernel) ?_
            refine AWE.op rfl ?_
            simp -implicitDefEqProofs [st_row, cI]
            refine AWS.store (by simp [Heap.set]; exact ⟨rfl, rfl⟩) HC.nothing ?_
            simp only [lset]
            refine AWK.one 22 (by decide +kernel) ?_
            refine AWE.op rfl ?_
            simp -implicitDefEqProofs [u0, u2, u3, u8, u9, y3, y4, y5, y6, y7, n0, n1, n2]
            refine AWK.one 23 (by decide +kernel) ?_
            refine AWE.op rfl ?_
            simp -implicitDefEqProofs [st_row, cJ]
            refine AWS.store (by simp [Heap.set]; exact ⟨rfl, rfl⟩) HC.nothing ?_
            simp only [lset]
            refine AWK.fin (by decide +kernel) ?_
            refine ⟨by simp [u0, u2, u3, u8, u9, y3, y4, y5, y6, y7, n0, n1, n2], by simp [u0, u2, u3, u8, u9, y3, y4, y5, y6, y7, n0, n1, n2], by simp [u0, u2, u3, u8, u9, y3, y4, y5, y6, y7, n0, n1, n2], by simp [u0, u2, u3, u8, u9, y3, y4, y5, y6, y7, n0, n1, n2], by simp [u0, u2, u3, u8, u9, y3, y4, y5, y6, y7, n0, n1, n2], ?_⟩
            try rw [Heap.set_set]
            exact congrArg (fun x => H.set b (.cells x T)) (by first | exact rs2 | exact rs3)
          · refine AWE.op rfl ?_
            simp -implicitDefEqProofs [rd_row, g0, g2]
            refine AWK.one 13 (by decide +kernel) ?_
            refine AWE.op rfl ?_
            simp -implicitDefEqProofs [rd_row, g0, g2]
            refine AWK.one 20 (by decide +kernel) ?_
            refine AWE.op rfl ?_
            simp -implicitDefEqProofs [u0, u2, u3, u8, u9, y3, y4, y5, y6, y7, n0, n1, n2]
            refine AWK.one 21 (by decide +kernel) ?_
            refine AWE.op rfl ?_
            simp -implicitDefEqProofs [st_row, cI]
            refine AWS.store (by simp [Heap.set]; exact ⟨rfl, rfl⟩) HC.nothing ?_
            simp only [lset]
            refine AWK.one 22 (by decide +kernel) ?_
            refine AWE.op rfl ?_
            simp -implicitDefEqProofs [u0, u2, u3, u8, u9, y3, y4, y5, y6, y7, n0, n1, n2]
            refine AWK.one 23 (by decide +kernel) ?_
            refine AWE.op rfl ?_
            simp -implicitDefEqProofs [st_row, cJ]
            refine AWS.store (by simp [Heap.set]; exact ⟨rfl, rfl⟩) HC.nothing ?_
            simp only [lset]
            refine AWK.fin (by decide +kernel) ?_
            refine ⟨by simp [u0, u2, u3, u8, u9, y3, y4, y5, y6, y7, n0, n1, n2], by simp [u0, u2, u3, u8, u9, y3, y4, y5, y6, y7, n0, n1, n2], by simp [u0, u2, u3, u8, u9, y3, y4, y5, y6, y7, n0, n1, n2], by simp [u0, u2, u3, u8, u9, y3, y4, y5, y6, y7, n0, n1, n2], by simp [u0, u2, u3, u8, u9, y3, y4, y5, y6, y7, n0, n1, n2], ?_⟩
            try rw [Heap.set_set]
            exact congrArg (fun x => H.set b (.cells x T)) (by first | exact rs2 | exact rs3)
        rintro ρ3 K3 ⟨h0, h2, h3, h8, h9, rfl⟩
        rw [u0] at h0; rw [u2] at h2; rw [u3] at h3; rw [u9] at h9
        simp -implicitDefEqProofs [h9]
        exact AGo.again ih (m' := hi - c2) (by omega) (HLe.refl _) ⟨c2, _, rfl, by omega, by rw [swp_size]; exact hen, hF', by simp [h0], by simp [h2], by simp [h3], by simp, rfl⟩
      · have hb2 : ltN x0 x2 = false := by simpa using hlt2
        rw [hb2] at hF'
        simp only [Bool.not_false, if_true] at hF'
        subst hF'
        simp -implicitDefEqProofs [hb2]
        subst hR
        exact AFin.intro _ _ (wk_refl _) (HWk.refl _) ⟨rfl, rfl⟩
    · have hb : ltN x1 x2 = false := by simpa using hlt
      rw [if_neg (by rw [hb]; simp)] at hF'
      simp -implicitDefEqProofs [hb]
      first | refine go_draw 21 f_mixed (by decide +kernel) ?_ | refine go_draw 20 f_mixed (by decide +kernel) ?_ | refine go_draw 14 f_mixed (by decide +kernel) ?_
      simp -implicitDefEqProofs [t0, t2, t3, t8, y3, y4, y5, y6, y7, rd_row, g0, g1, n0, n1, g2, n2, t9]
      refine AQS.eq (c_less _ _) ?_
      by_cases hlt2 : x0 < x1
      · have hb2 : ltN x0 x1 = true := by simpa using hlt2
        rw [hb2] at hF'
        simp only [Bool.not_true, Bool.false_eq_true, if_false] at hF'
        simp -implicitDefEqProofs [hb2]
        refine atRho fun ρ2 hρ2 => ?_
        have u0 : ρ2 0 = slV b n cap := by rw [hρ2]; simp [t0, t2, t3, t8, t9]
        have u2 : ρ2 2 = .sc (.int .i64 (hi : Int)) := by rw [hρ2]; simp [t0, t2, t3, t8, t9]
        have u3 : ρ2 3 = .sc (.int .i64 (first : Int)) := by rw [hρ2]; simp [t0, t2, t3, t8, t9]
        have u8 : ρ2 8 = .sc (.int .i64 (r : Int)) := by rw [hρ2]; simp [t0, t2, t3, t8, t9]
        have u9 : ρ2 9 = .sc (.int .i64 (c : Int)) := by rw [hρ2]; simp [t0, t2, t3, t8, t9]
        clear hρ2 t0 t2 t3 t8
        have rs2 : ((e.toList.map uAV).set fr (uAV x1) ++ rest).set fc (uAV x0) = (Go.Sort.swp e fr fc).toList.map uAV ++ rest := swap_cells z0 z1 hx0 hx1
        have rs3 : ((e.toList.map uAV ++ rest).set fr (uAV x1)).set fc (uAV x0) = (Go.Sort.swp e fr fc).toList.map uAV ++ rest := swap_cells2 z0 z1 hx0 hx1
        have cI : fr + 1 ≤ e.size + rest.length := by omega
        have cJ : fc + 1 ≤ e.size + rest.length := by omega
        refine go_draw3J (fun ρ' K' => ρ' 0 = ρ2 0 ∧ ρ' 2 = ρ2 2 ∧ ρ' 3 = ρ2 3 ∧ ρ' 8 = ρ2 8 ∧ ρ' 9 = ρ2 9 ∧ K' = H.set b (rowC T (Go.Sort.swp e fr fc) rest)) [0, 1, 2, 3, 4, 5, 6, 7, 8, 9, 10, 11, 12, 14, 15, 16, 17, 18] (fun _ => none) f_mixed (by decide +kernel) HC.nothing ?_ ?_
        · simp -implicitDefEqProofs
          repeat (refine aq3_op ?_; simp -implicitDefEqProofs [u0, u2, u3, u8, u9, y3, y4, y5, y6, y7, n0, n1])
          refine AWK.two 13 19 (by decide +kernel) ?_ ?_
          · refine AWE.op rfl ?_
            simp -implicitDefEqProofs [rd_row, g0, g1]
            refine AWK.one 19 (by decide +kernel) ?_
            refine AWE.op rfl ?_
            simp -implicitDefEqProofs [rd_row, g0, g1]
            refine AWK.one 20 (by decide +kernel) ?_
            refine AWE.op rfl ?_
            simp -implicitDefEqProofs [u0, u2, u3, u8, u9, y3, y4, y5, y6, y7, n0, n1]
            refine AWK.one 21 (by decide +kernel) ?_
            refine AWE.op rfl ?_
            simp -implicitDefEqProofs [st_row, cI]
            refine AWS.store (by simp [Heap.set]; exact ⟨rfl, rfl⟩) HC.nothing ?_
            simp only [lset]
            refine AWK.one 22 (by decide +kernel) ?_
            refine AWE.op rfl ?_
            simp -implicitDefEqProofs [u0, u2, u3, u8, u9, y3, y4, y5, y6, y7, n0, n1]
            refine AWK.one 23 (by decide +kernel) ?_
            refine AWE.op rfl ?_
            simp -implicitDefEqProofs [st_row, cJ]
            refine AWS.store (by simp [Heap.set]; exact ⟨rfl, rfl⟩) HC.nothing ?_
            simp only [lset]
            refine AWK.fin (by decide +kernel) ?_
            refine ⟨by simp [u0, u2, u3, u8, u9, y3, y4, y5, y6, y7, n0, n1], by simp [u0, u2, u3, u8, u9, y3, y4, y5, y6, y7, n0, n1], by simp [u0, u2, u3, u8, u9, y3, y4, y5, y6, y7, n0, n1], by simp [u0, u2, u3, u8, u9, y3, y4, y5, y6, y7, n0, n1], by simp [u0, u2, u3, u8, u9, y3, y4, y5, y6, y7, n0, n1], ?_⟩
            try rw [Heap.set_set]
            exact congrArg (fun x => H.set b (.cells x T)) (by first | exact rs2 | exact rs3)
          · refine AWE.op rfl ?_
            simp -implicitDefEqProofs [rd_row, g0, g1]
            refine AWK.one 13 (by decide +kernel) ?_
            refine AWE.op rfl ?_
            simp -implicitDefEqProofs [rd_row, g0, g1]
            refine AWK.one 20 (by decide +kernel) ?_
            refine AWE.op rfl ?_
            simp -implicitDefEqProofs [u0, u2, u3, u8, u9, y3, y4, y5, y6, y7, n0, n1]
            refine AWK.one 21 (by decide +kernel) ?_
            refine AWE.op rfl ?_
            simp -implicitDefEqProofs [st_row, cI]
            refine AWS.store (by simp [Heap.set]; exact ⟨rfl, rfl⟩) HC.nothing ?_
            simp only [lset]
            refine AWK.one 22 (by decide +kernel) ?_
            refine AWE.op rfl ?_
            simp -implicitDefEqProofs [u0, u2, u3, u8, u9, y3, y4, y5, y6, y7, n0, n1]
            refine AWK.one 23 (by decide +kernel) ?_
            refine AWE.op rfl ?_
            simp -implicitDefEqProofs [st_row, cJ]
            refine AWS.store (by simp [Heap.set]; exact ⟨rfl, rfl⟩) HC.nothing ?_
            simp only [lset]
            refine AWK.fin (by decide +kernel) ?_
            refine ⟨by simp [u0, u2, u3, u8, u9, y3, y4, y5, y6, y7, n0, n1], by simp [u0, u2, u3, u8, u9, y3, y4, y5, y6, y7, n0, n1], by simp [u0, u2, u3, u8, u9, y3, y4, y5, y6, y7, n0, n1], by simp [u0, u2, u3, u8, u9, y3, y4, y5, y6, y7, n0, n1], by simp [u0, u2, u3, u8, u9, y3, y4, y5, y6, y7, n0, n1], ?_⟩
            try rw [Heap.set_set]
            exact congrArg (fun x => H.set b (.cells x T)) (by first | exact rs2 | exact rs3)
        rintro ρ3 K3 ⟨h0, h2, h3, h8, h9, rfl⟩
        rw [u0] at h0; rw [u2] at h2; rw [u3] at h3; rw [u9] at h9
        simp -implicitDefEqProofs [h9]
        exact AGo.again ih (m' := hi - c) (by omega) (HLe.refl _) ⟨c, _, rfl, by omega, by rw [swp_size]; exact hen, hF', by simp [h0], by simp [h2], by simp [h3], by simp, rfl⟩
      · have hb2 : ltN x0 x1 = false := by simpa using hlt2
        rw [hb2] at hF'
        simp only [Bool.not_false, if_true] at hF'
        subst hF'
        simp -implicitDefEqProofs [hb2]
        subst hR
        exact AFin.intro _ _ (wk_refl _) (HWk.refl _) ⟨rfl, rfl⟩
  · have h2' : ¬ (c2 : Int) < (hi : Int) := by omega
    rw [if_neg (by simp [h2])] at hF'
    simp -implicitDefEqProofs [t0, t2, t3, t8, y3, y4, y5, y6, y7, rd_row, g0, g1, n0, n1, t9, h2']
    first | refine go_draw 21 f_mixed (by decide +kernel) ?_ | refine go_draw 20 f_mixed (by decide +kernel) ?_ | refine go_draw 14 f_mixed (by decide +kernel) ?_
    simp -implicitDefEqProofs [t0, t2, t3, t8, y3, y4, y5, y6, y7, rd_row, g0, g1, n0, n1, h2', t9]
    refine AQS.eq (c_less _ _) ?_
    by_cases hlt2 : x0 < x1
    · have hb2 : ltN x0 x1 = true := by simpa using hlt2
      rw [hb2] at hF'
      simp only [Bool.not_true, Bool.false_eq_true, if_false] at hF'
      simp -implicitDefEqProofs [hb2]
      refine atRho fun ρ2 hρ2 => ?_
      have u0 : ρ2 0 = slV b n cap := by rw [hρ2]; simp [t0, t2, t3, t8, t9]
      have u2 : ρ2 2 = .sc (.int .i64 (hi : Int)) := by rw [hρ2]; simp [t0, t2, t3, t8, t9]
      have u3 : ρ2 3 = .sc (.int .i64 (first : Int)) := by rw [hρ2]; simp [t0, t2, t3, t8, t9]
      have u8 : ρ2 8 = .sc (.int .i64 (r : Int)) := by rw [hρ2]; simp [t0, t2, t3, t8, t9]
      have u9 : ρ2 9 = .sc (.int .i64 (c : Int)) := by rw [hρ2]; simp [t0, t2, t3, t8, t9]
      clear hρ2 t0 t2 t3 t8
      have rs2 : ((e.toList.map uAV).set fr (uAV x1) ++ rest).set fc (uAV x0) = (Go.Sort.swp e fr fc).toList.map uAV ++ rest := swap_cells z0 z1 hx0 hx1
      have rs3 : ((e.toList.map uAV ++ rest).set fr (uAV x1)).set fc (uAV x0) = (Go.Sort.swp e fr fc).toList.map uAV ++ rest := swap_cells2 z0 z1 hx0 hx1
      have cI : fr + 1 ≤ e.size + rest.length := by omega
      have cJ : fc + 1 ≤ e.size + rest.length := by omega
      refine go_draw3J (fun ρ' K' => ρ' 0 = ρ2 0 ∧ ρ' 2 = ρ2 2 ∧ ρ' 3 = ρ2 3 ∧ ρ' 8 = ρ2 8 ∧ ρ' 9 = ρ2 9 ∧ K' = H.set b (rowC T (Go.Sort.swp e fr fc) rest)) [0, 1, 2, 3, 4, 5, 6, 7, 8, 9, 10, 11, 12, 14, 15, 16, 17, 18] (fun _ => none) f_mixed (by decide +kernel) HC.nothing ?_ ?_
      · simp -implicitDefEqProofs
        repeat (refine aq3_op ?_; simp -implicitDefEqProofs [u0, u2, u3, u8, u9, y3, y4, y5, y6, y7, n0, n1])
        refine AWK.two 13 19 (by decide +kernel) ?_ ?_
        · refine AWE.op rfl ?_
          simp -implicitDefEqProofs [rd_row, g0, g1]
          refine AWK.one 19 (by decide +kernel) ?_
          refine AWE.op rfl ?_
          simp -implicitDefEqProofs [rd_row, g0, g1]
          refine AWK.one 20 (by decide +kernel) ?_
          refine AWE.op rfl ?_
          simp -implicitDefEqProofs [u0, u2, u3, u8, u9, y3, y4, y5, y6, y7, n0, n1]
          refine AWK.one 21 (by decide +kernel) ?_
          refine AWE.op rfl ?_
          simp -implicitDefEqProofs [st_row, cI]
          refine AWS.store (by simp [Heap.set]; exact ⟨rfl, rfl⟩) HC.nothing ?_
          simp only [lset]
          refine AWK.one 22 (by decide +kernel) ?_
          refine AWE.op rfl ?_
          simp -implicitDefEqProofs [u0, u2, u3, u8, u9, y3, y4, y5, y6, y7, n0, n1]
          refine AWK.one 23 (by decide +kernel) ?_
          refine AWE.op rfl ?_
          simp -implicitDefEqProofs [st_row, cJ]
          refine AWS.store (by simp [Heap.set]; exact ⟨rfl, rfl⟩) HC.nothing ?_
          simp only [lset]
          refine AWK.fin (by decide +kernel) ?_
          refine ⟨by simp [u0, u2, u3, u8, u9, y3, y4, y5, y6, y7, n0, n1], by simp [u0, u2, u3, u8, u9, y3, y4, y5, y6, y7, n0, n1], by simp [u0, u2, u3, u8, u9, y3, y4, y5, y6, y7, n0, n1], by simp [u0, u2, u3, u8, u9, y3, y4, y5, y6, y7, n0, n1], by simp [u0, u2, u3, u8, u9, y3, y4, y5, y6, y7, n0, n1], ?_⟩
          try rw [Heap.set_set]
          exact congrArg (fun x => H.set b (.cells x T)) (by first | exact rs2 | exact rs3)
        · refine AWE.op rfl ?_
          simp -implicitDefEqProofs [rd_row, g0, g1]
          refine AWK.one 13 (by decide +kernel) ?_
          refine AWE.op rfl ?_
          simp -implicitDefEqProofs [rd_row, g0, g1]
          refine AWK.one 20 (by decide +kernel) ?_
          refine AWE.op rfl ?_
          simp -implicitDefEqProofs [u0, u2, u3, u8, u9, y3, y4, y5, y6, y7, n0, n1]
          refine AWK.one 21 (by decide +kernel) ?_
          refine AWE.op rfl ?_
          simp -implicitDefEqProofs [st_row, cI]
          refine AWS.store (by simp [Heap.set]; exact ⟨rfl, rfl⟩) HC.nothing ?_
          simp only [lset]
          refine AWK.one 22 (by decide +kernel) ?_
          refine AWE.op rfl ?_
          simp -implicitDefEqProofs [u0, u2, u3, u8, u9, y3, y4, y5, y6, y7, n0, n1]
          refine AWK.one 23 (by decide +kernel) ?_
          refine AWE.op rfl ?_
          simp -implicitDefEqProofs [st_row, cJ]
          refine AWS.store (by simp [Heap.set]; exact ⟨rfl, rfl⟩) HC.nothing ?_
          simp only [lset]
          refine AWK.fin (by decide +kernel) ?_
          refine ⟨by simp [u0, u2, u3, u8, u9, y3, y4, y5, y6, y7, n0, n1], by simp [u0, u2, u3, u8, u9, y3, y4, y5, y6, y7, n0, n1], by simp [u0, u2, u3, u8, u9, y3, y4, y5, y6, y7, n0, n1], by simp [u0, u2, u3, u8, u9, y3, y4, y5, y6, y7, n0, n1], by simp [u0, u2, u3, u8, u9, y3, y4, y5, y6, y7, n0, n1], ?_⟩
          try rw [Heap.set_set]
          exact congrArg (fun x => H.set b (.cells x T)) (by first | exact rs2 | exact rs3)
      rintro ρ3 K3 ⟨h0, h2, h3, h8, h9, rfl⟩
      rw [u0] at h0; rw [u2] at h2; rw [u3] at h3; rw [u9] at h9
      simp -implicitDefEqProofs [h9]
      exact AGo.again ih (m' := hi - c) (by omega) (HLe.refl _) ⟨c, _, rfl, by omega, by rw [swp_size]; exact hen, hF', by simp [h0], by simp [h2], by simp [h3], by simp, rfl⟩
    · have hb2 : ltN x0 x1 = false := by simpa using hlt2
      rw [hb2] at hF'
      simp only [Bool.not_false, if_true] at hF'
      subst hF'
      simp -implicitDefEqProofs [hb2]
      subst hR
      exact AFin.intro _ _ (wk_refl _) (HWk.refl _) ⟨rfl, rfl⟩
end Go.Proofs.YtlhgpodfhdddkaaGreatDoor
