/- A state's parts as bytes, plainly: what any bytes are. A state's parts as bytes, plainly: both ways are one. Numbers and texts as bytes, by definition: the document's package 01, Put. What is taken on the way, by definition: the document's Taker. -/
import Derived.Test.YtghlkjkdejebnaaGreatDoorP19
set_option linter.unusedSimpArgs false
set_option linter.unusedVariables false
set_option linter.unnecessarySimpa false
namespace Go.Proofs.YtghlkjkdejebnaaGreatDoor
open Rg Go
structure Fr where
  job : Nat
  at_ : Int
  st : Int
  att : Int
  tok : Nat
  wk : Nat
  til : Int
structure Tl where
  cl : Nat
  sq : Nat
  e : Int
  n : Nat
structure Pt where
  jobs : List Jb
  last : Nat
  fires : List Fr
  talks : List Tl
  now : Int
  tokens : Nat
def frN (f : Fr) : List Nat := [f.job, zig f.at_, zig f.st, zig f.att, f.tok, f.wk, zig f.til]
def tlN (t : Tl) : List Nat := [t.cl, t.sq, zig t.e, t.n]
def putI (p : Pt) : List UInt8 :=
  numsB [zig p.now, p.tokens, p.last, p.jobs.length] ++ (p.jobs.flatMap putJ ++ (numsB [p.fires.length] ++ (p.fires.flatMap (fun f => numsB (frN f)) ++ (numsB [p.talks.length] ++ p.talks.flatMap fun t => numsB (tlN t)))))
def mayI (p : Pt) : Int := if 64 < p.jobs.length ∨ 2000 < p.fires.length ∨ 64 < p.talks.length then 3 else ((p.jobs.map mayJ).find? (· ≠ 0)).getD 0
def frOf : List Nat → Fr
  | [a, b, c, d, e, f, g] => ⟨a, unzig b, unzig c, unzig d, e, f, unzig g⟩
  | _ => ⟨0, 0, 0, 0, 0, 0, 0⟩
def tlOf : List Nat → Tl
  | [a, b, c, d] => ⟨a, b, unzig c, d⟩
  | _ => ⟨0, 0, 0, 0⟩
theorem frOf_frN (f : Fr) : frOf (frN f) = f := by simp [frOf, frN, unzig_zig]
theorem tlOf_tlN (t : Tl) : tlOf (tlN t) = t := by simp [tlOf, tlN, unzig_zig]
theorem frN_frOf {l : List Nat} (h : l.length = 7) : frN (frOf l) = l := by
  match l, h with
  | [a, b, c, d, e, f, g], _ => simp [frOf, frN, zig_unzig]
theorem tlN_tlOf {l : List Nat} (h : l.length = 4) : tlN (tlOf l) = l := by
  match l, h with
  | [a, b, c, d], _ => simp [tlOf, tlN, zig_unzig]
def rowC (b : List UInt8) : Nat → Nat × Bool → List Nat × Nat × Bool
  | 0, s => ([], s)
  | k + 1, s => ((numC b any64 s).1 :: (rowC b k (numC b any64 s).2).1, (rowC b k (numC b any64 s).2).2)
def rowsC (b : List UInt8) (w : Nat) : Nat → Nat × Bool → List (List Nat) × Nat × Bool
  | 0, s => ([], s)
  | k + 1, s => ((rowC b w s).1 :: (rowsC b w k (rowC b w s).2).1, (rowsC b w k (rowC b w s).2).2)
def manyC (b : List UInt8) (most : Nat) (s : Nat × Bool) : Nat × Nat × Bool :=
  if (numC b any64 s).2.2 = true ∨ most < (numC b any64 s).1 then (0, (numC b any64 s).2.1, true) else numC b any64 s
def jobsG (f : Nat → Option (Jb × Nat)) : Nat → Nat × Bool → List Jb × Nat × Bool
  | 0, s => ([], s)
  | k + 1, s => if s.2 = true then ([], s) else match f s.1 with
    | none => ([], (s.1, true))
    | some (j, e) => (j :: (jobsG f k (e, false)).1, (jobsG f k (e, false)).2)
def parseI (b : List UInt8) : Option Pt :=
  let h := rowC b 3 (0, false); let m := manyC b 64 h.2; let js := jobsG (parseJ b) m.1 m.2
  let n := manyC b 2000 js.2; let fs := rowsC b 7 n.1 n.2; let k := manyC b 64 fs.2; let ts := rowsC b 4 k.1 k.2
  if ts.2.2 = true ∨ ts.2.1 ≠ b.length then none
  else some ⟨js.1, h.1.getD 2 0, fs.1.map frOf, ts.1.map tlOf, unzig (h.1.getD 0 0), h.1.getD 1 0⟩
def rowsT (b : List UInt8) (w : Nat) : Nat → Nat × Bool → List (List Nat) × Nat × Bool
  | 0, s => ([], s)
  | k + 1, s => if s.2 = true then ([], s) else ((depsS b w s).1 :: (rowsT b w k (depsS b w s).2).1, (rowsT b w k (depsS b w s).2).2)
def jobsH (f : Nat × Bool → PStep) : Nat → Nat × Bool → List Jb × Nat × Bool
  | 0, s => ([], s)
  | k + 1, s => if s.2 = true then ([], s) else ((f s).j :: (jobsH f k (f s).s).1, (jobsH f k (f s).s).2)
def upTo (most n : Nat) : Nat := if n ≤ most then n else 0
def takeI (b : List UInt8) : Pt × Nat × Bool :=
  let h := depsS b 3 (0, false); let m := numS b any64 h.2; let js := jobsH (takeJ b) (upTo 64 m.1) m.2
  let n := numS b any64 js.2; let fs := rowsT b 7 (upTo 2000 n.1) n.2; let k := numS b any64 fs.2; let ts := rowsT b 4 (upTo 64 k.1) k.2
  (⟨js.1, h.1.getD 2 0, fs.1.map frOf, ts.1.map tlOf, unzig (h.1.getD 0 0), h.1.getD 1 0⟩, ts.2)
def parseIT (b : List UInt8) : Option Pt :=
  if (takeI b).2.2 = true then none else if mayI (takeI b).1 ≠ 0 ∨ putI (takeI b).1 ≠ b then none else some (takeI b).1
structure PtOk (p : Pt) : Prop where
  jobs : ∀ j ∈ p.jobs, JbOk j ∧ j.ex.length ≤ 4096
  last : p.last < 18446744073709551616
  tokens : p.tokens < 18446744073709551616
  now : zig p.now < 18446744073709551616
  fires : ∀ f ∈ p.fires, ∀ n ∈ frN f, n < 18446744073709551616
  talks : ∀ t ∈ p.talks, ∀ n ∈ tlN t, n < 18446744073709551616
theorem mayI_parts {p : Pt} (h : mayI p = 0) : p.jobs.length ≤ 64 ∧ p.fires.length ≤ 2000 ∧ p.talks.length ≤ 64 ∧ ∀ j ∈ p.jobs, mayJ j = 0 := by
  unfold mayI at h
  split at h
  · cases h
  · rename_i hc
    simp only [not_or, Nat.not_lt] at hc
    refine ⟨hc.1, hc.2.1, hc.2.2, fun j hj => ?_⟩
    rcases hf : (p.jobs.map mayJ).find? (· ≠ 0) with _ | x
    · rw [List.find?_eq_none] at hf
      have := hf (mayJ j) (List.mem_map_of_mem hj)
      simpa using this
    · rw [hf] at h
      have := List.find?_some hf
      simp at this h
      exact absurd h this
theorem mayI_of {p : Pt} (h1 : p.jobs.length ≤ 64) (h2 : p.fires.length ≤ 2000) (h3 : p.talks.length ≤ 64) (h4 : ∀ j ∈ p.jobs, mayJ j = 0) : mayI p = 0 := by
  unfold mayI
  rw [if_neg (by omega)]
  have : (p.jobs.map mayJ).find? (· ≠ 0) = none := by
    rw [List.find?_eq_none]
    intro x hx
    obtain ⟨j, hj, rfl⟩ := List.mem_map.1 hx
    simp [h4 j hj]
  rw [this]
  rfl
theorem rowC_any (b : List UInt8) : ∀ (k : Nat) (s : Nat × Bool), rowC b k s = depsS b k s ∨ (rowC b k s).2.2 = true ∧ (depsS b k s).2.2 = true
  | 0, s => .inl rfl
  | k + 1, s => by
    have st : ∀ k (s : Nat × Bool), s.2 = true → (rowC b k s).2.2 = true := by
      intro k
      induction k with
      | zero => exact fun s h => h
      | succ k ih => exact fun s h => ih _ (numC_stay b _ s h)
    unfold rowC depsS
    rw [show numS b 18446744073709551615 s = numS b any64 s from rfl]
    rcases numC_any b s with h | ⟨h1, h2⟩
    · rw [h]
      rcases rowC_any b k (numS b any64 s).2 with h3 | h3
      · exact .inl (by rw [h3])
      · exact .inr h3
    · exact .inr ⟨st _ _ h1, depsS_stay b _ _ h2⟩
theorem rowC_ok {b : List UInt8} {k : Nat} {s : Nat × Bool} (h : (rowC b k s).2.2 = false) : rowC b k s = depsS b k s := by
  rcases rowC_any b k s with h1 | ⟨h1, -⟩
  · exact h1
  · rw [h] at h1; cases h1
theorem rowC_at {b : List UInt8} {L : List Nat} {Q : List UInt8} {a : Nat} (h : b.drop a = numsB L ++ Q) (hn : ∀ n ∈ L, n < 18446744073709551616) : rowC b L.length (a, false) = (L, a + (numsB L).length, false) := by
  have h1 := depsS_at L h hn
  rcases rowC_any b L.length (a, false) with h2 | ⟨-, h2⟩
  · rw [h2, h1]
  · rw [h1] at h2; cases h2
theorem rowsC_at {b : List UInt8} {w : Nat} : ∀ (R : List (List Nat)) {Q : List UInt8} {a : Nat}, b.drop a = R.flatMap numsB ++ Q → (∀ l ∈ R, l.length = w ∧ ∀ n ∈ l, n < 18446744073709551616) → rowsC b w R.length (a, false) = (R, a + (R.flatMap numsB).length, false)
  | [], Q, a, h, _ => by simp [rowsC]
  | l :: R, Q, a, h, hn => by
    rw [List.flatMap_cons, List.append_assoc] at h
    have hl := hn l (by simp)
    have h1 := rowC_at h hl.2
    rw [hl.1] at h1
    simp only [List.length_cons, rowsC, h1]
    rw [rowsC_at R (drop_next h) fun m hm => hn m (by simp [hm]), List.flatMap_cons, List.length_append, Nat.add_assoc]
theorem rowsT_at {b : List UInt8} {w : Nat} : ∀ (R : List (List Nat)) {Q : List UInt8} {a : Nat}, b.drop a = R.flatMap numsB ++ Q → (∀ l ∈ R, l.length = w ∧ ∀ n ∈ l, n < 18446744073709551616) → rowsT b w R.length (a, false) = (R, a + (R.flatMap numsB).length, false)
  | [], Q, a, h, _ => by simp [rowsT]
  | l :: R, Q, a, h, hn => by
    rw [List.flatMap_cons, List.append_assoc] at h
    have hl := hn l (by simp)
    have h1 := depsS_at l h hl.2
    rw [hl.1] at h1
    simp only [List.length_cons, rowsT, h1]
    rw [if_neg (by simp), rowsT_at R (drop_next h) fun m hm => hn m (by simp [hm]), List.flatMap_cons, List.length_append, Nat.add_assoc]
theorem takeJ_at {b Q : List UInt8} {a : Nat} {j : Jb} (h : b.drop a = putJ j ++ Q) (ho : JbOk j) (hm : mayJ j = 0) (hs : j.ex.length ≤ 4096) : takeJ b (a, false) = ⟨j, (a + (putJ j).length, false)⟩ := by
  have h1 := parse_put h ho hm hs
  rw [← parseT_eq] at h1
  unfold parseT at h1
  obtain ⟨⟨j', e, f⟩, hq⟩ : ∃ q, takeJ b (a, false) = q := ⟨_, rfl⟩
  rw [hq] at h1 ⊢
  simp only at h1
  split at h1
  · cases h1
  · rename_i hc
    simp only [not_or, Bool.not_eq_true] at hc
    simp only [Option.some.injEq, Prod.mk.injEq] at h1
    rw [h1.1, h1.2, hc.1]
theorem jobsC_at {b : List UInt8} (R : List Jb) : ∀ {Q : List UInt8} {a : Nat}, b.drop a = R.flatMap putJ ++ Q → (∀ j ∈ R, JbOk j ∧ j.ex.length ≤ 4096 ∧ mayJ j = 0) → jobsG (parseJ b) R.length (a, false) = (R, a + (R.flatMap putJ).length, false) := by
  induction R with
  | nil => intro Q a _ _; rfl
  | cons l R ih =>
    intro Q a h hn
    rw [List.flatMap_cons, List.append_assoc] at h
    have hl := hn l (by simp)
    have h1 := parse_put h hl.1 hl.2.2 hl.2.1
    rw [List.length_cons, jobsG, if_neg (by simp), h1]
    simp only
    rw [ih (drop_next h) fun m hm => hn m (by simp [hm]), List.flatMap_cons, List.length_append, Nat.add_assoc]
theorem jobsT_at {b : List UInt8} (R : List Jb) : ∀ {Q : List UInt8} {a : Nat}, b.drop a = R.flatMap putJ ++ Q → (∀ j ∈ R, JbOk j ∧ j.ex.length ≤ 4096 ∧ mayJ j = 0) → jobsH (takeJ b) R.length (a, false) = (R, a + (R.flatMap putJ).length, false) := by
  induction R with
  | nil => intro Q a _ _; rfl
  | cons l R ih =>
    intro Q a h hn
    rw [List.flatMap_cons, List.append_assoc] at h
    have hl := hn l (by simp)
    have h1 := takeJ_at h hl.1 hl.2.2 hl.2.1
    rw [List.length_cons, jobsH, if_neg (by simp), h1]
    simp only
    rw [ih (drop_next h) fun m hm => hn m (by simp [hm]), List.flatMap_cons, List.length_append, Nat.add_assoc]
theorem numC_at {b Q : List UInt8} {a n : Nat} (h : b.drop a = putB n ++ Q) (hn : n < 18446744073709551616) : numC b any64 (a, false) = (n, a + (putB n).length, false) := by
  rcases numC_any b (a, false) with h1 | ⟨-, h1⟩
  · rw [h1]
    exact numS_at h hn (by unfold any64; omega)
  · have h2 : numS b any64 (a, false) = (n, a + (putB n).length, false) := numS_at h hn (by unfold any64; omega)
    rw [h2] at h1; cases h1
theorem manyC_at {b Q : List UInt8} {a n most : Nat} (h : b.drop a = putB n ++ Q) (hn : n < 18446744073709551616) (hm : n ≤ most) : manyC b most (a, false) = (n, a + (putB n).length, false) := by
  unfold manyC
  rw [numC_at h hn]
  exact if_neg (by rintro (h | h); cases h; simp only at h; omega)
theorem upTo_le {m n : Nat} (h : n ≤ m) : upTo m n = n := if_pos h
theorem numsB_one (n : Nat) : numsB [n] = putB n := by simp [numsB]
theorem flat_frN (L : List Fr) : L.flatMap (fun f => numsB (frN f)) = (L.map frN).flatMap numsB := by rw [List.flatMap_map]
theorem flat_tlN (L : List Tl) : L.flatMap (fun f => numsB (tlN f)) = (L.map tlN).flatMap numsB := by rw [List.flatMap_map]
theorem parse_putI {p : Pt} (ho : PtOk p) (hm : mayI p = 0) : parseI (putI p) = some p ∧ parseIT (putI p) = some p := by
  obtain ⟨m1, m2, m3, m4⟩ := mayI_parts hm
  have hj : ∀ j ∈ p.jobs, JbOk j ∧ j.ex.length ≤ 4096 ∧ mayJ j = 0 := fun j h => ⟨(ho.jobs j h).1, (ho.jobs j h).2, m4 j h⟩
  have hf : ∀ l ∈ p.fires.map frN, l.length = 7 ∧ ∀ n ∈ l, n < 18446744073709551616 := fun l h => by
    obtain ⟨f, hf, rfl⟩ := List.mem_map.1 h
    exact ⟨rfl, ho.fires f hf⟩
  have ht : ∀ l ∈ p.talks.map tlN, l.length = 4 ∧ ∀ n ∈ l, n < 18446744073709551616 := fun l h => by
    obtain ⟨f, hf, rfl⟩ := List.mem_map.1 h
    exact ⟨rfl, ho.talks f hf⟩
  have e1 : (p.fires.map frN).map frOf = p.fires := by rw [List.map_map]; exact (List.map_congr_left fun f _ => frOf_frN f).trans (List.map_id _)
  have e2 : (p.talks.map tlN).map tlOf = p.talks := by rw [List.map_map]; exact (List.map_congr_left fun f _ => tlOf_tlN f).trans (List.map_id _)
  obtain ⟨b, hb⟩ : ∃ b, putI p = b := ⟨_, rfl⟩
  have hput := hb
  rw [hb]
  have f1 : b.drop 0 = putI p := by rw [List.drop_zero, hb]
  have hh : ∀ n ∈ [zig p.now, p.tokens, p.last], n < 18446744073709551616 := by
    intro n hn
    simp only [List.mem_cons, List.not_mem_nil, or_false] at hn
    rcases hn with rfl | rfl | rfl
    · exact ho.now
    · exact ho.tokens
    · exact ho.last
  unfold putI at f1
  rw [show numsB [zig p.now, p.tokens, p.last, p.jobs.length] = numsB [zig p.now, p.tokens, p.last] ++ putB p.jobs.length by simp [numsB]] at f1
  rw [List.append_assoc, numsB_one, numsB_one, flat_frN, flat_tlN] at f1
  have c1 := rowC_at f1 hh
  have t1 := depsS_at _ f1 hh
  have f2 := drop_next f1
  have c2 := manyC_at (most := 64) f2 (by omega) m1
  have t2 := numS_at (most := any64) f2 (by omega) (by unfold any64; omega)
  have f3 := drop_next f2
  have c3 := jobsC_at _ f3 hj
  have t3 := jobsT_at _ f3 hj
  have f4 := drop_next f3
  have c4 := manyC_at (most := 2000) f4 (by omega) m2
  have t4 := numS_at (most := any64) f4 (by omega) (by unfold any64; omega)
  have f5 := drop_next f4
  have c5 := rowsC_at _ f5 hf
  have t5 := rowsT_at _ f5 hf
  have f6 := drop_next f5
  have c6 := manyC_at (most := 64) f6 (by omega) m3
  have t6 := numS_at (most := any64) f6 (by omega) (by unfold any64; omega)
  have f7 := drop_next f6
  rw [← List.append_nil ((p.talks.map tlN).flatMap numsB)] at f7
  have c7 := rowsC_at _ f7 ht
  have t7 := rowsT_at _ f7 ht
  have f8 := drop_next f7
  have hlen := congrArg List.length f1
  simp only [List.length_drop, List.length_append, List.length_nil, List.append_nil] at hlen
  rw [List.length_map] at c5 t5 c7 t7
  simp only [List.length_cons, List.length_nil, Nat.zero_add, Nat.reduceAdd] at c1 t1 c2 t2 c3 t3 c4 t4 c5 t5 c6 t6 c7 t7
  have g1 : ∀ x y z : Nat, [x, y, z].getD 0 0 = x ∧ [x, y, z].getD 1 0 = y ∧ [x, y, z].getD 2 0 = z := fun _ _ _ => ⟨rfl, rfl, rfl⟩
  constructor
  · unfold parseI
    simp only [c1, c2, c3, c4, c5, c6, c7, g1]
    rw [if_neg (by rintro (h | h); cases h; exact h (by omega)), e1, e2, unzig_zig]
  · have e : (takeI b).1 = p ∧ (takeI b).2.2 = false := by
      unfold takeI
      simp only [t1, t2, upTo_le m1, t3, t4, upTo_le m2, t5, t6, upTo_le m3, t7, g1]
      rw [e1, e2, unzig_zig]
      exact ⟨rfl, trivial⟩
    unfold parseIT
    rw [e.1, e.2, if_neg (by simp), if_neg (by simp [hm, hput])]
end Go.Proofs.YtghlkjkdejebnaaGreatDoor
namespace Go.Proofs.YtghlkjkdejebnaaGreatDoor
open Rg Go
theorem rowC_inv {b : List UInt8} {k : Nat} {L : List Nat} {s s' : Nat × Bool} (e : rowC b k s = (L, s')) (h : s'.2 = false) : s.2 = false ∧ b.drop s.1 = numsB L ++ b.drop s'.1 ∧ (∀ n ∈ L, n < 18446744073709551616) ∧ L.length = k :=
  depsS_inv' (by rw [← rowC_ok (by rw [e]; exact h)]; exact e) h
theorem rowsC_inv {b : List UInt8} {w : Nat} : ∀ (k : Nat) {s : Nat × Bool}, (rowsC b w k s).2.2 = false → s.2 = false ∧ b.drop s.1 = (rowsC b w k s).1.flatMap numsB ++ b.drop (rowsC b w k s).2.1 ∧ (∀ l ∈ (rowsC b w k s).1, l.length = w ∧ ∀ n ∈ l, n < 18446744073709551616) ∧ (rowsC b w k s).1.length = k
  | 0, s, h => ⟨h, by simp [rowsC], by simp [rowsC], rfl⟩
  | k + 1, s, h => by
    unfold rowsC at h ⊢
    obtain ⟨a1, a2, a3, a4⟩ := rowsC_inv k h
    obtain ⟨b1, b2, b3, b4⟩ := rowC_inv (b := b) (k := w) (s := s) rfl a1
    refine ⟨b1, ?_, fun l hl => ?_, by simp [a4]⟩
    · rw [List.flatMap_cons, List.append_assoc, ← a2]
      exact b2
    · rcases List.mem_cons.1 hl with rfl | hl
      · exact ⟨b4, b3⟩
      · exact a3 l hl
theorem manyC_inv {b : List UInt8} {m n : Nat} {s s' : Nat × Bool} (e : manyC b m s = (n, s')) (h : s'.2 = false) : s.2 = false ∧ b.drop s.1 = putB n ++ b.drop s'.1 ∧ n ≤ m := by
  unfold manyC at e
  split at e
  · cases e; cases h
  · rename_i hc
    simp only [not_or, Bool.not_eq_true, Nat.not_lt] at hc
    rcases numC_any b s with h1 | ⟨h1, -⟩
    · rw [e] at h1 hc
      obtain ⟨a1, a2, -, -⟩ := numS_inv' h1.symm h
      exact ⟨a1, a2, hc.2⟩
    · rw [hc.1] at h1; cases h1
theorem jobsG_inv {b : List UInt8} : ∀ (k : Nat) {s : Nat × Bool}, (jobsG (parseJ b) k s).2.2 = false → s.2 = false ∧ b.drop s.1 = (jobsG (parseJ b) k s).1.flatMap putJ ++ b.drop (jobsG (parseJ b) k s).2.1 ∧ (∀ j ∈ (jobsG (parseJ b) k s).1, JbOk j ∧ j.ex.length ≤ 4096 ∧ mayJ j = 0) ∧ (jobsG (parseJ b) k s).1.length = k := by
  intro k
  induction k with
  | zero => exact fun {s} h => ⟨h, by simp [jobsG], by simp [jobsG], rfl⟩
  | succ k ih =>
    intro s h
    rw [jobsG] at h ⊢
    by_cases hs : s.2 = true
    · rw [if_pos hs] at h
      simp only at h
      rw [hs] at h; cases h
    · rw [if_neg hs] at h ⊢
      rcases hj : parseJ b s.1 with _ | ⟨j, e⟩ <;> rw [hj] at h
      · cases h
      · simp only at h ⊢
        obtain ⟨-, a2, a3, a4⟩ := ih h
        obtain ⟨p1, p2, p3, p4⟩ := parse_inv hj
        refine ⟨by simpa using hs, ?_, fun l hl => ?_, by simp [a4]⟩
        · rw [List.flatMap_cons, List.append_assoc, ← a2]
          exact p1
        · rcases List.mem_cons.1 hl with rfl | hl
          · exact ⟨p2, p4, p3⟩
          · exact a3 l hl
theorem three_of {L : List Nat} (h : L.length = 3) : L = [L.getD 0 0, L.getD 1 0, L.getD 2 0] := by
  match L, h with
  | [a, b, c], _ => rfl
theorem map_frN {R : List (List Nat)} (h : ∀ l ∈ R, l.length = 7 ∧ ∀ n ∈ l, n < 18446744073709551616) : (R.map frOf).map frN = R := by
  rw [List.map_map]
  exact (List.map_congr_left fun l hl => frN_frOf (h l hl).1).trans (List.map_id _)
theorem map_tlN {R : List (List Nat)} (h : ∀ l ∈ R, l.length = 4 ∧ ∀ n ∈ l, n < 18446744073709551616) : (R.map tlOf).map tlN = R := by
  rw [List.map_map]
  exact (List.map_congr_left fun l hl => tlN_tlOf (h l hl).1).trans (List.map_id _)
theorem fr_lt {R : List (List Nat)} (h : ∀ l ∈ R, l.length = 7 ∧ ∀ n ∈ l, n < 18446744073709551616) : ∀ f ∈ R.map frOf, ∀ n ∈ frN f, n < 18446744073709551616 := fun f hf => by
  obtain ⟨l, hl, rfl⟩ := List.mem_map.1 hf
  rw [frN_frOf (h l hl).1]
  exact (h l hl).2
theorem tl_lt {R : List (List Nat)} (h : ∀ l ∈ R, l.length = 4 ∧ ∀ n ∈ l, n < 18446744073709551616) : ∀ f ∈ R.map tlOf, ∀ n ∈ tlN f, n < 18446744073709551616 := fun f hf => by
  obtain ⟨l, hl, rfl⟩ := List.mem_map.1 hf
  rw [tlN_tlOf (h l hl).1]
  exact (h l hl).2
theorem parseI_inv {b : List UInt8} {p : Pt} (h : parseI b = some p) : putI p = b ∧ mayI p = 0 ∧ PtOk p := by
  obtain ⟨H, s1, c1⟩ : ∃ n s, rowC b 3 (0, false) = (n, s) := ⟨_, _, rfl⟩
  obtain ⟨m, s2, c2⟩ : ∃ n s, manyC b 64 s1 = (n, s) := ⟨_, _, rfl⟩
  obtain ⟨J, s3, c3⟩ : ∃ n s, jobsG (parseJ b) m s2 = (n, s) := ⟨_, _, rfl⟩
  obtain ⟨n, s4, c4⟩ : ∃ n s, manyC b 2000 s3 = (n, s) := ⟨_, _, rfl⟩
  obtain ⟨F, s5, c5⟩ : ∃ x s, rowsC b 7 n s4 = (x, s) := ⟨_, _, rfl⟩
  obtain ⟨k, s6, c6⟩ : ∃ n s, manyC b 64 s5 = (n, s) := ⟨_, _, rfl⟩
  obtain ⟨T, s7, c7⟩ : ∃ x s, rowsC b 4 k s6 = (x, s) := ⟨_, _, rfl⟩
  simp only [parseI, c1, c2, c3, c4, c5, c6, c7] at h
  split at h
  · cases h
  · rename_i hc
    simp only [not_or, Bool.not_eq_true, Decidable.not_not] at hc
    have i7 := rowsC_inv (b := b) (w := 4) k (s := s6) (by rw [c7]; exact hc.1)
    rw [c7] at i7
    obtain ⟨h6, f7, t7, l7⟩ := i7
    obtain ⟨h5, f6, l6⟩ := manyC_inv c6 h6
    have i5 := rowsC_inv (b := b) (w := 7) n (s := s4) (by rw [c5]; exact h5)
    rw [c5] at i5
    obtain ⟨h4, f5, t5, l5⟩ := i5
    obtain ⟨h3, f4, l4⟩ := manyC_inv c4 h4
    have i3 := jobsG_inv (b := b) m (s := s2) (by rw [c3]; exact h3)
    rw [c3] at i3
    obtain ⟨h2, f3, t3, l3⟩ := i3
    obtain ⟨h1, f2, l2⟩ := manyC_inv c2 h2
    obtain ⟨-, f1, t1, l1⟩ := rowC_inv c1 h1
    have hH := three_of l1
    simp only at f7 f5 f3 t7 t5 t3 l7 l5 l3 f1
    injection h with h
    subst h
    refine ⟨?_, mayI_of (by simp only; omega) (by simp only [List.length_map]; omega) (by simp only [List.length_map]; omega) fun j hj => (t3 j hj).2.2, ⟨fun j hj => ⟨(t3 j hj).1, (t3 j hj).2.1⟩, ?_, ?_, ?_, fr_lt t5, tl_lt t7⟩⟩
    · unfold putI
      simp only
      rw [flat_frN, flat_tlN, map_frN t5, map_tlN t7, List.length_map, List.length_map, l7, l5, l3, zig_unzig]
      have e : numsB [H.getD 0 0, H.getD 1 0, H.getD 2 0, m] = numsB H ++ putB m := by
        rw [hH]; simp [numsB]
      rw [e, numsB_one, numsB_one, List.append_assoc]
      rw [hc.2, List.drop_length, List.append_nil] at f7
      rw [← f7, ← f6, ← f5, ← f4, ← f3, ← f2, ← f1]
      rfl
    · exact t1 _ (by rw [hH]; simp)
    · exact t1 _ (by rw [hH]; simp)
    · simp only [zig_unzig]
      exact t1 _ (by rw [hH]; simp)
theorem numS_lt (b : List UInt8) (m : Nat) (s : Nat × Bool) : (numS b m s).1 < 18446744073709551616 := by
  have := takeK_lt b s.1
  unfold numS
  split
  · simp
  · exact this
theorem depsS_lt (b : List UInt8) : ∀ (k : Nat) (s : Nat × Bool), ∀ n ∈ (depsS b k s).1, n < 18446744073709551616
  | 0, s, n, h => by simp [depsS] at h
  | k + 1, s, n, h => by
    unfold depsS at h
    rcases List.mem_cons.1 h with rfl | h
    · exact numS_lt b _ s
    · exact depsS_lt b k _ n h
theorem depsT_lt (b : List UInt8) : ∀ (k : Nat) (s : Nat × Bool), ∀ n ∈ (depsT b k s).1, n < 18446744073709551616
  | 0, s, n, h => by simp [depsT] at h
  | k + 1, s, n, h => by
    unfold depsT at h
    split at h
    · simp at h
    · rcases List.mem_cons.1 h with rfl | h
      · exact numS_lt b _ s
      · exact depsT_lt b k _ n h
theorem txtS_le4096 (b : List UInt8) (s : Nat × Bool) : (txtS b s).1.length ≤ 4096 := by
  by_cases h : (txtS b s).2.2 = false
  · exact (txtS_inv h).2.2
  · unfold txtS at h ⊢
    split at h
    · rename_i hc
      rw [if_pos hc]
      simp
    · simp at h
theorem takeJ_ok (b : List UInt8) (s : Nat × Bool) : JbOk (takeJ b s).j ∧ (takeJ b s).j.ex.length ≤ 4096 :=
  ⟨⟨numS_lt b _ s, numS_lt b _ _, depsT_lt b _ _⟩, txtS_le4096 b _⟩
theorem rowsT_ok (b : List UInt8) (w : Nat) : ∀ (k : Nat) (s : Nat × Bool), ∀ l ∈ (rowsT b w k s).1, l.length = w ∧ ∀ n ∈ l, n < 18446744073709551616
  | 0, s, l, h => by simp [rowsT] at h
  | k + 1, s, l, h => by
    unfold rowsT at h
    split at h
    · simp at h
    · rcases List.mem_cons.1 h with rfl | h
      · exact ⟨depsS_len b w s, depsS_lt b w s⟩
      · exact rowsT_ok b w k _ l h
theorem jobsH_ok {f : Nat × Bool → PStep} (hf : ∀ s, JbOk (f s).j ∧ (f s).j.ex.length ≤ 4096) : ∀ (k : Nat) (s : Nat × Bool), ∀ j ∈ (jobsH f k s).1, JbOk j ∧ j.ex.length ≤ 4096
  | 0, s, l, h => by simp [jobsH] at h
  | k + 1, s, l, h => by
    unfold jobsH at h
    split at h
    · simp at h
    · rcases List.mem_cons.1 h with rfl | h
      · exact hf s
      · exact jobsH_ok hf k _ l h
theorem takeI_ok (b : List UInt8) : PtOk (takeI b).1 := by
  obtain ⟨H, s1, c1⟩ : ∃ n s, depsS b 3 (0, false) = (n, s) := ⟨_, _, rfl⟩
  obtain ⟨m, s2, c2⟩ : ∃ n s, numS b any64 s1 = (n, s) := ⟨_, _, rfl⟩
  obtain ⟨J, s3, c3⟩ : ∃ n s, jobsH (takeJ b) (upTo 64 m) s2 = (n, s) := ⟨_, _, rfl⟩
  obtain ⟨n, s4, c4⟩ : ∃ n s, numS b any64 s3 = (n, s) := ⟨_, _, rfl⟩
  obtain ⟨F, s5, c5⟩ : ∃ x s, rowsT b 7 (upTo 2000 n) s4 = (x, s) := ⟨_, _, rfl⟩
  obtain ⟨k, s6, c6⟩ : ∃ n s, numS b any64 s5 = (n, s) := ⟨_, _, rfl⟩
  obtain ⟨T, s7, c7⟩ : ∃ x s, rowsT b 4 (upTo 64 k) s6 = (x, s) := ⟨_, _, rfl⟩
  have d1 := depsS_lt b 3 (0, false)
  have l1 := depsS_len b 3 (0, false)
  have d3 := jobsH_ok (takeJ_ok b) (upTo 64 m) s2
  have d5 := rowsT_ok b 7 (upTo 2000 n) s4
  have d7 := rowsT_ok b 4 (upTo 64 k) s6
  rw [c1] at d1 l1
  rw [c3] at d3
  rw [c5] at d5
  rw [c7] at d7
  simp only at d1 l1 d3 d5 d7
  have hH := three_of l1
  have e : (takeI b).1 = ⟨J, H.getD 2 0, F.map frOf, T.map tlOf, unzig (H.getD 0 0), H.getD 1 0⟩ := by
    simp only [takeI, c1, c2, c3, c4, c5, c6, c7]
  rw [e]
  have m0 : ∀ i, i < 3 → H.getD i 0 ∈ H := fun i hi => by
    rw [List.getD_eq_getElem?_getD, List.getElem?_eq_getElem (by omega)]
    exact List.getElem_mem _
  exact ⟨d3, d1 _ (m0 2 (by decide)), d1 _ (m0 1 (by decide)), by simp only [zig_unzig]; exact d1 _ (m0 0 (by decide)), fr_lt d5, tl_lt d7⟩
theorem parseI_eq (b : List UInt8) : parseIT b = parseI b := by
  rcases h : parseI b with _ | p
  · rcases h2 : parseIT b with _ | p
    · rfl
    · exfalso
      have ok := takeI_ok b
      unfold parseIT at h2
      split at h2
      · cases h2
      · split at h2
        · cases h2
        · rename_i hc
          simp only [not_or, Decidable.not_not] at hc
          have h3 := (parse_putI ok hc.1).1
          rw [hc.2, h] at h3
          cases h3
  · obtain ⟨h1, h2, h3⟩ := parseI_inv h
    have h4 := (parse_putI h3 h2).2
    rw [h1] at h4
    exact h4
end Go.Proofs.YtghlkjkdejebnaaGreatDoor
namespace Go.Proofs.YtghlkjkdejebnaaGreatDoor
open Rg Go
variable {H : Heap}
def Gr (e : TypeId) (sz : Nat) (H0 : Heap) (xs : List AV) (t : Rg.Tok) (K : Heap) : Prop :=
  (((t = .nil ∧ xs = []) ∨ t = .full) ∧ K = H0) ∨ ∃ g cap, H0 g = none ∧ t = .own g cap sz e ∧ K = H0.set g (.open xs.length cap sz e)
theorem Gr.nil {e : TypeId} {sz : Nat} {H0 : Heap} : Gr e sz H0 [] .nil H0 := .inl ⟨.inl ⟨rfl, rfl⟩, rfl⟩
theorem Gr.full {e : TypeId} {sz : Nat} {H0 : Heap} {xs : List AV} : Gr e sz H0 xs .full H0 := .inl ⟨.inr rfl, rfl⟩
theorem Gr.le {e : TypeId} {sz : Nat} {H0 K : Heap} {xs : List AV} {t : Rg.Tok} (h : Gr e sz H0 xs t K) : HLe H0 K := by
  rcases h with ⟨_, rfl⟩ | ⟨g, cap, h1, _, rfl⟩
  · exact HLe.refl _
  · exact (HLe.refl _).set_new h1
theorem Grows.gr {e : TypeId} {sz : Nat} {H0 K : Heap} {xs : List AV} {t : Rg.Tok} (h : Grows H0 xs sz e t K) : Gr e sz H0 xs t K := by
  rcases h with ⟨rfl, rfl, rfl⟩ | h
  · exact .nil
  · exact .inr h
theorem Gr.base {e : TypeId} {sz : Nat} {H0 H1 K : Heap} {xs : List AV} {t : Rg.Tok} (h : Gr e sz H1 xs t K) (hl : HLe H0 H1) : ∃ K', Gr e sz H0 xs t K' ∧ HLe K' K := by
  rcases h with ⟨h1, rfl⟩ | ⟨g, cap, h1, h2, rfl⟩
  · exact ⟨H0, .inl ⟨h1, rfl⟩, hl⟩
  · exact ⟨H0.set g (.open xs.length cap sz e), .inr ⟨g, cap, hl.none h1, h2, rfl⟩, hl.set_mono⟩
theorem AApp.gr {P : Program} {n : Nat} {Q : Post} {ρ : Nat → AV} {k : List AItem} {full : Array Oper} {dst : Option Tmp} {r : List Oper} {T e : TypeId} {xs ys : List AV} {t : Rg.Tok} {sz by_ : Nat} {H0 K : Heap} (he : ElemOk P T e sz by_) (hg : Gr e sz H0 xs t K) (hl : HLe K H)
    (hx : szs sz xs = true) (hy : szs sz ys = true) (hb : (xs.length + ys.length) * by_ ≤ 140737488355328) (hm : xs.length + ys.length ≤ maxLen)
    (h : ∀ t' K' Hn, Gr e sz H0 (xs ++ ys) t' K' → HLe K' Hn → AGo P n Q (.ops full r :: k) (aput n dst (.sl (xs ++ ys) t') ρ) Hn) : AApp P n Q full dst r k ρ H T e xs t ys := by
  rcases hg with ⟨ht, rfl⟩ | hg
  · by_cases h0 : ys = []
    · subst h0
      rw [List.length_nil, Nat.add_zero] at hb hm
      refine AApp.same he hx hb hm ?_
      have := h t K H (.inl ⟨by rwa [List.append_nil], rfl⟩) hl
      rwa [List.append_nil] at this
    · refine AApp.new he (ht.imp And.left id) h0 hx hy hb hm fun g cap hgn => h _ (K.set g (.open (xs ++ ys).length cap sz e)) _ (.inr ⟨g, cap, hl.none hgn, rfl, rfl⟩) ?_
      rw [List.length_append]
      exact hl.set_mono
  · refine AApp.grows0 he (.inr hg) hl hx hy hb hm fun t' K' Hn hg' hl' => h t' K' Hn ?_ hl'
    rcases hg' with ⟨h1, h2, h3⟩ | h1
    · exact .inl ⟨.inl ⟨h2, h1⟩, h3⟩
    · exact .inr h1
theorem set_del_same {H0 : Heap} {g : Nat} {o : AObj} (h : H0 g = none) : (H0.set g o).del g = H0 := by
  funext b
  by_cases hb : b = g
  · subst hb; simp [Heap.del, h]
  · simp [Heap.del, Heap.set, hb]
theorem AApp.grE {P : Program} {n : Nat} {Q : Post} {ρ : Nat → AV} {k : List AItem} {full : Array Oper} {dst : Option Tmp} {r : List Oper} {T e : TypeId} {xs ys : List AV} {t : Rg.Tok} {sz by_ : Nat} {H0 : Heap} (he : ElemOk P T e sz by_) (hg : Gr e sz H0 xs t H)
    (hx : szs sz xs = true) (hy : szs sz ys = true) (hb : (xs.length + ys.length) * by_ ≤ 140737488355328) (hm : xs.length + ys.length ≤ maxLen)
    (h : ∀ t' Hn, Gr e sz H0 (xs ++ ys) t' Hn → AGo P n Q (.ops full r :: k) (aput n dst (.sl (xs ++ ys) t') ρ) Hn) : AApp P n Q full dst r k ρ H T e xs t ys := by
  rcases hg with ⟨ht, rfl⟩ | ⟨g, cap, h1, rfl, rfl⟩
  · by_cases h0 : ys = []
    · subst h0
      rw [List.length_nil, Nat.add_zero] at hb hm
      refine AApp.same he hx hb hm ?_
      have := h t H (.inl ⟨by rwa [List.append_nil], rfl⟩)
      rwa [List.append_nil] at this
    · refine AApp.new he (ht.imp And.left id) h0 hx hy hb hm fun g cap hgn => ?_
      rw [← List.length_append]
      exact h _ _ (.inr ⟨g, cap, hgn, rfl, rfl⟩)
  · refine AApp.own he (by simp [Heap.set]) hx hy hb hm fun g' cap' hgn => ?_
    rw [set_del_same h1] at hgn ⊢
    rw [← List.length_append]
    exact h _ _ (.inr ⟨g', cap', hgn, rfl, rfl⟩)
theorem AWS.gr {P : Program} {n : Nat} {ρ : Nat → AV} {H0 G0 G : Heap} {K : (Nat → AV) → Heap → Prop} {dst : Option Tmp} {T e : TypeId} {xs ys : List AV} {t : Rg.Tok} {sz by_ : Nat} (he : ElemOk P T e sz by_) (hg : Gr e sz G0 xs t G) (hl : HLe G H)
    (hx : szs sz xs = true) (hy : szs sz ys = true) (hb : (xs.length + ys.length) * by_ ≤ 140737488355328) (hm : xs.length + ys.length ≤ maxLen)
    (h : ∀ t' K' Hn, Gr e sz G0 (xs ++ ys) t' K' → HLe K' Hn → K (aput n dst (.sl (xs ++ ys) t') ρ) Hn) : AWS P n H0 K dst ρ H (.app T e xs t ys) := by
  rcases hg with ⟨ht, rfl⟩ | hg
  · refine ⟨sz, by_, he, hx, hy, hb, hm, ?_⟩
    by_cases h0 : ys = []
    · subst h0
      have := h t G H (.inl ⟨by rwa [List.append_nil], rfl⟩) hl
      rw [List.append_nil] at this
      exact .inl ⟨ht.imp And.left id, rfl, this⟩
    · refine .inr (.inl ⟨ht.imp And.left id, h0, fun g cap hgn => h _ (G.set g (.open (xs ++ ys).length cap sz e)) _ (.inr ⟨g, cap, hl.none hgn, rfl, rfl⟩) ?_⟩)
      rw [List.length_append]
      exact hl.set_mono
  · refine AWS.grows0 he (.inr hg) hl hx hy hb hm fun t' K' Hn hg' hl' _ => h t' K' Hn ?_ hl'
    rcases hg' with ⟨h1, h2, h3⟩ | h1
    · exact .inl ⟨.inl ⟨h2, h1⟩, h3⟩
    · exact .inr h1
set_option maxHeartbeats 1000000 in
theorem c_ref1PutK : ∀ (f n : Nat), n < 2 * 128 ^ f → f ≤ 9 → ∀ H : Heap, ACalls Tryz.prog 110 [.sc (.int .u64 (n : Int))] H (fun v K => ∃ t, v = .sl (u8s (putK f n)) t ∧ Gr 5 1 H (u8s (putK f n)) t K) := by
  have low : ∀ n : Nat, n < 128 → ∀ H : Heap, ACalls Tryz.prog 110 [.sc (.int .u64 (n : Int))] H (fun v K => ∃ t, v = .sl (u8s [UInt8.ofNat n]) t ∧ Gr 5 1 H (u8s [UInt8.ofNat n]) t K) := by
    intro n h H
    generalize hR : (fun (v : AV) (K : Heap) => ∃ t, v = .sl (u8s [UInt8.ofNat n]) t ∧ Gr 5 1 H (u8s [UInt8.ofNat n]) t K) = R
    have h' : (n : Int) < 128 := by omega
    have hw : IntKind.u8.wrap (n : Int) = (n : Int) := by rw [IntKind.wrap_u8' (n : Int)]; omega
    have e2 : (UInt8.ofNat n).toNat = n := by simp; omega
    refine ACalls.into Tryz.func110 rfl Tryz.ntmps110 Tryz.results110 (by simp) ?_
    simp -implicitDefEqProofs [h, h', hw]
    subst hR
    refine AFin.intro _ _ (wk_refl _) (HWk.refl _) ⟨.full, ?_, .full⟩
    simp [e2]
  intro f
  induction f with
  | zero => exact fun n hn _ H => low n (by omega) H
  | succ f ih =>
    intro n hn hf H
    by_cases h : n < 128
    · have e : putK (f + 1) n = [UInt8.ofNat n] := by unfold putK; rw [if_pos h]
      rw [e]
      exact low n h H
    · have e : putK (f + 1) n = UInt8.ofNat (n % 128 + 128) :: putK f (n / 128) := by conv => lhs; unfold putK; rw [if_neg h]
      have h' : ¬ (n : Int) < 128 := by omega
      have e2 : (UInt8.ofNat (n % 128 + 128)).toNat = n % 128 + 128 := by simp; omega
      have hw : IntKind.u8.wrap (IntKind.u8.wrap ((n : Int).tmod 128) + 128) = ((UInt8.ofNat (n % 128 + 128)).toNat : Int) := by
        rw [show (n : Int).tmod 128 = ((n % 128 : Nat) : Int) from rfl, e2, IntKind.wrap_u8', IntKind.wrap_u8']
        omega
      generalize hR : (fun (v : AV) (K : Heap) => ∃ t, v = .sl (u8s (putK (f + 1) n)) t ∧ Gr 5 1 H (u8s (putK (f + 1) n)) t K) = R
      have hn64 : n < 18446744073709551616 := by
        have : 128 ^ (f + 1) ≤ 128 ^ 9 := Nat.pow_le_pow_right (by omega) hf
        omega
      have hq : IntKind.u64.wrap ((n : Int) / 128) = ((n / 128 : Nat) : Int) := by rw [wrap_u64 (by omega) (by omega)]; omega
      have hpl := putK_len f (n / 128)
      refine ACalls.into Tryz.func110 rfl Tryz.ntmps110 Tryz.results110 (by simp) ?_
      simp -implicitDefEqProofs [h, h', hw, hq]
      refine ACall.intro (ih (n / 128) (by rw [Nat.pow_succ] at hn; omega) (by omega) H) ?_
      rintro v K ⟨t, rfl, hg⟩
      simp -implicitDefEqProofs
      refine AApp.gr el_28 (xs := u8s [UInt8.ofNat (n % 128 + 128)]) (H0 := K) .full (HLe.refl _) (szs_u8s _) (szs_u8s _) ?_ ?_ fun t' K' Hn hg' hl' => ?_
      · simp only [List.length_map, List.length_cons, List.length_nil]; omega
      · simp only [List.length_map, List.length_cons, List.length_nil, maxLen]; omega
      · simp -implicitDefEqProofs
        obtain ⟨K2, hk2, hl2⟩ := hg'.base hg.le
        subst hR
        refine AFin.intro _ _ (wk_refl _) (hl2.trans hl').wk ⟨t', ?_, ?_⟩
        · rw [e]; rfl
        · rw [e]; exact hk2
theorem c_ref1PutG (n : Nat) (hn : n < 18446744073709551616) : ACalls Tryz.prog 110 [.sc (.int .u64 (n : Int))] H (fun v K => ∃ t, v = .sl (u8s (putB n)) t ∧ Gr 5 1 H (u8s (putB n)) t K) := c_ref1PutK 9 n (by omega) (by omega) H
theorem Gr.told {P : Program} {f : FuncId} {args xs : List AV} {e : TypeId} {sz : Nat} (h : ACalls P f args H (fun v K => ∃ t, v = .sl xs t ∧ Gr e sz H xs t K)) : AOk P f args H (.sl xs .no) H :=
  ACalls.weaken (h.mono fun v K ⟨t, hv, hg⟩ => ⟨_, _, by rw [hv, wk_no]; exact wkL_refl _, hg.le.wk, rfl, rfl⟩)
theorem c_ref1Put (n : Nat) (hn : n < 18446744073709551616) : AOk Tryz.prog 110 [.sc (.int .u64 (n : Int))] H (.sl (u8s (putB n)) .no) H := Gr.told (c_ref1PutG n hn)
theorem c_ref1TakeNeg (b : List UInt8) (t : Rg.Tok) : AOk Tryz.prog 106 [.sl (u8s b) t, .sc (.int .i64 (-1))] H (.tup [.sc (.int .u64 0), .sc (.int .i64 0), .sc (.int .i64 2)]) H := by
  refine ACalls.into Tryz.func106 rfl Tryz.ntmps106 Tryz.results106 (by simp) ?_
  simp -implicitDefEqProofs
set_option maxHeartbeats 2000000 in
theorem c_ref1Take (b : List UInt8) (t : Rg.Tok) (a : Nat) (ha : a ≤ b.length) (hb : b.length ≤ 1000000) : AOk Tryz.prog 106 [.sl (u8s b) t, .sc (.int .i64 (a : Int))] H (tkAV (takeK b a)) H := by
  have ha1 : ¬ (a : Int) < 0 := by omega
  have ha2 : ¬ (b.length : Int) < (a : Int) := by omega
  have ha3 : ¬ b.length < a := by omega
  obtain ⟨L, hL⟩ : ∃ L, b.drop a = L := ⟨_, rfl⟩
  have hLl : L.length = b.length - a := by rw [← hL]; simp
  obtain ⟨res, hres⟩ : ∃ res, takeK b a = res := ⟨_, rfl⟩
  rw [hres]
  refine ACalls.into Tryz.func106 rfl Tryz.ntmps106 Tryz.results106 (by simp) ?_
  simp -implicitDefEqProofs [ha1, ha2, ha3]
  refine AGo.rounds (fun m ρ K => ∃ k, m = L.length - k ∧ k ≤ L.length ∧ k ≤ 10 ∧ (∀ j, j < k → ∀ y, L[j]? = some y → 128 ≤ y.toNat) ∧
    ρ 7 = .sc (.int .u64 ((valK (L.take k) % 18446744073709551616 : Nat) : Int)) ∧ ρ 8 = .sc (.int .u64 ((128 ^ k % 18446744073709551616 : Nat) : Int)) ∧ ρ 9 = .sc (.int .i64 ((a + k : Nat) : Int)) ∧ ρ 0 = .sl (u8s b) t ∧ ρ 1 = .sc (.int .i64 (a : Int)) ∧ K = H) ?_ (m := L.length) (HLe.refl _)
    ⟨0, rfl, by omega, by omega, by simp, by simp [valK], by simp, by simp, by simp, by simp, rfl⟩
  rintro m ρ K ih ⟨k, rfl, hk, hk10, hall, r7, r8, r9, r0, r1, rfl⟩
  have none_ : (L.length ≤ k ∨ k = 10) → res = (0, 0, 4) := fun h => by
    rw [← hres]
    refine takeK_none fun j hj y hy => ?_
    rw [hL] at hy
    have := (List.getElem?_eq_some_iff.1 hy).1
    exact hall j (by omega) y hy
  obtain ⟨q, hq⟩ : ∃ q, a + k = q := ⟨_, rfl⟩
  obtain ⟨vn, hvn⟩ : ∃ v, valK (L.take k) % 18446744073709551616 = v := ⟨_, rfl⟩
  obtain ⟨wn, hwn⟩ : ∃ v, 128 ^ k % 18446744073709551616 = v := ⟨_, rfl⟩
  rw [hq] at r9
  rw [hvn] at r7
  rw [hwn] at r8
  by_cases hlt : k < L.length
  · have hqb : q < b.length := by omega
    have hqb' : (q : Int) < (b.length : Int) := by omega
    have hwa : IntKind.i64.wrap ((a : Int) + 10) = (a : Int) + 10 := wrap_i64 (by omega) (by omega)
    by_cases h10 : k < 10
    · have h10' : (q : Int) < (a : Int) + 10 := by omega
      obtain ⟨x, hej, hx⟩ := getAt hqb
      have hxL : L[k]? = some x := by rw [← hL, List.getElem?_drop, hq, hx]
      have hxn := x.toNat_lt
      have u64w : ∀ m : Nat, IntKind.u64.wrap (m : Int) = ((m % 18446744073709551616 : Nat) : Int) := fun m => by
        have : IntKind.u64.wrap (m : Int) = (m : Int) % 18446744073709551616 := by simp [IntKind.wrap, IntKind.bits, IntKind.signed]
        rw [this]; omega
      have htk : L.take (k + 1) = L.take k ++ [x] := by rw [List.take_add_one, hxL]; rfl
      obtain ⟨vn', hvn'⟩ : ∃ v, valK (L.take (k + 1)) % 18446744073709551616 = v := ⟨_, rfl⟩
      have hs : IntKind.u64.wrap ((vn : Int) + IntKind.u64.wrap (IntKind.u64.wrap ((x.toNat : Int).tmod 128) * (wn : Int))) = (vn' : Int) := by
        rw [show (x.toNat : Int).tmod 128 = ((x.toNat % 128 : Nat) : Int) from rfl, u64w, Nat.mod_eq_of_lt (by omega : x.toNat % 128 < 18446744073709551616), ← Int.natCast_mul, u64w, ← Int.natCast_add, u64w, ← hvn', htk, valK_app, List.length_take, Nat.min_eq_left hk, ← hvn, ← hwn]
        congr 1
        rw [Nat.add_mod, Nat.mod_mod, Nat.mod_mod, Nat.mul_mod_mod, ← Nat.add_mod]
      obtain ⟨wn', hwn'⟩ : ∃ v, 128 ^ (k + 1) % 18446744073709551616 = v := ⟨_, rfl⟩
      have hs2 : IntKind.u64.wrap ((wn : Int) * 128) = (wn' : Int) := by
        rw [← hwn', show (wn : Int) * 128 = ((wn * 128 : Nat) : Int) by omega, u64w, ← hwn, Nat.mod_mul_mod, Nat.pow_succ]
      have hwq : IntKind.i64.wrap ((q : Int) + 1) = (q : Int) + 1 := wrap_i64 (by omega) (by omega)
      by_cases h128 : x.toNat < 128
      · have h128' : (x.toNat : Int) < 128 := by omega
        have hdoc := takeK_doc (b := b) (a := a) (i := k) (x := x) (by rw [hL, hxL]) h128 h10 (by rw [hL]; exact hall)
        rw [hL, hvn', hres] at hdoc
        have hput : AOk Tryz.prog 110 [.sc (.int .u64 (vn' : Int))] K (.sl (u8s (putB vn')) .no) K := c_ref1Put vn' (by rw [← hvn']; exact Nat.mod_lt _ (by omega))
        simp -implicitDefEqProofs [r7, r8, r9, r0, r1, hqb, hqb', hwa, h10', hej, hs, hs2, h128, h128']
        have hae : a + k + 1 = q + 1 := by omega
        rw [hae] at hdoc
        have hcast : ((q + 1 : Nat) : Int) = (q : Int) + 1 := by omega
        refine go_draw 10 f_mixed (by decide +kernel) ?_
        simp -implicitDefEqProofs [r7, r8, r9, r0, r1]
        refine AQS.eq hput ?_
        have hsl : ((L.take (k + 1)).length) = k + 1 := by rw [List.length_take]; omega
        have hpl := putB_len vn'
        have m1 : (putB vn').length ≤ maxLen := by simp only [maxLen]; omega
        have m2 : (L.take (k + 1)).length ≤ maxLen := by simp only [maxLen]; omega
        have q1 : (a : Int) ≤ (q : Int) + 1 := by omega
        have q2 : (q : Int) + 1 ≤ (b.length : Int) := by omega
        have q3 : ((q : Int) + 1).toNat = q + 1 := by omega
        have h6 := szs_drop (szs_u8s b) a
        have h7 : abytes (List.drop a (List.take (q + 1) (u8s b))) = some (L.take (k + 1)) := by
          rw [← List.map_take, ← List.map_drop, List.drop_take, hL, show q + 1 - a = k + 1 by omega]
          exact abytes_u8s _
        simp -implicitDefEqProofs [r7, r8, r9, r0, r1, hwq, aconv, m1, m2, q1, q2, q3, szs_u8s b, h6, h7, abytes_u8s (putB vn')]
        by_cases he : putB vn' = L.take (k + 1)
        · rw [if_pos he] at hdoc
          have hbe : (putB vn' == L.take (k + 1)) = true := by simpa using he
          subst hdoc
          simp -implicitDefEqProofs [hbe, hwq, r9]
        · rw [if_neg he] at hdoc
          have hbe : (putB vn' == L.take (k + 1)) = false := by simpa using he
          subst hdoc
          simp -implicitDefEqProofs [hbe]
      · have h128' : ¬ (x.toNat : Int) < 128 := by omega
        simp -implicitDefEqProofs [r7, r8, r9, r0, r1, hqb, hqb', hwa, h10', hej, hs, hs2, h128, h128', hwq]
        refine AGo.again ih (m' := L.length - (k + 1)) (by omega) (HLe.refl _) ⟨k + 1, rfl, by omega, by omega, fun j hj y hy => ?_, by simp [hvn'], by simp [hwn'], by simp; omega, by simp [r0], by simp [r1], rfl⟩
        rcases Nat.lt_or_ge j k with h | h
        · exact hall j h y hy
        · obtain rfl : j = k := by omega
          rw [hxL] at hy
          cases hy
          omega
    · have h10' : ¬ (q : Int) < (a : Int) + 10 := by omega
      have := none_ (.inr (by omega))
      subst this
      simp -implicitDefEqProofs [r7, r8, r9, r0, r1, hqb, hqb', hwa, h10']
  · have hqb : ¬ q < b.length := by omega
    have hqb' : ¬ (q : Int) < (b.length : Int) := by omega
    have := none_ (.inl (by omega))
    subst this
    simp -implicitDefEqProofs [r7, r8, r9, r0, r1, hqb, hqb']
theorem c_ref1PutInt (n : Int) (h1 : -9223372036854775808 ≤ n) (h2 : n ≤ 9223372036854775807) : ACalls Tryz.prog 102 [.sc (.int .i64 n)] H (fun v K => ∃ t, v = .sl (u8s (putB (zig n))) t ∧ Gr 5 1 H (u8s (putB (zig n))) t K) := by
  have hz := zig_lt h1 h2
  generalize hR : (fun (v : AV) (K : Heap) => ∃ t, v = .sl (u8s (putB (zig n))) t ∧ Gr 5 1 H (u8s (putB (zig n))) t K) = R
  by_cases h : 0 ≤ n
  · have e1 : IntKind.u64.wrap (2 * IntKind.u64.wrap n) = ((zig n : Nat) : Int) := by
      unfold zig
      have a1 : IntKind.u64.wrap n = n := wrap_u64 (by omega) (by omega)
      rw [if_pos h, a1, wrap_u64 (by omega) (by omega)]
      omega
    refine ACalls.into Tryz.func102 rfl Tryz.ntmps102 Tryz.results102 (by simp) ?_
    simp -implicitDefEqProofs [h, e1]
    refine ACall.intro (c_ref1PutG (zig n) hz) ?_
    rintro v K ⟨t, rfl, hg⟩
    simp -implicitDefEqProofs
    subst hR
    exact AFin.intro _ _ (wk_refl _) (HWk.refl _) ⟨t, rfl, hg⟩
  · have e0 : IntKind.i64.wrap (n + 1) = n + 1 := wrap_i64 (by omega) (by omega)
    have e0' : IntKind.i64.wrap (-(n + 1)) = -(n + 1) := wrap_i64 (by omega) (by omega)
    have e1 : IntKind.u64.wrap (IntKind.u64.wrap (2 * IntKind.u64.wrap (-(n + 1))) + 1) = ((zig n : Nat) : Int) := by
      unfold zig
      have a1 : IntKind.u64.wrap (-(n + 1)) = -(n + 1) := wrap_u64 (by omega) (by omega)
      have a2 : IntKind.u64.wrap (2 * -(n + 1)) = 2 * -(n + 1) := wrap_u64 (by omega) (by omega)
      rw [if_neg h, a1, a2, wrap_u64 (by omega) (by omega)]
      omega
    refine ACalls.into Tryz.func102 rfl Tryz.ntmps102 Tryz.results102 (by simp) ?_
    simp -implicitDefEqProofs [h, e0, e0', e1]
    refine ACall.intro (c_ref1PutG (zig n) hz) ?_
    rintro v K ⟨t, rfl, hg⟩
    simp -implicitDefEqProofs
    subst hR
    exact AFin.intro _ _ (wk_refl _) (HWk.refl _) ⟨t, rfl, hg⟩
theorem c_ref1TakeIntNeg (b : List UInt8) (t : Rg.Tok) : AOk Tryz.prog 111 [.sl (u8s b) t, .sc (.int .i64 (-1))] H (.tup [.sc (.int .i64 0), .sc (.int .i64 0), .sc (.int .i64 2)]) H := by
  refine ACalls.into Tryz.func111 rfl Tryz.ntmps111 Tryz.results111 (by simp) ?_
  simp -implicitDefEqProofs
  refine ACall.eq (c_ref1TakeNeg b t) ?_
  have hw : IntKind.i64.wrap (IntKind.u64.wrap 0) = 0 := by decide
  simp -implicitDefEqProofs [hw]
theorem c_ref1TakeInt (b : List UInt8) (t : Rg.Tok) (a : Nat) (ha : a ≤ b.length) (hb : b.length ≤ 1000000) : AOk Tryz.prog 111 [.sl (u8s b) t, .sc (.int .i64 (a : Int))] H (tiAV (takeK b a)) H := by
  have hlt := takeK_lt b a
  refine ACalls.into Tryz.func111 rfl Tryz.ntmps111 Tryz.results111 (by simp) ?_
  simp -implicitDefEqProofs
  refine ACall.eq (c_ref1Take b t a ha hb) ?_
  obtain ⟨n, nx, e, hp⟩ : ∃ n nx e, takeK b a = (n, nx, e) := ⟨_, _, _, rfl⟩
  rw [hp] at hlt ⊢
  simp only at hlt ⊢
  have w0 : (n : Int).tmod 2 = ((n % 2 : Nat) : Int) := rfl
  have w1 : IntKind.i64.wrap (IntKind.u64.wrap ((n : Int) / 2)) = ((n / 2 : Nat) : Int) := by rw [wrap_u64 (by omega) (by omega), wrap_i64 (by omega) (by omega)]; omega
  have w2 : IntKind.i64.wrap (-((n / 2 : Nat) : Int)) = -((n / 2 : Nat) : Int) := wrap_i64 (by omega) (by omega)
  have w3 : IntKind.i64.wrap (-((n / 2 : Nat) : Int) - 1) = -((n / 2 : Nat) : Int) - 1 := wrap_i64 (by omega) (by omega)
  by_cases h : n % 2 = 0
  · have h' : ((n % 2 : Nat) : Int) = 0 := by omega
    have e : unzig n = ((n / 2 : Nat) : Int) := if_pos h
    rw [tiAV, e]
    simp -implicitDefEqProofs [w0, h', w1, h]
  · have h' : ¬ ((n % 2 : Nat) : Int) = 0 := by omega
    have h1 : n % 2 = 1 := by omega
    have e : unzig n = -((n / 2 : Nat) : Int) - 1 := by unfold unzig; rw [if_neg h]; omega
    rw [tiAV, e]
    simp -implicitDefEqProofs [w0, h', w1, w2, w3, h, h1]
    rw [show (n : Int) / 2 = ((n / 2 : Nat) : Int) by omega, w2, w3]
theorem c_ref1PutText (s : List UInt8) (hs : s.length ≤ 4096) : ACalls Tryz.prog 131 [str s] H (fun v K => ∃ t, v = .tup [.sl (u8s (putTextB s)) t, .sc (.int .i64 0)] ∧ Gr 5 1 H (u8s (putTextB s)) t K) := by
  generalize hR : (fun (v : AV) (K : Heap) => ∃ t, v = .tup [.sl (u8s (putTextB s)) t, .sc (.int .i64 0)] ∧ Gr 5 1 H (u8s (putTextB s)) t K) = R
  have h1 : ¬ (4096 : Int) < (s.length : Int) := by omega
  have h2 : ¬ 4096 < s.length := by omega
  have hw : IntKind.u64.wrap (s.length : Int) = (s.length : Int) := wrap_u64 (by omega) (by omega)
  refine ACalls.into Tryz.func131 rfl Tryz.ntmps131 Tryz.results131 (by simp) ?_
  simp -implicitDefEqProofs [h1, h2, hw]
  refine ACall.intro (c_ref1PutG s.length (by omega)) ?_
  rintro v K ⟨t, rfl, hg⟩
  have hml : s.length ≤ maxLen := by simp only [maxLen]; omega
  have hpl := putB_len s.length
  simp -implicitDefEqProofs [aconv, hml]
  refine AApp.gr el_28 hg (HLe.refl _) (szs_u8s _) (szs_u8s _) (by simp only [List.length_map]; omega) (by simp only [List.length_map, maxLen]; omega) fun t' K' Hn hg' hl' => ?_
  rw [← u8s_app, show putB s.length ++ s = putTextB s from rfl] at hg' ⊢
  simp -implicitDefEqProofs
  subst hR
  exact AFin.intro _ _ (wk_refl _) hl'.wk ⟨t', rfl, hg'⟩
theorem c_ref1TakeTextNeg (b : List UInt8) (t : Rg.Tok) : AOk Tryz.prog 139 [.sl (u8s b) t, .sc (.int .i64 (-1))] H (.tup [str [], .sc (.int .i64 0), .sc (.int .i64 2)]) H := by
  refine ACalls.into Tryz.func139 rfl Tryz.ntmps139 Tryz.results139 (by simp) ?_
  simp -implicitDefEqProofs
  refine ACall.eq (c_ref1TakeNeg b t) ?_
  simp -implicitDefEqProofs
set_option maxHeartbeats 1000000 in
theorem c_ref1TakeText (b : List UInt8) (t : Rg.Tok) (a : Nat) (ha : a ≤ b.length) (hb : b.length ≤ 1000000) : AOk Tryz.prog 139 [.sl (u8s b) t, .sc (.int .i64 (a : Int))] H (txAV (takeTextK b a)) H := by
  have hle := takeK_le b a ha
  have hlt := takeK_lt b a
  refine ACalls.into Tryz.func139 rfl Tryz.ntmps139 Tryz.results139 (by simp) ?_
  simp -implicitDefEqProofs
  refine ACall.eq (c_ref1Take b t a ha hb) ?_
  obtain ⟨n, nx, e, hp⟩ : ∃ n nx e, takeK b a = (n, nx, e) := ⟨_, _, _, rfl⟩
  unfold takeTextK
  rw [hp] at hle hlt ⊢
  simp only at hle hlt ⊢
  by_cases he : e = 0
  · subst he
    by_cases h1 : 4096 < n
    · have h1' : (4096 : Int) < (n : Int) := by omega
      simp -implicitDefEqProofs [h1, h1']
    · have h1' : ¬ (4096 : Int) < (n : Int) := by omega
      have hw : IntKind.i64.wrap ((b.length : Int) - (nx : Int)) = ((b.length - nx : Nat) : Int) := by rw [wrap_i64 (by omega) (by omega)]; omega
      have hw3 : IntKind.i64.wrap (n : Int) = (n : Int) := wrap_i64 (by omega) (by omega)
      have hw4 : IntKind.i64.wrap ((nx : Int) + (n : Int)) = (nx : Int) + (n : Int) := wrap_i64 (by omega) (by omega)
      by_cases h2 : b.length - nx < n
      · have h2' : ((b.length - nx : Nat) : Int) < (n : Int) := by omega
        simp -implicitDefEqProofs [h1, h1', hw, hw3, h2, h2']
      · have h2' : ¬ ((b.length - nx : Nat) : Int) < (n : Int) := by omega
        have q1 : (nx : Int) ≤ (nx : Int) + (n : Int) := by omega
        have q2 : (nx : Int) + (n : Int) ≤ (b.length : Int) := by omega
        have q3 : ((nx : Int) + (n : Int)).toNat = nx + n := by omega
        have hcast : ((nx + n : Nat) : Int) = (nx : Int) + (n : Int) := by omega
        have m1 : ((b.drop nx).take n).length ≤ maxLen := by simp only [maxLen, List.length_take, List.length_drop]; omega
        have h7 : abytes (List.drop nx (List.take (nx + n) (u8s b))) = some ((b.drop nx).take n) := by
          rw [← List.map_take, ← List.map_drop, List.drop_take, Nat.add_sub_cancel_left]
          exact abytes_u8s _
        simp -implicitDefEqProofs [h1, h1', hw, hw3, hw4, h2, h2', q1, q2, q3, szs_u8s b, m1, h7, aconv]
  · have he' : ¬ (e : Int) = 0 := by omega
    simp -implicitDefEqProofs [he, he']
end Go.Proofs.YtghlkjkdejebnaaGreatDoor
namespace Go.Proofs.YtghlkjkdejebnaaGreatDoor
open Rg Go
variable {H : Heap}
def tkAt (s : Nat × Bool) : Int := if s.2 = true then -1 else (s.1 : Int)
theorem tkAt_bad (a : Nat) : tkAt (a, true) = -1 := rfl
theorem tkAt_ok (a : Nat) : tkAt (a, false) = (a : Int) := rfl
abbrev tkC (b : List UInt8) (t : Rg.Tok) (s : Nat × Bool) : List AV := [.sl (u8s b) t, .sc (.int .i64 (tkAt s))]
abbrev tkO (b : List UInt8) (t : Rg.Tok) (s : Nat × Bool) : AObj := .cells (tkC b t s) 91
set_option maxHeartbeats 1000000 in
theorem c_tNum {b : List UInt8} {t : Rg.Tok} {p : Nat} {K : Heap} {s : Nat × Bool} (h : K p = some (tkO b t s)) (hs : s.1 ≤ b.length) (hb : b.length ≤ 1000000) :
    AOk Tryz.prog 56 [.sc (.pointer (some ⟨p, 0, none⟩))] K (.sc (.int .u64 ((numS b 18446744073709551615 s).1 : Int))) (K.set p (tkO b t (numS b 18446744073709551615 s).2)) := by
  obtain ⟨a, bad⟩ := s
  cases bad with
  | true =>
    rw [numS_bad b _ _ rfl]
    simp only [tkO, tkC, tkAt_bad] at h ⊢
    refine ACalls.into Tryz.func56 rfl Tryz.ntmps56 Tryz.results56 (by simp) ?_
    simp -implicitDefEqProofs [h]
    refine go_draw 16 f_mixed (by decide +kernel) ?_
    simp -implicitDefEqProofs [h]
    refine AQS.eq (c_ref1TakeNeg b t) ?_
    simp -implicitDefEqProofs [h]
  | false =>
    have hlt := takeK_lt b a
    have hc := c_ref1Take (H := K) b t a hs hb
    obtain ⟨n, nx, e, hp⟩ : ∃ n nx e, takeK b a = (n, nx, e) := ⟨_, _, _, rfl⟩
    unfold numS
    simp only [tkO, tkC, tkAt_ok, hp] at h hc hlt ⊢
    by_cases he : e = 0
    · subst he
      have hn : ¬ (18446744073709551615 < n) := by omega
      refine ACalls.into Tryz.func56 rfl Tryz.ntmps56 Tryz.results56 (by simp) ?_
      simp -implicitDefEqProofs [h]
      refine go_draw 16 f_mixed (by decide +kernel) ?_
      simp -implicitDefEqProofs [h]
      refine AQS.eq hc ?_
      simp -implicitDefEqProofs [h, hn, tkAt_ok]
    · have he' : ¬ (e : Int) = 0 := by omega
      refine ACalls.into Tryz.func56 rfl Tryz.ntmps56 Tryz.results56 (by simp) ?_
      simp -implicitDefEqProofs [h]
      refine go_draw 16 f_mixed (by decide +kernel) ?_
      simp -implicitDefEqProofs [h]
      refine AQS.eq hc ?_
      simp -implicitDefEqProofs [h, he, he', tkAt_bad]
set_option maxHeartbeats 1000000 in
theorem c_tText {b : List UInt8} {t : Rg.Tok} {p : Nat} {K : Heap} {s : Nat × Bool} (h : K p = some (tkO b t s)) (hs : s.1 ≤ b.length) (hb : b.length ≤ 1000000) :
    AOk Tryz.prog 112 [.sc (.pointer (some ⟨p, 0, none⟩))] K (str (txtS b s).1) (K.set p (tkO b t (txtS b s).2)) := by
  obtain ⟨a, bad⟩ := s
  cases bad with
  | true =>
    rw [txtS_bad b _ rfl]
    simp only [tkO, tkC, tkAt_bad] at h ⊢
    refine ACalls.into Tryz.func112 rfl Tryz.ntmps112 Tryz.results112 (by simp) ?_
    simp -implicitDefEqProofs [h]
    refine go_draw 16 f_mixed (by decide +kernel) ?_
    simp -implicitDefEqProofs [h]
    refine AQS.eq (c_ref1TakeTextNeg b t) ?_
    simp -implicitDefEqProofs [h]
  | false =>
    have hc := c_ref1TakeText (H := K) b t a hs hb
    obtain ⟨n, nx, e, hp⟩ : ∃ n nx e, takeTextK b a = (n, nx, e) := ⟨_, _, _, rfl⟩
    unfold txtS
    simp only [tkO, tkC, tkAt_ok, hp] at h hc ⊢
    by_cases he : e = 0
    · subst he
      refine ACalls.into Tryz.func112 rfl Tryz.ntmps112 Tryz.results112 (by simp) ?_
      simp -implicitDefEqProofs [h]
      refine go_draw 16 f_mixed (by decide +kernel) ?_
      simp -implicitDefEqProofs [h]
      refine AQS.eq hc ?_
      simp -implicitDefEqProofs [h, tkAt_ok]
    · have he' : ¬ (e : Int) = 0 := by omega
      refine ACalls.into Tryz.func112 rfl Tryz.ntmps112 Tryz.results112 (by simp) ?_
      simp -implicitDefEqProofs [h]
      refine go_draw 16 f_mixed (by decide +kernel) ?_
      simp -implicitDefEqProofs [h]
      refine AQS.eq hc ?_
      simp -implicitDefEqProofs [h, he, he', tkAt_bad]
set_option maxHeartbeats 1000000 in
theorem c_tInt {b : List UInt8} {t : Rg.Tok} {p : Nat} {K : Heap} {s : Nat × Bool} (h : K p = some (tkO b t s)) (hs : s.1 ≤ b.length) (hb : b.length ≤ 1000000) :
    AOk Tryz.prog 71 [.sc (.pointer (some ⟨p, 0, none⟩))] K (.sc (.int .i64 (intS b s).1)) (K.set p (tkO b t (intS b s).2)) := by
  obtain ⟨a, bad⟩ := s
  cases bad with
  | true =>
    have e : intS b (a, true) = (0, a, true) := by unfold intS; rw [if_pos (.inl rfl)]
    rw [e]
    simp only [tkO, tkC, tkAt_bad] at h ⊢
    refine ACalls.into Tryz.func71 rfl Tryz.ntmps71 Tryz.results71 (by simp) ?_
    simp -implicitDefEqProofs [h]
    refine go_draw 16 f_mixed (by decide +kernel) ?_
    simp -implicitDefEqProofs [h]
    refine AQS.eq (c_ref1TakeIntNeg b t) ?_
    simp -implicitDefEqProofs [h]
  | false =>
    have hc := c_ref1TakeInt (H := K) b t a hs hb
    obtain ⟨n, nx, e, hp⟩ : ∃ n nx e, takeK b a = (n, nx, e) := ⟨_, _, _, rfl⟩
    unfold intS
    simp only [tkO, tkC, tkAt_ok, hp] at h hc ⊢
    by_cases he : e = 0
    · subst he
      refine ACalls.into Tryz.func71 rfl Tryz.ntmps71 Tryz.results71 (by simp) ?_
      simp -implicitDefEqProofs [h]
      refine go_draw 16 f_mixed (by decide +kernel) ?_
      simp -implicitDefEqProofs [h]
      refine AQS.eq hc ?_
      simp -implicitDefEqProofs [h, tkAt_ok]
    · have he' : ¬ (e : Int) = 0 := by omega
      refine ACalls.into Tryz.func71 rfl Tryz.ntmps71 Tryz.results71 (by simp) ?_
      simp -implicitDefEqProofs [h]
      refine go_draw 16 f_mixed (by decide +kernel) ?_
      simp -implicitDefEqProofs [h]
      refine AQS.eq hc ?_
      simp -implicitDefEqProofs [h, he, he', tkAt_bad]
theorem c_tSmall {b : List UInt8} {t : Rg.Tok} {p : Nat} {K : Heap} {s : Nat × Bool} (h : K p = some (tkO b t s)) (hs : s.1 ≤ b.length) (hb : b.length ≤ 1000000) :
    AOk Tryz.prog 113 [.sc (.pointer (some ⟨p, 0, none⟩))] K (.sc (.int .i64 ((capS b s).1 : Int))) (K.set p (tkO b t (capS b s).2)) := by
  have hc := c_tNum h hs hb
  unfold capS
  obtain ⟨n, s', hp⟩ : ∃ n s', numS b 18446744073709551615 s = (n, s') := ⟨_, _, rfl⟩
  simp only [hp] at hc ⊢
  refine ACalls.into Tryz.func113 rfl Tryz.ntmps113 Tryz.results113 (by simp) ?_
  simp -implicitDefEqProofs
  refine ACall.eq hc ?_
  by_cases hn : 1099511627776 < n
  · have hn' : (1099511627776 : Int) < (n : Int) := by omega
    rw [Nat.min_eq_right (by omega)]
    simp -implicitDefEqProofs [hn, hn']
  · have hn' : ¬ (1099511627776 : Int) < (n : Int) := by omega
    have hw : IntKind.i64.wrap (n : Int) = (n : Int) := wrap_i64 (by omega) (by omega)
    rw [Nat.min_eq_left (by omega)]
    simp -implicitDefEqProofs [hn, hn', hw]
structure TInv (B : Heap) (b : List UInt8) (t : Rg.Tok) (p pj : Nat) (s : Nat × Bool) (j : Jb) (t0 : Rg.Tok) (K : Heap) : Prop where
  tk : K p = some (tkO b t s)
  row : RowAt 22 25 B pj j.deps.length (jbC j) K
  cell : K pj = some (.cells (jbC j t0) 25)
  p0 : B p = none
  np : p ≠ pj
  le : s.1 ≤ b.length
section
variable {B : Heap} {b : List UInt8} {t : Rg.Tok} {p pj : Nat} {s : Nat × Bool} {j : Jb} {t0 : Rg.Tok} {K : Heap}
theorem TInv.upd (h : TInv B b t p pj s j t0 K) {s' : Nat × Bool} (hs : s'.1 ≤ b.length) : TInv B b t p pj s' j t0 (K.set p (tkO b t s')) :=
  ⟨by simp [Heap.set], h.row.set h.p0 h.tk h.np, by simp [Heap.set, Ne.symm h.np, h.cell], h.p0, h.np, hs⟩
theorem TInv.put (h : TInv B b t p pj s j t0 K) {j' : Jb} (hd : j'.deps = j.deps) : TInv B b t p pj s j' t0 (K.set pj (.cells (jbC j' t0) 25)) := by
  refine ⟨by simp [Heap.set, h.np, h.tk], ?_, by simp [Heap.set], h.p0, h.np, h.le⟩
  rw [hd]
  exact h.row.put h.cell fun t' ht => jbC_inj ht
theorem TInv.app (h : TInv B b t p pj s j t0 K) (n : Nat) : ∃ G0 G, Grows G0 (u64s j.deps) 1 22 t0 G ∧ HLe G K ∧ ∀ t' K' Hn, Grows G0 (u64s (j.deps ++ [n])) 1 22 t' K' → HLe K' Hn →
    Hn pj = some (.cells (jbC j t0) 25) ∧ TInv B b t p pj s { j with deps := j.deps ++ [n] } t' (Hn.set pj (.cells (jbC { j with deps := j.deps ++ [n] } t') 25)) := by
  have hr := h.row
  rw [show j.deps.length = (u64s j.deps).length by simp] at hr
  obtain ⟨t1, G0, G, c1, hg, hl, hl0, c2, hp⟩ := hr.grows
  rw [h.cell] at c1
  simp only [Option.some.injEq, AObj.cells.injEq] at c1
  obtain rfl := jbC_inj c1.1
  refine ⟨G0, G, hg, hl, fun t' K' Hn hg' hl' => ?_⟩
  have keep : ∀ p cs T', K p = some (.cells cs T') → Hn p = some (.cells cs T') := fun p cs T' hh => hl' p _ (hg'.le p _ (hp p cs T' hh))
  refine ⟨keep _ _ _ h.cell, by simp [Heap.set, h.np, keep _ _ _ h.tk], ?_, by simp [Heap.set], h.p0, h.np, h.le⟩
  have := RowAt.stored (T := 25) (F := jbC { j with deps := j.deps ++ [n] }) hl0 h.row.no c2 hg' hl'
  simpa using this
end
theorem intS_le (b : List UInt8) (s : Nat × Bool) (h : s.1 ≤ b.length) : (intS b s).2.1 ≤ b.length := by
  unfold intS
  split
  · exact h
  · exact takeK_le b s.1 h
theorem depsT_le (b : List UInt8) : ∀ k s, s.1 ≤ b.length → (depsT b k s).2.1 ≤ b.length
  | 0, s, h => h
  | k + 1, s, h => by
    unfold depsT
    split
    · exact h
    · exact depsT_le b k _ (numS_le b _ s h).1
end Go.Proofs.YtghlkjkdejebnaaGreatDoor
