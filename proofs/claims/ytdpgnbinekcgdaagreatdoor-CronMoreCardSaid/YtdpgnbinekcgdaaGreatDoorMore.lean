/- What a text's expression is, and its text, in plain words: short, and parsed back. -/
import Derived.Test.YtdpgnbinekcgdaaGreatDoorCronFits
namespace Go.Proofs.YtdpgnbinekcgdaaGreatDoor
open Rg Go

theorem cost_T {b : Nat} (hb : b < 18446744073709551616) {T : Nat} (hT : T ≤ 59) (hr : ∀ j, b.testBit j = true → j ≤ T) : ∀ (f a n : Nat), firstB b a = some n → cost (pieces2 b f a) ≤ 2 * (T + 3 - n)
  | 0, a, n, _ => by simp [pieces2, cost, Lib.lens]
  | f + 1, a, n, hf => by
    unfold pieces2
    rw [hf]
    obtain ⟨n1, n2, n3, n4⟩ := firstB_some hb hf
    obtain ⟨e1, e2⟩ := runEnd_le b 64 n n2
    obtain ⟨e3, e4⟩ := runEnd_bits hb 64 n n3
    simp only
    generalize runEnd b 64 n = e at *
    have hn := hr n n3
    have he := hr e (e3 e e1 (Nat.le_refl _))
    have hrest : cost (pieces2 b f (e + 1)) ≤ 2 * (T + 1 - e) := by
      cases hf2 : firstB b ((e + 1 : Nat) : Int) with
      | none =>
        cases f with
        | zero => simp [pieces2, cost, Lib.lens]
        | succ f => unfold pieces2; rw [hf2]; simp [cost, Lib.lens]
      | some n' =>
        have h1 := cost_T hb hT hr f (e + 1) n' hf2
        obtain ⟨m1, m2, m3, m4⟩ := firstB_some hb hf2
        simp only [Int.toNat_natCast] at m1
        have : n' ≠ e + 1 := by rintro rfl; rw [e4 (by omega)] at m3; cases m3
        omega
    have hlen : ∀ i, i < 60 → (dec2 i).length ≤ 2 := fun i hi => (dec_facts i hi).2.2.2.2.2.2.2.1
    rw [cost_app]
    split
    · have h1 := hlen n (by omega)
      have h2 := hlen e (by omega)
      have : cost [dec2 n ++ [45] ++ dec2 e] ≤ 6 := by simp [cost, Lib.lens]; omega
      omega
    · have : ∀ c m, m + c ≤ 60 → cost ((List.range' m c).map dec2) ≤ 3 * c := by
        intro c
        induction c with
        | zero => intro m _; simp [cost, Lib.lens]
        | succ c ih =>
          intro m hm
          rw [List.range'_succ, List.map_cons]
          have h1 := ih (m + 1) (by omega)
          have h2 := hlen m (by omega)
          simp [cost, Lib.lens] at h1 ⊢
          omega
      have := this (e + 1 - n) n (by omega)
      omega
theorem join_cost (L : List (List UInt8)) (y : UInt8) : (Lib.join L [y]).length ≤ cost L := by
  cases L with
  | nil => simp [Lib.join_nil]
  | cons x r =>
    rw [Lib.join_length, List.length_singleton]
    simp [cost, Lib.lens]
    omega
/-- A field's text is short. -/
theorem text_short {k : Int} {f : Fld} (hb : f.bits < 18446744073709551616) (h : mayB k f.bits = true) {T : Nat} (hT : mostK k = (T : Int)) : (textK k f).length ≤ 2 * (T + 3) := by
  obtain ⟨hk, h0, hr⟩ := may_bits hb h
  have hbd := bounds_le hk
  rw [text_eq k hb]
  unfold text2
  rw [if_neg (by simp [h])]
  split
  · simp; omega
  · refine Nat.le_trans (join_cost _ _) ?_
    cases hf : firstB f.bits ((0 : Nat) : Int) with
    | none => unfold pieces2; rw [hf]; simp [cost, Lib.lens]
    | some n =>
      have := cost_T hb (T := T) (by omega) (fun j hj => by have := hr j hj; omega) 66 0 n hf
      omega

theorem parse_may {k : Int} {s : List UInt8} (h : (parseK k s).2 = 0) : mayB k (parseK k s).1.bits = true := by
  cases hk : isK k with
  | false => unfold parseK at h; rw [if_pos hk] at h; exact absurd h (by decide)
  | true =>
    by_cases hs : 150 < s.length
    · unfold parseK at h; rw [if_neg (by simp [hk]), if_pos hs] at h; exact absurd h (by decide)
    · rw [parse_eq hk (by omega)] at h ⊢
      by_cases h1 : firstErr k (sp 44 s) = 0
      · rw [if_neg (by simp [h1])]
        obtain ⟨a1, a2⟩ := orAll_ok hk h1
        exact may_of hk (a1 (sp_ne _ _)) a2
      · rw [if_pos h1] at h
        exact absurd h h1
theorem set_ok {x : Ex} (hx : x.ok) (j : Nat) {f : Fld} (hf : f.bits < 18446744073709551616) : (x.set j f).ok := by
  unfold Ex.set
  split <;> exact ⟨by first | exact hf | exact hx.a, by first | exact hf | exact hx.b, by first | exact hf | exact hx.c, by first | exact hf | exact hx.d, by first | exact hf | exact hx.e⟩
theorem ex0_ok : ex0.ok := ⟨by decide, by decide, by decide, by decide, by decide⟩
theorem goX_lt : ∀ (L : List (List UInt8)) (j : Nat) (x : Ex), x.ok → (goX L j x).1.ok
  | [], _, _, h => h
  | p :: r, j, x, h => by
    unfold goX
    split
    · exact ex0_ok
    · exact goX_lt r _ _ (set_ok h _ (parse_lt _ _))
theorem cronB_lt (s : List UInt8) : (cronB s).1.ok := by
  unfold cronB
  by_cases h1 : (sp 32 s).length ≠ 5
  · rw [if_pos h1]; exact ex0_ok
  · rw [if_neg h1]
    by_cases h2 : [] ∈ sp 32 s
    · rw [if_pos h2]; exact ex0_ok
    · rw [if_neg h2]; exact goX_lt _ _ _ ex0_ok
theorem cronK_lt (s : List UInt8) : (cronK s).1.ok := by
  unfold cronK
  by_cases h : 400 < s.length
  · rw [if_pos h]; exact ex0_ok
  · rw [if_neg h]; exact cronB_lt _
theorem go5 {p0 p1 p2 p3 p4 : List UInt8} : goX [p0, p1, p2, p3, p4] 0 ex0 =
    if (parseK 0 p0).2 ≠ 0 then (ex0, (parseK 0 p0).2) else if (parseK 1 p1).2 ≠ 0 then (ex0, (parseK 1 p1).2) else if (parseK 2 p2).2 ≠ 0 then (ex0, (parseK 2 p2).2)
    else if (parseK 3 p3).2 ≠ 0 then (ex0, (parseK 3 p3).2) else if (parseK 4 p4).2 ≠ 0 then (ex0, (parseK 4 p4).2) else (⟨(parseK 0 p0).1, (parseK 1 p1).1, (parseK 2 p2).1, (parseK 3 p3).1, (parseK 4 p4).1⟩, 0) := rfl
theorem cronB_may {s : List UInt8} (h : (cronB s).2 = 0) : mayX (cronB s).1 = true := by
  unfold cronB at h ⊢
  by_cases h1 : (sp 32 s).length ≠ 5
  · rw [if_pos h1] at h; exact absurd h (by decide)
  · rw [if_neg h1] at h ⊢
    by_cases h2 : [] ∈ sp 32 s
    · rw [if_pos h2] at h; exact absurd h (by decide)
    · rw [if_neg h2] at h ⊢
      have h3 : (sp 32 s).length = 5 := by omega
      generalize sp 32 s = L at *
      match L, h3 with
      | [p0, p1, p2, p3, p4], _ =>
        rw [go5] at h ⊢
        by_cases e0 : (parseK 0 p0).2 = 0
        · by_cases e1 : (parseK 1 p1).2 = 0
          · by_cases e2 : (parseK 2 p2).2 = 0
            · by_cases e3 : (parseK 3 p3).2 = 0
              · by_cases e4 : (parseK 4 p4).2 = 0
                · rw [if_neg (by simp [e0]), if_neg (by simp [e1]), if_neg (by simp [e2]), if_neg (by simp [e3]), if_neg (by simp [e4])]
                  simp [mayX, parse_may e0, parse_may e1, parse_may e2, parse_may e3, parse_may e4]
                · simp [e0, e1, e2, e3, e4] at h
              · simp [e0, e1, e2, e3] at h
            · simp [e0, e1, e2] at h
          · simp [e0, e1] at h
        · simp [e0] at h
theorem cronK_may {s : List UInt8} (h : (cronK s).2 = 0) : mayX (cronK s).1 = true := by
  unfold cronK at h ⊢
  split at h
  · exact absurd h (by decide)
  · rw [if_neg (by assumption)]
    exact cronB_may h

/-! ### Its text -/
theorem dec_more : ∀ n, n < 60 → ∀ c ∈ dec2 n, c ≠ 32 ∧ c ≠ 64 := by decide +kernel
theorem join_mem {c y : UInt8} : ∀ {L : List (List UInt8)}, c ∈ Lib.join L [y] → c = y ∨ ∃ x ∈ L, c ∈ x
  | [], h => by simp [Lib.join_nil] at h
  | [x], h => by rw [Lib.join_one] at h; exact .inr ⟨x, by simp, h⟩
  | x :: z :: r, h => by
    rw [join_cons2] at h
    rcases List.mem_append.1 h with h | h
    · exact .inr ⟨x, by simp, h⟩
    · rcases List.mem_cons.1 h with h | h
      · exact .inl h
      · rcases join_mem h with h | ⟨w, hw, h⟩
        · exact .inl h
        · exact .inr ⟨w, List.mem_cons_of_mem _ hw, h⟩
theorem piece_more {b : Nat} (hb : b < 18446744073709551616) (hr : ∀ j, b.testBit j = true → j ≤ 59) : ∀ (f a : Nat), ∀ x ∈ pieces2 b f a, ∀ c ∈ x, c ≠ 32 ∧ c ≠ 64
  | 0, a, x, h => by simp [pieces2] at h
  | f + 1, a, x, h => by
    unfold pieces2 at h
    cases hf : firstB b a with
    | none => rw [hf] at h; simp at h
    | some n =>
      rw [hf] at h
      obtain ⟨n1, n2, n3, n4⟩ := firstB_some hb hf
      obtain ⟨e1, e2⟩ := runEnd_le b 64 n n2
      obtain ⟨e3, e4⟩ := runEnd_bits hb 64 n n3
      simp only at h
      generalize runEnd b 64 n = e at *
      have hn := hr n n3
      have he := hr e (e3 e e1 (Nat.le_refl _))
      rcases List.mem_append.1 h with h | h
      · split at h
        · simp only [List.mem_singleton] at h
          subst h
          intro c hc
          rcases List.mem_append.1 hc with hc | hc
          · rcases List.mem_append.1 hc with hc | hc
            · exact dec_more n (by omega) c hc
            · simp only [List.mem_singleton] at hc; subst hc; decide
          · exact dec_more e (by omega) c hc
        · obtain ⟨i, hi, rfl⟩ := List.mem_map.1 h
          have hi2 := List.mem_range'_1.1 hi
          exact dec_more i (by omega)
      · exact piece_more hb hr f _ x h
theorem text_more {k : Int} {f : Fld} (hb : f.bits < 18446744073709551616) (h : mayB k f.bits = true) : ∀ c ∈ textK k f, c ≠ 32 ∧ c ≠ 64 := by
  obtain ⟨hk, h0, hr⟩ := may_bits hb h
  have hbd := bounds_le hk
  rw [text_eq k hb]
  unfold text2
  rw [if_neg (by simp [h])]
  intro c hc
  split at hc
  · simp only [List.mem_singleton] at hc; subst hc; decide
  · rcases join_mem hc with rfl | ⟨x, hx, hc⟩
    · decide
    · exact piece_more hb (fun j hj => by have := hr j hj; omega) _ _ x hx c hc
set_option maxRecDepth 100000 in
theorem parse_none {k : Int} (hk : isK k = true) : (parseK k []).2 ≠ 0 := by
  rcases isK_cases hk with rfl | rfl | rfl | rfl | rfl <;> decide +kernel
theorem text_some {k : Int} {f : Fld} (hb : f.bits < 18446744073709551616) (h : mayB k f.bits = true) : textK k f ≠ [] := by
  intro e
  have h1 := (text_back hb h).1
  have h2 := parse_none (may_bits hb h).1
  rw [e] at h1
  rw [h1] at h2
  exact h2 rfl
def exT (x : Ex) : Ex := ⟨⟨x.a.bits, decide (textK 0 x.a = [42])⟩, ⟨x.b.bits, decide (textK 1 x.b = [42])⟩, ⟨x.c.bits, decide (textK 2 x.c = [42])⟩, ⟨x.d.bits, decide (textK 3 x.d = [42])⟩, ⟨x.e.bits, decide (textK 4 x.e = [42])⟩⟩
/-- A text's expression, told as a text and parsed, allows the same. -/
theorem textX_back {x : Ex} (hx : x.ok) (h : mayX x = true) : (textX x).length ≤ 400 ∧ cronK (textX x) = (exT x, 0) := by
  obtain ⟨h0, h1, h2, h3, h4⟩ := mayX_all h
  have s0 := text_short hx.a h0 (T := 59) rfl
  have s1 := text_short hx.b h1 (T := 23) rfl
  have s2 := text_short hx.c h2 (T := 31) rfl
  have s3 := text_short hx.d h3 (T := 12) rfl
  have s4 := text_short hx.e h4 (T := 6) rfl
  have el : (textX x).length ≤ 400 := by
    unfold textX
    rw [if_pos h]
    refine Nat.le_trans (join_cost _ _) ?_
    simp [cost, Lib.lens, txs]
    omega
  have hall : ∀ y ∈ txs x, ∀ c ∈ y, c ≠ 32 ∧ c ≠ 64 := by
    intro y hy
    simp only [txs, List.mem_cons, List.not_mem_nil, or_false] at hy
    rcases hy with rfl | rfl | rfl | rfl | rfl
    · exact text_more hx.a h0
    · exact text_more hx.b h1
    · exact text_more hx.c h2
    · exact text_more hx.d h3
    · exact text_more hx.e h4
  have hpre : Lib.hasPrefix (textX x) [64] = false := by
    cases he : textX x with
    | nil => rfl
    | cons y r =>
      have hy : y ∈ textX x := by rw [he]; simp
      unfold textX at hy
      rw [if_pos h] at hy
      have hne : y ≠ 64 := by
        rcases join_mem hy with rfl | ⟨w, hw, hy⟩
        · decide
        · exact (hall w hw y hy).2
      simp [Lib.hasPrefix, List.isPrefixOf, Ne.symm hne]
  have hsp : sp 32 (textX x) = txs x := by
    unfold textX
    rw [if_pos h]
    exact sp_join _ _ fun y hy hc => (hall y hy 32 hc).1 rfl
  refine ⟨el, ?_⟩
  unfold cronK
  rw [if_neg (by omega), hpre, if_neg (by decide)]
  unfold cronB
  rw [hsp, if_neg (by simp [txs]), if_neg]
  · unfold txs
    rw [go5, (text_back hx.a h0).1, (text_back hx.b h1).1, (text_back hx.c h2).1, (text_back hx.d h3).1, (text_back hx.e h4).1]
    rfl
  · simp only [txs, List.mem_cons, List.not_mem_nil, or_false, not_or]
    exact ⟨Ne.symm (text_some hx.a h0), Ne.symm (text_some hx.b h1), Ne.symm (text_some hx.c h2), Ne.symm (text_some hx.d h3), Ne.symm (text_some hx.e h4)⟩

/-! ### What fits -/
def secC (c : Clk) : Clk := ⟨c.y, c.m, c.d, c.h, c.mi, 59 - c.s, c.w⟩
theorem mayC_iff (c : Clk) : mayC c = true ↔ (((((((0 ≤ c.h ∧ c.h ≤ 23) ∧ 0 ≤ c.mi) ∧ c.mi ≤ 59) ∧ 0 ≤ c.s) ∧ c.s ≤ 59) ∧ mayD c.y c.m c.d = true) ∧ c.w = wdayC c) := by
  simp only [mayC, Bool.and_eq_true, decide_eq_true_eq]
theorem may_sec (c : Clk) : mayC (secC c) = mayC c := by
  rw [Bool.eq_iff_iff, mayC_iff, mayC_iff]
  constructor
  · rintro ⟨⟨⟨⟨⟨⟨⟨a1, a2⟩, a3⟩, a4⟩, a5⟩, a6⟩, a7⟩, a8⟩
    have b5 : 0 ≤ 59 - c.s := a5
    have b6 : 59 - c.s ≤ 59 := a6
    exact ⟨⟨⟨⟨⟨⟨⟨a1, a2⟩, a3⟩, a4⟩, by omega⟩, by omega⟩, a7⟩, a8⟩
  · rintro ⟨⟨⟨⟨⟨⟨⟨a1, a2⟩, a3⟩, a4⟩, a5⟩, a6⟩, a7⟩, a8⟩
    have b5 : 0 ≤ 59 - c.s := by omega
    have b6 : 59 - c.s ≤ 59 := by omega
    exact ⟨⟨⟨⟨⟨⟨⟨a1, a2⟩, a3⟩, a4⟩, b5⟩, b6⟩, a7⟩, a8⟩
theorem fits_sec (x : Ex) (c : Clk) : fitsX x (secC c) = fitsX x c := by
  unfold fitsX dayFitsX
  rw [may_sec]
  rfl
theorem fits_day {x : Ex} {c : Clk} (h : fitsX x c = true) : dayFitsX x c = true := by
  simp only [fitsX, Bool.and_eq_true] at h
  exact h.1.1
theorem has_or {b : Nat} (m : Nat) {n : Int} (h : hasB b n = true) : hasB (b ||| m) n = true := by
  simp only [hasB, Bool.and_eq_true, Nat.testBit_or, Bool.or_eq_true] at h ⊢
  exact ⟨h.1, .inl h.2⟩
theorem fits_more {x z : Ex} {c : Clk} (h : fitsX x c = true) (hz : mayX z = true) (sc : z.c.star = x.c.star) (se : z.e.star = x.e.star)
    (ha : ∀ n, hasB x.a.bits n = true → hasB z.a.bits n = true) (hb : ∀ n, hasB x.b.bits n = true → hasB z.b.bits n = true) (hc : ∀ n, hasB x.c.bits n = true → hasB z.c.bits n = true)
    (hd : ∀ n, hasB x.d.bits n = true → hasB z.d.bits n = true) (he : ∀ n, hasB x.e.bits n = true → hasB z.e.bits n = true) : fitsX z c = true := by
  simp only [fitsX, dayFitsX, Bool.and_eq_true] at h ⊢
  obtain ⟨⟨⟨⟨⟨h1, h2⟩, h3⟩, h4⟩, h5⟩, h6⟩ := h
  refine ⟨⟨⟨⟨⟨hz, h2⟩, hd _ h3⟩, ?_⟩, ha _ h5⟩, hb _ h6⟩
  rw [sc, se]
  by_cases hs : x.c.star = true ∨ x.e.star = true
  · rw [if_pos hs] at h4 ⊢
    simp only [Bool.and_eq_true] at h4 ⊢
    exact ⟨hc _ h4.1, he _ h4.2⟩
  · rw [if_neg hs] at h4 ⊢
    simp only [Bool.or_eq_true] at h4 ⊢
    exact h4.elim (fun h => .inl (hc _ h)) fun h => .inr (he _ h)
theorem fits_set {x : Ex} {c : Clk} (k : Nat) (m : Nat) (h : fitsX x c = true) (hz : mayX (x.set k ⟨(x.get k).bits ||| m, (x.get k).star⟩) = true) : fitsX (x.set k ⟨(x.get k).bits ||| m, (x.get k).star⟩) c = true := by
  have id2 : ∀ (b : Nat) (n : Int), hasB b n = true → hasB b n = true := fun _ _ h => h
  have or2 : ∀ (b : Nat) (n : Int), hasB b n = true → hasB (b ||| m) n = true := fun _ _ h => has_or m h
  match k, hz with
  | 0, hz => exact fits_more h hz rfl rfl (or2 _) (id2 _) (id2 _) (id2 _) (id2 _)
  | 1, hz => exact fits_more h hz rfl rfl (id2 _) (or2 _) (id2 _) (id2 _) (id2 _)
  | 2, hz => exact fits_more h hz rfl rfl (id2 _) (id2 _) (or2 _) (id2 _) (id2 _)
  | 3, hz => exact fits_more h hz rfl rfl (id2 _) (id2 _) (id2 _) (or2 _) (id2 _)
  | _ + 4, hz => exact fits_more h hz rfl rfl (id2 _) (id2 _) (id2 _) (id2 _) (or2 _)
end Go.Proofs.YtdpgnbinekcgdaaGreatDoor
