/- What a text's expression is: fields that may be. -/
import Derived.Test.YtdpgnbinekcgdaaGreatDoorFieldL
import Derived.Test.YtdpgnbinekcgdaaGreatDoorCronP
namespace Go.Proofs.YtdpgnbinekcgdaaGreatDoor
open Rg Go

theorem parse_may {k : Int} {s : List UInt8} (h : (parseK k s).2 = 0) : mayB k (parseK k s).1.bits = true := by
  cases hk : isK k with
  | false => unfold parseK at h; rw [if_pos hk] at h; exact absurd h (by decide)
  | true =>
    by_cases hs : 150 < s.length
    · unfold parseK at h; rw [if_neg (by simp [hk]), if_pos hs] at h; exact absurd h (by decide)
    · rw [parse_eq hk (by omega)] at h ⊢
      by_cases h1 : firstErr k (sp 44 s) = 0
      · rw [if_neg (by simp [h1])]
        obtain ⟨a1, a2⟩ := orAll_ok hk h1
        exact may_of hk (a1 (sp_ne _ _)) a2
      · rw [if_pos h1] at h
        exact absurd h h1
theorem set_ok {x : Ex} (hx : x.ok) (j : Nat) {f : Fld} (hf : f.bits < 18446744073709551616) : (x.set j f).ok := by
  unfold Ex.set
  split <;> exact ⟨by first | exact hf | exact hx.a, by first | exact hf | exact hx.b, by first | exact hf | exact hx.c, by first | exact hf | exact hx.d, by first | exact hf | exact hx.e⟩
theorem ex0_ok : ex0.ok := ⟨by decide, by decide, by decide, by decide, by decide⟩
theorem goX_lt : ∀ (L : List (List UInt8)) (j : Nat) (x : Ex), x.ok → (goX L j x).1.ok
  | [], _, _, h => h
  | p :: r, j, x, h => by
    unfold goX
    split
    · exact ex0_ok
    · exact goX_lt r _ _ (set_ok h _ (parse_lt _ _))
theorem cronB_lt (s : List UInt8) : (cronB s).1.ok := by
  unfold cronB
  by_cases h1 : (sp 32 s).length ≠ 5
  · rw [if_pos h1]; exact ex0_ok
  · rw [if_neg h1]
    by_cases h2 : [] ∈ sp 32 s
    · rw [if_pos h2]; exact ex0_ok
    · rw [if_neg h2]; exact goX_lt _ _ _ ex0_ok
theorem cronK_lt (s : List UInt8) : (cronK s).1.ok := by
  unfold cronK
  by_cases h : 400 < s.length
  · rw [if_pos h]; exact ex0_ok
  · rw [if_neg h]; exact cronB_lt _
theorem go5 {p0 p1 p2 p3 p4 : List UInt8} : goX [p0, p1, p2, p3, p4] 0 ex0 =
    if (parseK 0 p0).2 ≠ 0 then (ex0, (parseK 0 p0).2) else if (parseK 1 p1).2 ≠ 0 then (ex0, (parseK 1 p1).2) else if (parseK 2 p2).2 ≠ 0 then (ex0, (parseK 2 p2).2)
    else if (parseK 3 p3).2 ≠ 0 then (ex0, (parseK 3 p3).2) else if (parseK 4 p4).2 ≠ 0 then (ex0, (parseK 4 p4).2) else (⟨(parseK 0 p0).1, (parseK 1 p1).1, (parseK 2 p2).1, (parseK 3 p3).1, (parseK 4 p4).1⟩, 0) := rfl
theorem cronB_may {s : List UInt8} (h : (cronB s).2 = 0) : mayX (cronB s).1 = true := by
  unfold cronB at h ⊢
  by_cases h1 : (sp 32 s).length ≠ 5
  · rw [if_pos h1] at h; exact absurd h (by decide)
  · rw [if_neg h1] at h ⊢
    by_cases h2 : [] ∈ sp 32 s
    · rw [if_pos h2] at h; exact absurd h (by decide)
    · rw [if_neg h2] at h ⊢
      have h3 : (sp 32 s).length = 5 := by omega
      generalize sp 32 s = L at *
      match L, h3 with
      | [p0, p1, p2, p3, p4], _ =>
        rw [go5] at h ⊢
        by_cases e0 : (parseK 0 p0).2 = 0
        · by_cases e1 : (parseK 1 p1).2 = 0
          · by_cases e2 : (parseK 2 p2).2 = 0
            · by_cases e3 : (parseK 3 p3).2 = 0
              · by_cases e4 : (parseK 4 p4).2 = 0
                · rw [if_neg (by simp [e0]), if_neg (by simp [e1]), if_neg (by simp [e2]), if_neg (by simp [e3]), if_neg (by simp [e4])]
                  simp [mayX, parse_may e0, parse_may e1, parse_may e2, parse_may e3, parse_may e4]
                · simp [e0, e1, e2, e3, e4] at h
              · simp [e0, e1, e2, e3] at h
            · simp [e0, e1, e2] at h
          · simp [e0, e1] at h
        · simp [e0] at h
theorem cronK_may {s : List UInt8} (h : (cronK s).2 = 0) : mayX (cronK s).1 = true := by
  unfold cronK at h ⊢
  split at h
  · exact absurd h (by decide)
  · rw [if_neg (by assumption)]
    exact cronB_may h
end Go.Proofs.YtdpgnbinekcgdaaGreatDoor
