/- What a log holds behind each step; RlogPlays gives true. -/
import Derived.Test.YtdcblangeonhpaaFc
import Derived.Test.YtdcblangeonhpaaDb
import Derived.Test.YtdcblangeonhpaaRgP
namespace Go.Proofs.Ytdcblangeonhpaa
open Rg Go

theorem St.append {i t : Int} {L : List Ent} (hs : St i t L) (hl : L.length ≤ 900000) {y : Int} (hy : 0 ≤ y ∧ y ≤ 18446744073709551615) {bd : List UInt8} (hb : bd.length ≤ 1000000000) : St i t (L ++ [⟨lastI i L + 1, y, bd⟩]) := by
  refine ⟨hs.i0, hs.i1, hs.t0, hs.t1, by simp; omega, fun e he => ?_, fun j e he => ?_, fun e he => ?_⟩
  · rcases List.mem_append.1 he with h | h
    · exact hs.slim e h
    · simp at h; subst h; exact hb
  · rw [List.getElem?_append] at he
    split at he
    · exact hs.idx j e he
    · rename_i hj
      have hj' : j = L.length := by
        have := (List.getElem?_eq_some_iff.1 he).1
        simp at this; omega
      subst hj'
      simp at he
      subst he
      simp [lastI]
  · rcases List.mem_append.1 he with h | h
    · exact hs.trm e h
    · simp at h; subst h; exact hy

theorem putGo_st {i t : Int} {L : List Ent} (hs : St i t L) : ∀ (E : List Ent) (x : Int), standB x E = true → Fits E → Slim E → L.length + E.length ≤ 1000000 →
    St i t (putGo i t L E).2 ∧ (putGo i t L E).2.length ≤ L.length + E.length
  | [], x, _, _, _, _ => by simp [putGo]; exact hs
  | e :: E, x, hst, hf, hsl, hl => by
    simp only [standB, Bool.and_eq_true, decide_eq_true_eq] at hst
    have ih := putGo_st hs E (x + 1) hst.2 (fun y hy => hf y (by simp [hy])) (fun y hy => hsl y (by simp [hy])) (by simp at hl; omega)
    simp only [putGo]
    simp only [List.length_cons] at hl ⊢
    split
    · exact ⟨ih.1, by omega⟩
    · rename_i h1
      split
      · exact ⟨ih.1, by omega⟩
      · split
        · exact ⟨hs, by simp only; omega⟩
        · rename_i h3
          obtain ⟨k, hk⟩ : ∃ k : Nat, e.i = i + 1 + k := ⟨(e.i - i - 1).toNat, by omega⟩
          have hk2 : (e.i - i - 1).toNat = k := by omega
          have hkl : k ≤ L.length := by omega
          rw [hk2]
          refine ⟨⟨hs.i0, hs.i1, hs.t0, hs.t1, by simp; omega, fun y hy => ?_, fun j y hy => ?_, fun y hy => ?_⟩, by simp; omega⟩
          · rcases List.mem_append.1 hy with h | h
            · exact hs.slim y (List.mem_of_mem_take h)
            · exact hsl y h
          · rw [List.getElem?_append] at hy
            split at hy
            · rename_i hj
              rw [List.getElem?_take] at hy
              split at hy
              · exact hs.idx j y hy
              · cases hy
            · rename_i hj
              rw [List.length_take] at hy hj
              have h4 := standB_iff.1 (show standB x (e :: E) = true by simp only [standB, Bool.and_eq_true, decide_eq_true_eq]; exact hst) _ y hy
              rw [h4]
              have h5 := hst.1
              omega
          · rcases List.mem_append.1 hy with h | h
            · exact hs.trm y (List.mem_of_mem_take h)
            · exact (hf y h).2

theorem putE_st {i t : Int} {L : List Ent} (hs : St i t L) {E : List Ent} (hf : Fits E) (hsl : Slim E) (hl : L.length + E.length ≤ 1000000) (x y : Int) :
    St i t (putE i t L x y E).2 ∧ (putE i t L x y E).2.length ≤ L.length + E.length := by
  unfold putE
  split
  · rename_i hst
    split
    · exact ⟨hs, by simp⟩
    · exact putGo_st hs E x hst hf hsl hl
  · exact ⟨hs, by simp⟩

theorem St.reset {x y : Int} (hx : 0 ≤ x) (hx1 : x < 4611686018427387904) (hy : 0 ≤ y ∧ y ≤ 18446744073709551615) : St x y [] :=
  ⟨hx, hx1, hy.1, hy.2, by simp, by simp [Slim], by simp, by simp⟩

/-- A log, and the document's, that stand alike, in memory of the call's own. -/
structure Play (H : Heap) (b r : Nat) (n : Nat) (K : Heap) (i t : Int) (L : List Ent) : Prop where
  hb : K b = some (.cells (logC i t L) 61)
  hr : ∃ tk, (tk = .no ∨ tk = .nil) ∧ K r = some (.cells [u64 i, u64 t, .sl (L.map Ent.av) tk] 53)
  hs : St i t L
  hl : L.length ≤ n
  fb : H b = none
  le : HLe H K
  ne : b ≠ r

def PlayAt (H : Heap) (r n : Nat) (K : Heap) (x : AV) : Prop := ∃ b i t L, x = ptr b ∧ Play H b r n K i t L

end Go.Proofs.Ytdcblangeonhpaa
