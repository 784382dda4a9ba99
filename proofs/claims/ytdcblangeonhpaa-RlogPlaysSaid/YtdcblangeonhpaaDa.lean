/- Plain laws of a log's answers: behind a new base, the last entry, the slices. -/
import Derived.Test.YtdcblangeonhpaaCf
namespace Go.Proofs.Ytdcblangeonhpaa
open Rg Go

theorem termE_some {i t : Int} {L : List Ent} {x u : Int} (h : termE i t L x = some u) :
    ∃ k : Nat, k ≤ L.length ∧ x = i + k ∧ (k = 0 → u = t) ∧ ∀ j, k = j + 1 → ∃ e, L[j]? = some e ∧ u = e.t := by
  unfold termE at h
  split at h
  · rename_i hx
    cases h
    exact ⟨0, by omega, by omega, fun _ => rfl, fun j hj => by omega⟩
  · rename_i hx
    unfold getE at h
    split at h
    · cases h
    · rename_i hi
      obtain ⟨e, he, hu⟩ := Option.map_eq_some_iff.1 h
      have := (List.getElem?_eq_some_iff.1 he).1
      refine ⟨(x - i).toNat, by omega, by omega, by omega, fun j hj => ⟨e, ?_, hu.symm⟩⟩
      rw [← he]; congr 1; omega

theorem termE_at {i t : Int} {L : List Ent} {k : Nat} {e : Ent} (h : L[k]? = some e) : termE i t L (i + k + 1) = some e.t := by
  unfold termE getE
  rw [if_neg (by omega), if_neg (by omega), show (i + (k : Int) + 1 - i - 1).toNat = k by omega, h]
  rfl
theorem termE_base {i t : Int} {L : List Ent} : termE i t L i = some t := by simp [termE]

theorem St.drop {i t : Int} {L : List Ent} (hs : St i t L) {x u : Int} (hx : x < 4611686018427387904) (h : termE i t L x = some u) : St x u (L.drop (x - i).toNat) := by
  obtain ⟨k, hk, rfl, h0, h1⟩ := termE_some h
  have e : (i + (k : Int) - i).toNat = k := by omega
  rw [e]
  have hi := hs.i0
  have hu : 0 ≤ u ∧ u ≤ 18446744073709551615 := by
    cases k with
    | zero => rw [h0 rfl]; exact ⟨hs.t0, hs.t1⟩
    | succ j => obtain ⟨e, he, rfl⟩ := h1 j rfl; exact hs.trm e (List.mem_of_getElem? he)
  refine ⟨by omega, hx, hu.1, hu.2, ?_, fun e he => hs.slim e (List.mem_of_mem_drop he), fun j e he => ?_, fun e he => hs.trm e (List.mem_of_mem_drop he)⟩
  · have := hs.len; simp; omega
  · rw [List.getElem?_drop] at he
    rw [hs.idx _ _ he]
    push_cast; omega

theorem lastI_drop {i : Int} {L : List Ent} {k : Nat} (hk : k ≤ L.length) : lastI (i + k) (L.drop k) = lastI i L := by
  simp [lastI]; omega

theorem lastT_term {i t : Int} {L : List Ent} : termE i t L (lastI i L) = some (lastT t L) := by
  unfold lastI lastT
  cases hL : L.getLast? with
  | none => simp at hL; subst hL; simp [termE]
  | some e =>
    rw [List.getLast?_eq_getElem?] at hL
    have := (List.getElem?_eq_some_iff.1 hL).1
    have h := termE_at (i := i) (t := t) hL
    rw [← h]; congr 1; omega

theorem lastT_drop {i t : Int} {L : List Ent} {x u : Int} (h : termE i t L x = some u) : lastT u (L.drop (x - i).toNat) = lastT t L := by
  obtain ⟨k, hk, rfl, h0, h1⟩ := termE_some h
  have e : (i + (k : Int) - i).toNat = k := by omega
  rw [e]
  unfold lastT
  rw [List.getLast?_drop]
  by_cases hkl : L.length ≤ k
  · rw [if_pos hkl]
    cases k with
    | zero =>
      have : L = [] := by cases L <;> simp_all
      subst this; simpa using h0 rfl
    | succ j =>
      obtain ⟨e, he, rfl⟩ := h1 j rfl
      have hj := (List.getElem?_eq_some_iff.1 he).1
      rw [List.getLast?_eq_getElem?, show L.length - 1 = j by omega, he]
  · rw [if_neg hkl]
    cases hL : L.getLast? with
    | none => simp at hL; subst hL; simp at hkl
    | some e => rfl

theorem sliceE_at {i : Int} {L : List Ent} {k : Nat} {m : Int} (hm : 1 ≤ m) : sliceE i L (i + 1 + k) m = (L.drop k).take m.toNat := by
  unfold sliceE getE
  rw [if_neg (show ¬ i + 1 + (k : Int) ≤ i by omega), show (i + 1 + (k : Int) - i - 1).toNat = k by omega]
  by_cases hk : k < L.length
  · rw [List.getElem?_eq_getElem hk]
    simp
    omega
  · rw [List.getElem?_eq_none (by omega), List.drop_eq_nil_of_le (by omega)]
    simp

theorem slice_whole {i : Int} {L : List Ent} {m : Int} (hm : 1 ≤ m) (hl : L.length ≤ m.toNat) : sliceE i L (i + 1) m = L := by
  have := sliceE_at (i := i) (L := L) (k := 0) hm
  simp at this
  rw [this, List.take_of_length_le hl]

theorem slice_drop {i t : Int} {L : List Ent} {x u m : Int} (h : termE i t L x = some u) (hm : 1 ≤ m) : sliceE x (L.drop (x - i).toNat) (x + 1) m = sliceE i L (x + 1) m := by
  obtain ⟨k, hk, rfl, _, _⟩ := termE_some h
  have e : (i + (k : Int) - i).toNat = k := by omega
  rw [e]
  have h1 := sliceE_at (i := i + k) (L := L.drop k) (k := 0) hm
  have h2 := sliceE_at (i := i) (L := L) (k := k) hm
  simp at h1
  rw [h1, show i + (k : Int) + 1 = i + 1 + k by omega, h2]

end Go.Proofs.Ytdcblangeonhpaa
