/- Split and Cut at one byte, in plain words. -/
import Derived.Test.YtdpgnbinekcgdaaGreatDoorFieldK
import Derived.Lib.SplitLaws
namespace Go.Proofs.YtdpgnbinekcgdaaGreatDoor
open Rg Go

def sp (c : UInt8) : List UInt8 → List (List UInt8)
  | [] => [[]]
  | x :: r => if x = c then [] :: sp c r else match sp c r with
    | [] => [[x]]
    | h :: t => (x :: h) :: t
def ct (c : UInt8) : List UInt8 → List UInt8 × List UInt8 × Bool
  | [] => ([], [], false)
  | x :: r => if x = c then ([], r, true) else (x :: (ct c r).1, (ct c r).2)

theorem index_eq (c : UInt8) (l : List UInt8) : Lib.index (c :: l) [c] = 0 := by rw [Lib.index]; simp [List.isPrefixOf]
theorem index_ne {b c : UInt8} (l : List UInt8) (h : b ≠ c) : Lib.index (b :: l) [c] = if Lib.index l [c] == -1 then -1 else Lib.index l [c] + 1 := by
  rw [Lib.index]
  simp [List.isPrefixOf, Ne.symm h]

theorem split_sp (c : UInt8) : ∀ s : List UInt8, Lib.split s [c] = sp c s
  | [] => by simp [Lib.split, sp, Lib.count_one, Lib.splitK]
  | x :: r => by
    have ih := split_sp c r
    unfold Lib.split at ih ⊢
    by_cases hx : x = c
    · subst hx
      rw [Lib.count_cons_eq, Nat.add_comm 1]
      simp only [Lib.splitK, index_eq, sp, if_true]
      rw [if_neg (by decide)]
      simp [← ih]
    · rw [Lib.count_cons_ne _ _ _ hx]
      simp only [sp, if_neg hx, ← ih]
      cases hk : Lib.count r [c] with
      | zero => simp [Lib.splitK]
      | succ k =>
        have hi : Lib.index r [c] ≠ -1 := fun h => by rw [Lib.count_miss h] at hk; cases hk
        have hge := Lib.index_ge r [c]
        obtain ⟨j, hj⟩ : ∃ j : Nat, Lib.index r [c] = j := ⟨(Lib.index r [c]).toNat, by omega⟩
        have hne : ¬ ((j : Int) == -1) = true := by simp
        simp only [Lib.splitK, index_ne r hx, hj, if_neg hne]
        have hne2 : ¬ ((j : Int) + 1 == -1) = true := by simp; omega
        rw [if_neg hne2]
        have e : ((j : Int) + 1).toNat = j + 1 := by omega
        simp [e]

theorem cut_ct (c : UInt8) : ∀ s : List UInt8, Lib.cut s [c] = ct c s
  | [] => by simp [Lib.cut, ct, Lib.index]
  | x :: r => by
    have ih := cut_ct c r
    unfold Lib.cut at ih ⊢
    by_cases hx : x = c
    · subst hx
      simp [index_eq, ct]
    · simp only [ct, if_neg hx, ← ih, index_ne r hx]
      by_cases hi : Lib.index r [c] = -1
      · simp [hi]
      · have hge := Lib.index_ge r [c]
        obtain ⟨j, hj⟩ : ∃ j : Nat, Lib.index r [c] = j := ⟨(Lib.index r [c]).toNat, by omega⟩
        have hne : ¬ ((j : Int) == -1) = true := by simp
        rw [hj, if_neg hne, if_pos (by omega), if_pos (by omega)]
        have e : ((j : Int) + 1).toNat = j + 1 := by omega
        simp [e]

theorem ct_not {c : UInt8} : ∀ {s : List UInt8}, c ∉ s → ct c s = (s, [], false)
  | [], _ => rfl
  | x :: r, h => by
    simp only [List.mem_cons, not_or] at h
    simp [ct, if_neg (Ne.symm h.1), ct_not h.2]
theorem ct_app {c : UInt8} {b : List UInt8} : ∀ {a : List UInt8}, c ∉ a → ct c (a ++ c :: b) = (a, b, true)
  | [], _ => by simp [ct]
  | x :: r, h => by
    simp only [List.mem_cons, not_or] at h
    simp [ct, if_neg (Ne.symm h.1), ct_app h.2]
theorem sp_ne (c : UInt8) : ∀ s : List UInt8, sp c s ≠ []
  | [] => by simp [sp]
  | x :: r => by
    unfold sp
    split
    · simp
    · split <;> simp
theorem sp_app (c : UInt8) (b : List UInt8) : ∀ a : List UInt8, sp c (a ++ c :: b) = sp c a ++ sp c b
  | [] => by simp [sp]
  | x :: r => by
    have ih := sp_app c b r
    simp only [List.cons_append, sp, ih]
    split
    · rfl
    · cases h : sp c r with
      | nil => exact absurd h (sp_ne c r)
      | cons y t => rfl
theorem sp_not {c : UInt8} : ∀ {s : List UInt8}, c ∉ s → sp c s = [s]
  | [], _ => rfl
  | x :: r, h => by
    simp only [List.mem_cons, not_or] at h
    simp [sp, if_neg (Ne.symm h.1), sp_not h.2]
theorem join_cons2 (x y : List UInt8) (r : List (List UInt8)) (c : UInt8) : Lib.join (x :: y :: r) [c] = x ++ c :: Lib.join (y :: r) [c] := by
  rw [Lib.join_cons, Lib.join_cons]
  simp [Lib.joinTail]
theorem sp_join {c : UInt8} : ∀ (r : List (List UInt8)) (x : List UInt8), (∀ y ∈ x :: r, c ∉ y) → sp c (Lib.join (x :: r) [c]) = x :: r
  | [], x, h => by rw [Lib.join_one]; exact sp_not (h x (by simp))
  | y :: r, x, h => by
    rw [join_cons2, sp_app, sp_not (h x (by simp)), sp_join r y fun z hz => h z (by simp at hz ⊢; exact .inr hz)]
    rfl
end Go.Proofs.YtdpgnbinekcgdaaGreatDoor
