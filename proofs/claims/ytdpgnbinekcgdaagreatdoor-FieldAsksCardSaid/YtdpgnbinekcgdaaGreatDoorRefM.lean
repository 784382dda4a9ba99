/- The document's numbers of words are the program's: in plain words. -/
import Derived.Test.YtdpgnbinekcgdaaGreatDoorFieldC
import Derived.Lib.MapLaws
import Derived.Lib.TrimAscii
import Derived.Lib.TrimU
namespace Go.Proofs.YtdpgnbinekcgdaaGreatDoor
open Rg Go

def lowB (b : UInt8) : UInt8 := if 65 ≤ b.toNat ∧ b.toNat ≤ 90 then b + 32 else b
theorem lowB_high {b : UInt8} (h : 128 ≤ b.toNat) : lowB b = b := by unfold lowB; rw [if_neg (by omega)]
theorem lowB_low {b : UInt8} (h : b.toNat < 128) : (lowB b).toNat < 128 ∧ ((lowB b).toNat : Int) = lowR b.toNat := by
  unfold lowB lowR
  by_cases h1 : 65 ≤ b.toNat ∧ b.toNat ≤ 90
  · have e : (b + 32).toNat = b.toNat + 32 := by rw [UInt8.toNat_add]; simp; omega
    rw [if_pos h1, if_pos (by omega), e]
    omega
  · rw [if_neg h1, if_neg (by omega)]
    exact ⟨h, rfl⟩
theorem enc_low {b : UInt8} (h : b.toNat < 128) : Lib.encodeRune (lowR b.toNat) = [lowB b] := by
  obtain ⟨h1, h2⟩ := lowB_low h
  rw [← h2]
  unfold Lib.encodeRune
  rw [Lib.encodeRuneZ_one (by omega) (by omega)]
  simp
theorem mapD_low {b : UInt8} (h : b.toNat < 128) (t : List UInt8) : Lib.mapD lowR (b :: t) = lowB b :: Lib.mapD lowR t := by
  have h2 := (lowB_low h).2
  rw [Lib.mapD_step _ _ (by simp), Lib.decodeL_ascii b t h]
  simp only [List.drop_one, List.tail_cons]
  rw [if_pos (by omega), enc_low h]
  rfl
theorem mapD_high {b : UInt8} (h : 128 ≤ b.toNat) (t : List UInt8) : ∃ x r, Lib.mapD lowR (b :: t) = x :: r ∧ 128 ≤ x.toNat := by
  rw [Lib.mapD_step _ _ (by simp)]
  have hw := Lib.decodeL_width (b :: t)
  by_cases hv : (Lib.decodeL (b :: t)).1 = 65533 ∧ (Lib.decodeL (b :: t)).2 = 1
  · rw [hv.1]
    have e : lowR ((65533 : Nat) : Int) = 65533 := rfl
    rw [e]
    exact ⟨239, _, rfl, by decide⟩
  · have e := Lib.encode_decode (b :: t) (by simp) hv
    obtain ⟨w, hw'⟩ : ∃ w, (Lib.decodeL (b :: t)).2 = w + 1 := ⟨(Lib.decodeL (b :: t)).2 - 1, by omega⟩
    rw [hw', List.take_succ_cons] at e
    have hlow : lowR ((Lib.decodeL (b :: t)).1 : Int) = ((Lib.decodeL (b :: t)).1 : Int) := by
      unfold lowR
      rw [if_neg]
      intro hr
      unfold Lib.encodeRune at e
      rw [Lib.encodeRuneZ_one (by omega) (by omega)] at e
      simp only [List.map_cons, List.map_nil, List.cons.injEq] at e
      have e1 := congrArg UInt8.toNat e.1
      simp at e1
      omega
    rw [hlow, if_pos (by omega), e]
    exact ⟨b, _, rfl, h⟩
theorem mapD_iff : ∀ (s m : List UInt8), (∀ x ∈ m, x.toNat < 128) → (Lib.mapD lowR s = m ↔ s.map lowB = m)
  | [], m, _ => by simp [Lib.mapD_nil]
  | b :: t, m, hm => by
    by_cases h : b.toNat < 128
    · rw [mapD_low h, List.map_cons]
      cases m with
      | nil => simp
      | cons x m => simp only [List.cons.injEq]; rw [mapD_iff t m fun y hy => hm y (by simp [hy])]
    · obtain ⟨x, r, hx, hx2⟩ := mapD_high (b := b) (by omega) t
      rw [hx, List.map_cons, lowB_high (by omega)]
      cases m with
      | nil => simp
      | cons y m =>
        have hy := hm y (by simp)
        constructor
        · intro e; simp at e; rw [← e.1] at hy; omega
        · intro e; simp at e; rw [← e.1] at hy; omega
theorem idxL_low (s : List UInt8) : ∀ (zs : List (List UInt8)) (i : Nat), (∀ z ∈ zs, ∀ x ∈ z, x.toNat < 128) → idxL zs (Lib.mapD lowR s) i = idxL zs (s.map lowB) i
  | [], i, _ => rfl
  | z :: zs, i, h => by
    unfold idxL
    have e : (z = Lib.mapD lowR s) = (z = s.map lowB) := by
      apply propext
      rw [eq_comm, mapD_iff s z (h z (by simp)), eq_comm]
    simp only [e]
    rw [idxL_low s zs (i + 1) fun y hy => h y (by simp [hy])]
theorem idxL_len {n : Nat} {x : List UInt8} (hx : x.length ≠ n) : ∀ (zs : List (List UInt8)) (i : Nat), (∀ z ∈ zs, z.length = n) → idxL zs x i = -1
  | [], i, _ => rfl
  | z :: zs, i, h => by
    unfold idxL
    rw [if_neg (fun e => hx (by rw [← e]; exact h z (by simp))), idxL_len hx zs (i + 1) fun y hy => h y (by simp [hy])]

/-- What the document calls a word's number. -/
def refNum (k : Int) (s : List UInt8) : Int := if (numK k s).2 = true then (numK k s).1 else -1
def isD (b : UInt8) : Bool := decide (48 ≤ b.toNat) && decide (b.toNat ≤ 57)
theorem isD_digs (b : UInt8) : digs.contains b = isD b := by
  have h : ∀ n, n < 256 → digs.contains (UInt8.ofNat n) = isD (UInt8.ofNat n) := by decide +kernel
  have := h b.toNat (UInt8.toNat_lt b)
  simpa using this
theorem digitVal_isD {b : UInt8} (h : isD b = true) : Lib.digitVal b = some (b.toNat - 48) := by
  have h0 : ∀ n, n < 256 → isD (UInt8.ofNat n) = true → Lib.digitVal (UInt8.ofNat n) = some ((UInt8.ofNat n).toNat - 48) := by decide +kernel
  have := h0 b.toNat (UInt8.toNat_lt b)
  simpa [h] using this
theorem dig2_iff (s : List UInt8) : dig2 s = (decide (s.length = 1 ∨ s.length = 2) && s.all isD) := by
  unfold dig2
  have h : decide (Lib.trimS s digs = []) = s.all isD := by
    rw [Bool.eq_iff_iff]
    simp only [decide_eq_true_eq, trimS_nil, isD_digs, List.all_eq_true]
  rw [h]
  congr 1
  rw [Bool.eq_iff_iff]
  simp
  omega
/-- The number that digits tell. -/
def digV (s : List UInt8) : Nat := s.foldl (fun n b => 10 * n + (b.toNat - 48)) 0
theorem refNum_dig {k : Int} {s : List UInt8} (h1 : s.length = 1 ∨ s.length = 2) (h2 : s.all isD = true) : refNum k s = digV s := by
  have hd : dig2 s = true := by rw [dig2_iff, h2]; simp [h1]
  unfold refNum numK
  rw [if_pos hd]
  simp only [if_true]
  have e0 : ∀ {a : UInt8}, isD a = true → (a == 45) = false ∧ (a == 43) = false := fun {a} h => by
    simp [isD] at h
    constructor <;> (apply beq_false_of_ne; rintro rfl; simp at h)
  match s, h1, h2 with
  | [a], _, h2 =>
    simp at h2
    have e := digitVal_isD h2
    simp [Lib.atoi, e0 h2, Lib.decNat, Lib.decFrom, e, digV]
  | [a, b], _, h2 =>
    simp at h2
    have e := digitVal_isD h2.1
    have e' := digitVal_isD h2.2
    simp [Lib.atoi, e0 h2.1, Lib.decNat, Lib.decFrom, e, e', digV]
    omega
  | [], h1, _ => simp at h1
  | a :: b :: c :: r, h1, _ => simp at h1
theorem refNum_name {k : Int} {s : List UInt8} (h : (decide (s.length = 1 ∨ s.length = 2) && s.all isD) = false) : refNum k s = nameK k (s.map lowB) := by
  have hd : dig2 s = false := by rw [dig2_iff, h]
  have e : nameK k (Lib.mapD lowR s) = nameK k (s.map lowB) := by
    unfold nameK
    rw [idxL_low s months 0 (by decide), idxL_low s days 0 (by decide)]
  have hle := nameK_le k (s.map lowB)
  have hnk : numK k s = (nameK k (s.map lowB), decide (0 ≤ nameK k (s.map lowB))) := by
    unfold numK
    rw [if_neg (by simp [hd]), e]
  unfold refNum
  rw [hnk]
  simp only [decide_eq_true_eq]
  split <;> omega
theorem nameK_len {k : Int} {s : List UInt8} (h : s.length ≠ 3) : nameK k s = -1 := by
  unfold nameK
  rw [idxL_len h months 0 (by decide), idxL_len h days 0 (by decide)]
  (repeat' split) <;> first | rfl | omega
theorem nameK_kind {k : Int} (s : List UInt8) (h3 : k ≠ 3) (h4 : k ≠ 4) : nameK k s = -1 := by unfold nameK; rw [if_neg h3, if_neg h4]
end Go.Proofs.YtdpgnbinekcgdaaGreatDoor
