/- The document's items are the program's: in plain words. -/
import Derived.Test.YtdpgnbinekcgdaaGreatDoorRefM
namespace Go.Proofs.YtdpgnbinekcgdaaGreatDoor
open Rg Go

theorem idxL_mem {y : UInt8} {x : List UInt8} (hx : y ∈ x) : ∀ (zs : List (List UInt8)) (i : Nat), (∀ z ∈ zs, y ∉ z) → idxL zs x i = -1
  | [], i, _ => rfl
  | z :: zs, i, h => by
    unfold idxL
    rw [if_neg (fun e => h z (by simp) (by rw [e]; exact hx)), idxL_mem hx zs (i + 1) fun w hw => h w (by simp [hw])]
theorem refNum_bad {k : Int} {s : List UInt8} {c : UInt8} (hc : c = 45 ∨ c = 47) (h : c ∈ s) : refNum k s = -1 := by
  have hall : s.all isD = false := by
    cases ha : s.all isD with
    | false => rfl
    | true =>
      have := List.all_eq_true.1 ha c h
      rcases hc with rfl | rfl <;> simp [isD] at this
  rw [refNum_name (by rw [hall]; simp)]
  have hm : c ∈ s.map lowB := List.mem_map.2 ⟨c, h, by rcases hc with rfl | rfl <;> decide⟩
  unfold nameK
  rw [idxL_mem hm months 0 (by rcases hc with rfl | rfl <;> decide), idxL_mem hm days 0 (by rcases hc with rfl | rfl <;> decide)]
  (repeat' split) <;> first | rfl | omega
theorem refNum_le (k : Int) (s : List UInt8) : -1 ≤ refNum k s ∧ refNum k s ≤ 99 := by
  have := numK_le k s
  unfold refNum
  split <;> omega
theorem numK_neg {k : Int} {s : List UInt8} : (numK k s).2 = false ↔ refNum k s < 0 := by
  unfold refNum
  cases h : (numK k s).2 with
  | false => simp
  | true =>
    simp only [if_true]
    constructor
    · intro h; cases h
    · intro hn
      exfalso
      unfold numK at h hn
      split at h
      · rename_i hd
        rw [if_pos hd] at hn
        obtain ⟨n, h1, _⟩ := dig2_atoi hd
        rw [h1] at hn
        simp at hn
      · rename_i hd
        rw [if_neg hd] at hn
        simp at h hn
        omega
theorem refNum_of {k : Int} {s : List UInt8} (h : 0 ≤ refNum k s) : (numK k s).2 = true ∧ (numK k s).1 = refNum k s := by
  have h2 : (numK k s).2 = true := by
    cases hc : (numK k s).2 with
    | true => rfl
    | false => have := numK_neg.1 hc; omega
  refine ⟨h2, ?_⟩
  unfold refNum
  rw [if_pos h2]

/-- A row's numbers. -/
def rowFrom (step : Nat) (last : Int) : Nat → Nat → List Nat
  | 0, _ => []
  | f + 1, n => if (n : Int) ≤ last then n :: rowFrom step last f (n + step) else []
def refEnd (first last step : Int) : List Nat × Int := if step = 0 ∨ 59 < step then ([], 61) else (rowFrom step.toNat last 200 first.toNat, 0)
def refEnds (k a b step : Int) : List Nat × Int :=
  if a < 0 ∨ b < 0 then ([], 60) else if a < lowK k ∨ highK k < a ∨ highK k < b ∨ b < a then ([], 61) else refEnd a b step
def refBody (k : Int) (body : List UInt8) (two : Bool) (step : Int) : List Nat × Int :=
  if body = [42] then refEnd (lowK k) (mostK k) step else
  match sp 45 body with
  | [a] => if two = true then ([], 60) else refEnds k (refNum k a) (refNum k a) step
  | [a, b] => refEnds k (refNum k a) (refNum k b) step
  | _ => ([], 60)
def refItem (k : Int) (s : List UInt8) : List Nat × Int :=
  match sp 47 s with
  | [a] => refBody k a false 1
  | [a, b] => if refNum 0 b < 0 then ([], 60) else refBody k a true (refNum 0 b)
  | _ => ([], 60)

def orRow (M : Nat) (l : List Nat) (set : Nat) : Nat := l.foldl (fun st n => st ||| pow2 (modN n M)) set
theorem setFrom_row (M step : Nat) (last : Int) : ∀ (f n set : Nat), setFrom M step last f n set = orRow M (rowFrom step last f n) set
  | 0, n, set => rfl
  | f + 1, n, set => by
    unfold setFrom rowFrom
    by_cases h : (n : Int) ≤ last
    · rw [if_pos h, if_pos h, setFrom_row M step last f]; rfl
    · rw [if_neg h, if_neg h]; rfl
/-- What the program makes of a row. -/
def asItem (k : Int) (r : List Nat × Int) : Nat × Int := (orRow (mostK k + 1).toNat r.1 0, r.2)

theorem fin_ref {k first last step : Int} (hle : first ≤ last) (hs : 0 ≤ step) : finK k first last step 0 = asItem k (refEnd first last step) := by
  unfold finK refEnd asItem
  rw [if_neg (by simp)]
  by_cases h : step = 0 ∨ 59 < step
  · rw [if_pos (by omega), if_pos h]; rfl
  · rw [if_neg (by omega), if_neg h, setFrom_row]
theorem fin_err {k first last step e : Int} (h : e ≠ 0) : finK k first last step e = (0, e) := by unfold finK; rw [if_pos h]
theorem ends_ref {k : Int} {a b : List UInt8} {step : Int} (hs : 0 ≤ step) : finK k (numK k a).1 (numK k b).1 step (takeE k b (takeE k a 0)) = asItem k (refEnds k (refNum k a) (refNum k b) step) := by
  unfold refEnds
  by_cases ha : refNum k a < 0
  · rw [if_pos (.inl ha)]
    have e1 : takeE k a 0 = 60 := by unfold takeE; rw [if_pos (numK_neg.2 ha)]
    have e2 : takeE k b 60 = 60 := by unfold takeE; split; rfl; rw [if_neg (by simp)]
    rw [e1, e2, fin_err (by decide)]; rfl
  · obtain ⟨a1, a2⟩ := refNum_of (k := k) (s := a) (by omega)
    by_cases hb : refNum k b < 0
    · rw [if_pos (.inr hb)]
      have e2 : ∀ e, takeE k b e = 60 := fun e => by unfold takeE; rw [if_pos (numK_neg.2 hb)]
      rw [e2, fin_err (by decide)]; rfl
    · obtain ⟨b1, b2⟩ := refNum_of (k := k) (s := b) (by omega)
      rw [if_neg (by omega)]
      have e1 : takeE k a 0 = if refNum k a < lowK k ∨ highK k < refNum k a then 61 else 0 := by
        unfold takeE; rw [if_neg (by simp [a1]), a2]; simp
      have e2 : ∀ e, takeE k b e = if e = 0 ∧ (refNum k b < lowK k ∨ highK k < refNum k b) then 61 else e := fun e => by
        unfold takeE; rw [if_neg (by simp [b1]), b2]
      rw [e1, e2, a2, b2]
      by_cases c1 : refNum k a < lowK k ∨ highK k < refNum k a
      · rw [if_pos c1, if_neg (by omega), fin_err (by decide), if_pos (by omega)]; rfl
      · rw [if_neg c1]
        by_cases c2 : refNum k b < lowK k ∨ highK k < refNum k b
        · rw [if_pos ⟨rfl, c2⟩, fin_err (by decide), if_pos (by omega)]; rfl
        · rw [if_neg (fun h => c2 h.2)]
          by_cases c3 : refNum k b < refNum k a
          · rw [if_pos (by omega)]
            unfold finK asItem
            rw [if_neg (by simp), if_pos (.inl c3)]; rfl
          · rw [if_neg (by omega), fin_ref (by omega) hs]

theorem split_mem {c : UInt8} {s : List UInt8} (h : c ∈ s) : ∃ a b, s = a ++ c :: b ∧ c ∉ a := by
  induction s with
  | nil => cases h
  | cons x s ih =>
    by_cases hx : x = c
    · subst hx; exact ⟨[], s, rfl, by simp⟩
    · obtain ⟨a, b, rfl, h2⟩ := ih (by rcases List.mem_cons.1 h with h | h; exact absurd h.symm hx; exact h)
      exact ⟨x :: a, b, rfl, by simp [h2, Ne.symm hx]⟩
/-- A text at a byte: none, once, or more often. -/
theorem sp_cases (c : UInt8) (s : List UInt8) : (sp c s = [s] ∧ ct c s = (s, [], false)) ∨ (∃ a b, sp c s = [a, b] ∧ ct c s = (a, b, true)) ∨ (∃ a b x y r, sp c s = a :: x :: y :: r ∧ ct c s = (a, b, true) ∧ c ∈ b) := by
  by_cases h : c ∈ s
  · obtain ⟨a, b, rfl, ha⟩ := split_mem h
    right
    rw [sp_app, sp_not ha, ct_app ha]
    by_cases hb : c ∈ b
    · right
      obtain ⟨a2, b2, rfl, ha2⟩ := split_mem hb
      rw [sp_app, sp_not ha2]
      cases he : sp c b2 with
      | nil => exact absurd he (sp_ne c b2)
      | cons y r => exact ⟨a, _, a2, y, r, rfl, rfl, hb⟩
    · left
      rw [sp_not hb]
      exact ⟨a, b, rfl, rfl⟩
  · exact .inl ⟨sp_not h, ct_not h⟩

theorem body_ref {k : Int} (hk : isK k = true) (body : List UInt8) (two : Bool) {step : Int} (hs : 0 ≤ step) : bodyK k body two step = asItem k (refBody k body two step) := by
  have hb := bounds_le hk
  unfold bodyK refBody
  by_cases h : body = [42]
  · rw [if_pos h, if_pos h, fin_ref (by omega) hs]
  · rw [if_neg h, if_neg h, cut_ct]
    rcases sp_cases 45 body with ⟨h1, h2⟩ | ⟨a, b, h1, h2⟩ | ⟨a, b, x, y, r, h1, h2, h3⟩
    · rw [h1, h2]
      cases two with
      | true => simp [asItem, orRow]
      | false =>
        simp only [Bool.false_eq_true, false_and, if_false]
        have e := ends_ref (k := k) (a := body) (b := body) hs
        have e2 : takeE k body (takeE k body 0) = takeE k body 0 := by
          unfold takeE
          split
          · rfl
          · split
            · rw [if_neg (by simp)]
            · first | rfl | (rename_i h3; rw [if_neg h3])
        rw [e2] at e
        exact e
    · rw [h1, h2]
      simp only [Bool.true_eq_false, and_false, if_false, if_true]
      exact ends_ref hs
    · rw [h1, h2]
      simp only [Bool.true_eq_false, and_false, if_false, if_true]
      rw [ends_ref hs]
      unfold refEnds
      rw [if_pos (.inr (by rw [refNum_bad (.inl rfl) h3]; decide))]
theorem item_ref {k : Int} (hk : isK k = true) (s : List UInt8) : itemK k s = asItem k (refItem k s) := by
  unfold itemK refItem
  rw [cut_ct]
  rcases sp_cases 47 s with ⟨h1, h2⟩ | ⟨a, b, h1, h2⟩ | ⟨a, b, x, y, r, h1, h2, h3⟩
  · rw [h1, h2]
    simp only [Bool.false_eq_true, if_false]
    exact body_ref hk _ _ (by decide)
  · rw [h1, h2]
    simp only [if_true]
    by_cases hn : refNum 0 b < 0
    · rw [if_pos (numK_neg.2 hn), if_pos hn]; rfl
    · obtain ⟨b1, b2⟩ := refNum_of (k := 0) (s := b) (by omega)
      rw [if_neg (by simp [b1]), if_neg hn, b2]
      exact body_ref hk _ _ (by omega)
  · rw [h1, h2]
    simp only [if_true]
    rw [if_pos (numK_neg.2 (by rw [refNum_bad (.inr rfl) h3]; decide))]
    rfl
theorem rowFrom_in {step : Nat} {last : Int} (hs : 0 < step) : ∀ (f n : Nat), ∀ x ∈ rowFrom step last f n, n ≤ x ∧ (x : Int) ≤ last
  | 0, n, x, h => by simp [rowFrom] at h
  | f + 1, n, x, h => by
    unfold rowFrom at h
    split at h
    · rcases List.mem_cons.1 h with rfl | h
      · omega
      · have := rowFrom_in hs f _ x h; omega
    · simp at h
/-- The numbers of an item: no greater than the kind's, but for the 7 of days. -/
theorem refItem_in {k : Int} (hk : isK k = true) (s : List UInt8) : ∀ x ∈ (refItem k s).1, (x : Int) ≤ highK k := by
  have hb := bounds_le hk
  have hE : ∀ {first last step : Int}, 0 ≤ step → last ≤ highK k → ∀ x ∈ (refEnd first last step).1, (x : Int) ≤ highK k := fun {first last step} hs hl x hx => by
    unfold refEnd at hx
    split at hx
    · simp at hx
    · have := rowFrom_in (by omega) _ _ x hx; omega
  have hEs : ∀ {a b step : Int}, 0 ≤ step → ∀ x ∈ (refEnds k a b step).1, (x : Int) ≤ highK k := fun {a b step} hs x hx => by
    unfold refEnds at hx
    split at hx
    · simp at hx
    · split at hx
      · simp at hx
      · exact hE hs (by omega) x hx
  have hB : ∀ {body : List UInt8} {two : Bool} {step : Int}, 0 ≤ step → ∀ x ∈ (refBody k body two step).1, (x : Int) ≤ highK k := fun {body two step} hs x hx => by
    unfold refBody at hx
    split at hx
    · exact hE hs (by omega) x hx
    · split at hx
      · split at hx
        · simp at hx
        · exact hEs hs x hx
      · exact hEs hs x hx
      · simp at hx
  intro x hx
  unfold refItem at hx
  split at hx
  · exact hB (by decide) x hx
  · split at hx
    · simp at hx
    · exact hB (by omega) x hx
  · simp at hx
end Go.Proofs.YtdpgnbinekcgdaaGreatDoor
