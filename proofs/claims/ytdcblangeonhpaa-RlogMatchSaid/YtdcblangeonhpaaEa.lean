/- Plain laws of logs that are filled from rows that agree. -/
import Derived.Test.YtdcblangeonhpaaDb
namespace Go.Proofs.Ytdcblangeonhpaa
open Rg Go

def Agr (T S : List Ent) : Prop := ∀ j, AgreeAt T S j
theorem Agr.refl (T : List Ent) : Agr T T := fun _ _ _ _ _ _ => rfl
theorem Agr.symm {T S : List Ent} (h : Agr T S) : Agr S T := fun j a b ha hb e => (h j b a hb ha e.symm).symm

theorem term_zero {Z : List Ent} {j : Nat} : termE 0 0 Z (j + 1) = Z[j]?.map Ent.t := by
  unfold termE getE
  rw [if_neg (by omega), if_neg (by omega)]
  congr 2; omega

theorem take_get {T S : List Ent} {j e : Nat} (h : T.take e = S.take e) (hj : j < e) : T[j]? = S[j]? := by
  have h1 : (T.take e)[j]? = (S.take e)[j]? := by rw [h]
  simpa [List.getElem?_take, hj] using h1

theorem drop_cons {S : List Ent} {j e : Nat} {x : Ent} (hx : S[j]? = some x) (he : j < e) : (S.take e).drop j = x :: (S.take e).drop (j + 1) := by
  have hj := (List.getElem?_eq_some_iff.1 hx).1
  have hx' := (List.getElem?_eq_some_iff.1 hx).2
  rw [List.drop_eq_getElem_cons (by simp; omega)]
  simp [hx']

section
variable {S T Z : List Ent} {n e : Nat}

theorem putGo_part (hS : ∀ j, FromAt S j) (hT : Agr T S) (hZ : Z = T.take n) (he : e ≤ S.length) :
    ∀ (m j : Nat), j + m = e → j ≤ Z.length → Z.take j = S.take j → ∃ f Z', putGo 0 0 Z ((S.take e).drop j) = ((f, true), Z') ∧ (Z' = Z ∨ Z' = S.take e) ∧ Z'.take e = S.take e
  | 0, j, hj, hjl, hz => by
    obtain rfl : j = e := by omega
    refine ⟨0, Z, ?_, .inl rfl, hz⟩
    rw [List.drop_eq_nil_of_le (by simp; omega)]; rfl
  | m + 1, j, hj, hjl, hz => by
    obtain ⟨x, hx⟩ : ∃ x, S[j]? = some x := ⟨S[j]'(by omega), List.getElem?_eq_getElem _⟩
    have hd := drop_cons hx (show j < e by omega)
    have hf := (hS j x hx).1
    rw [hd]
    simp only [putGo]
    rw [if_neg (by omega), hf]
    by_cases hc : termE 0 0 Z (j + 1) = some x.t
    · rw [if_pos hc]
      rw [term_zero] at hc
      obtain ⟨z, hz1, hz2⟩ := Option.map_eq_some_iff.1 hc
      have hjZ := (List.getElem?_eq_some_iff.1 hz1).1
      have hjn : j < n := by rw [hZ] at hjZ; simp at hjZ; omega
      have hT1 : T[j]? = some z := by rw [hZ, List.getElem?_take, if_pos hjn] at hz1; exact hz1
      have hTS := hT j z x hT1 hx hz2
      refine putGo_part hS hT hZ he m (j + 1) (by omega) (by omega) ?_
      rw [← hTS, hZ, List.take_take]
      congr 1; omega
    · rw [if_neg hc, if_neg (by omega)]
      have hji : ((j : Int) + 1 - 0 - 1).toNat = j := by omega
      have hfull : Z.take ((j : Int) + 1 - 0 - 1).toNat ++ x :: (S.take e).drop (j + 1) = S.take e := by
        rw [hji, hz, ← hd, show S.take j = (S.take e).take j by rw [List.take_take]; congr 1; omega, List.take_append_drop]
      exact ⟨_, _, rfl, .inr hfull, by rw [hfull, List.take_take, Nat.min_self]⟩

theorem putGo_again (hS : ∀ j, FromAt S j) (he : e ≤ S.length) (hZ : Z.take e = S.take e) :
    ∀ (m j : Nat), j + m = e → putGo 0 0 Z ((S.take e).drop j) = ((0, true), Z)
  | 0, j, hj => by rw [List.drop_eq_nil_of_le (by simp; omega)]; rfl
  | m + 1, j, hj => by
    obtain ⟨x, hx⟩ : ∃ x, S[j]? = some x := ⟨S[j]'(by omega), List.getElem?_eq_getElem _⟩
    have hf := (hS j x hx).1
    rw [drop_cons hx (show j < e by omega)]
    simp only [putGo]
    rw [if_neg (by omega), hf, if_pos (by rw [term_zero, take_get hZ (show j < e by omega), hx]; rfl)]
    exact putGo_again hS he hZ m (j + 1) (by omega)

def TermOf (S : List Ent) (a : Nat) (u : Int) : Prop := (a = 0 ∧ u = 0) ∨ ∃ p, 0 < a ∧ S[a - 1]? = some p ∧ u = p.t

theorem stand_part (hS : ∀ j, FromAt S j) (a : Nat) : standB a ((S.take e).drop a) = true := by
  rw [standB_iff]
  intro j x hx
  rw [List.getElem?_drop, List.getElem?_take] at hx
  split at hx
  · have := (hS _ x hx).1
    rw [this]; push_cast; omega
  · cases hx

theorem putE_part (hS : ∀ j, FromAt S j) (hT : Agr T S) (hZ : Z = T.take n) {a : Nat} {u : Int} (hu : TermOf S a u) (hae : a ≤ e) (he : e ≤ S.length) :
    putE 0 0 Z a u ((S.take e).drop a) = ((0, false), Z) ∨
    ∃ f Z', putE 0 0 Z a u ((S.take e).drop a) = ((f, true), Z') ∧ (Z' = Z ∨ Z' = S.take e) ∧ Z'.take e = S.take e ∧ putE 0 0 Z' a u ((S.take e).drop a) = ((0, true), Z') := by
  unfold putE
  rw [if_pos (stand_part hS a)]
  by_cases hc : termE 0 0 Z a = some u
  · rw [if_neg (by simp [hc])]
    have hle := termE_le hc
    have hz : Z.take a = S.take a := by
      rcases hu with ⟨rfl, rfl⟩ | ⟨p, h0, hp, rfl⟩
      · simp
      · obtain ⟨j, rfl⟩ : ∃ j, a = j + 1 := ⟨a - 1, by omega⟩
        rw [show ((j + 1 : Nat) : Int) = (j : Int) + 1 by omega, term_zero] at hc
        obtain ⟨z, hz1, hz2⟩ := Option.map_eq_some_iff.1 hc
        have hjZ := (List.getElem?_eq_some_iff.1 hz1).1
        have hjn : j < n := by rw [hZ] at hjZ; simp at hjZ; omega
        have hT1 : T[j]? = some z := by rw [hZ, List.getElem?_take, if_pos hjn] at hz1; exact hz1
        have hTS := hT j z p hT1 (by simpa using hp) hz2
        rw [← hTS, hZ, List.take_take]
        congr 1; omega
    obtain ⟨f, Z', h1, h2, h3⟩ := putGo_part hS hT hZ he (e - a) a (by omega) (by omega) hz
    refine .inr ⟨f, Z', h1, h2, h3, ?_⟩
    have hc2 : termE 0 0 Z' a = some u := by
      rcases hu with ⟨rfl, rfl⟩ | ⟨p, h0, hp, rfl⟩
      · simp [termE]
      · obtain ⟨j, rfl⟩ : ∃ j, a = j + 1 := ⟨a - 1, by omega⟩
        rw [show ((j + 1 : Nat) : Int) = (j : Int) + 1 by omega, term_zero, take_get h3 (show j < e by omega)]
        simp at hp
        simp [hp]
    rw [if_pos (stand_part hS a), if_neg (by simp [hc2])]
    exact putGo_again hS he h3 (e - a) a (by omega)
  · rw [if_pos ⟨by omega, hc⟩]
    exact .inl rfl

end

/-- A log that was filled from one of two rows. -/
def Pre (A B X : List Ent) : Prop := ∃ T n, (T = A ∨ T = B) ∧ X = T.take n
theorem Pre.nil (A B : List Ent) : Pre A B [] := ⟨A, 0, .inl rfl, by simp⟩

theorem agr_of {A B S T : List Ent} (h : Agr A B) (hS : S = A ∨ S = B) (hT : T = A ∨ T = B) : Agr T S := by
  rcases hS with rfl | rfl <;> rcases hT with rfl | rfl
  · exact .refl _
  · exact h.symm
  · exact h
  · exact .refl _

theorem Pre.st {A B X : List Ent} (h : Pre A B X) (hA : Fits A) (hB : Fits B) (sA : Slim A) (sB : Slim B) (lA : A.length ≤ 30) (lB : B.length ≤ 30) (fA : ∀ j, FromAt A j) (fB : ∀ j, FromAt B j) : St 0 0 X := by
  obtain ⟨T, n, hT, rfl⟩ := h
  have key : ∀ T : List Ent, Fits T → Slim T → T.length ≤ 30 → (∀ j, FromAt T j) → St 0 0 (T.take n) := fun T h1 h2 h3 h4 =>
    ⟨by omega, by omega, by omega, by omega, by simp; omega, fun e he => h2 e (List.mem_of_mem_take he), (fun j e he => by
      rw [List.getElem?_take] at he
      split at he
      · rw [(h4 j e he).1]; omega
      · cases he), fun e he => (h1 e (List.mem_of_mem_take he)).2⟩
  rcases hT with rfl | rfl
  · exact key _ hA sA lA fA
  · exact key _ hB sB lB fB

theorem Pre.agree {A B X Y : List Ent} (hX : Pre A B X) (hY : Pre A B Y) (h : Agr A B) {n : Nat} {s : Int} (h1 : termE 0 0 X (n + 1) = some s) (h2 : termE 0 0 Y (n + 1) = some s) : X.take (n + 1) = Y.take (n + 1) := by
  obtain ⟨T, p, hT, rfl⟩ := hX
  obtain ⟨U, q, hU, rfl⟩ := hY
  rw [term_zero] at h1 h2
  obtain ⟨x, hx, hxs⟩ := Option.map_eq_some_iff.1 h1
  obtain ⟨y, hy, hys⟩ := Option.map_eq_some_iff.1 h2
  rw [List.getElem?_take] at hx hy
  split at hx
  · split at hy
    · have := agr_of h hU hT n x y hx hy (by omega)
      rw [List.take_take, List.take_take, show min (n + 1) p = n + 1 by omega, show min (n + 1) q = n + 1 by omega, this]
    · cases hy
  · cases hx

end Go.Proofs.Ytdcblangeonhpaa
