/- Whether entries, and rows of them, are the same; what the statements ask of rows. -/
import Derived.Test.YtdcblangeonhpaaCd
namespace Go.Proofs.Ytdcblangeonhpaa
open Rg Go

def sameE (a b : Ent) : Bool := decide (a.i = b.i) && (decide (a.t = b.t) && decide (a.b = b.b))
theorem sameE_iff {a b : Ent} : sameE a b = true ↔ a = b := by
  cases a; cases b; simp [sameE]
def allE : List Ent → List Ent → Bool
  | [], [] => true
  | a :: A, b :: B => sameE a b && allE A B
  | _, _ => false
theorem allE_iff : ∀ {A B : List Ent}, allE A B = true ↔ A = B
  | [], [] => by simp [allE]
  | a :: A, b :: B => by simp [allE, sameE_iff, allE_iff (A := A) (B := B)]
  | [], _ :: _ => by simp [allE]
  | _ :: _, [] => by simp [allE]
@[simp] theorem allE_same (A : List Ent) : allE A A = true := allE_iff.2 rfl
@[simp] theorem sameE_same (a : Ent) : sameE a a = true := sameE_iff.2 rfl

@[simp] theorem abytes_body (b : List UInt8) : abytes (b.map byteAV) = some b := by
  induction b with
  | nil => rfl
  | cons c b ih =>
    have h := c.toNat_lt
    simp [abytes, ih]
    omega

variable {H : Heap}

theorem same_ok (a b : Ent) : AOk Try.prog 13 [a.av, b.av] H (boolV (sameE a b)) H := by
  refine ACalls.into Try.func13 rfl Try.ntmps13 Try.results13 (by simp) ?_
  simp -implicitDefEqProofs
  refine AAlloc.intro fun c hc => ?_
  simp -implicitDefEqProofs
  refine AAlloc.intro fun d hd => ?_
  have n12 : c ≠ d := by rintro rfl; simp at hd
  have n21 := n12.symm
  have hd : H d = none := by simpa [n21] using hd
  by_cases h1 : a.i = b.i
  · by_cases h2 : a.t = b.t
    · simp -implicitDefEqProofs [n12, n21, h1, h2, sameE, aconv, sbin, Go.ByteArray.toList_mk]
      exact ⟨by by_cases h3 : a.b = b.b <;> simp [h3], ((HWk.refl H).new hc).new hd⟩
    · simp -implicitDefEqProofs [n12, n21, h1, h2, sameE]
      exact ((HWk.refl H).new hc).new hd
  · simp -implicitDefEqProofs [n12, n21, h1, sameE]
    exact ((HWk.refl H).new hc).new hd

theorem all_ok (A B : List Ent) (hA : A.length ≤ 1000000000) : AOk Try.prog 15 [rowAV A, rowAV B] H (boolV (allE A B)) H := by
  have hlen : ∀ {A B : List Ent}, A.length ≠ B.length → allE A B = false := by
    intro A B h
    cases hc : allE A B with
    | false => rfl
    | true => rw [allE_iff] at hc; subst hc; exact absurd rfl h
  refine ACalls.into Try.func15 rfl Try.ntmps15 Try.results15 (by simp) ?_
  by_cases hl : A.length = B.length
  · have hl' : (A.length : Int) = B.length := by omega
    simp -implicitDefEqProofs [hl']
    refine AGo.rounds (fun m ρ K => ∃ j : Nat, j ≤ A.length ∧ m = A.length - j ∧ ρ 0 = rowAV A ∧ ρ 1 = rowAV B ∧ ρ 5 = .sc (.int .i64 j) ∧ allE A B = allE (A.drop j) (B.drop j) ∧ K = H)
      ?_ (m := A.length) (HLe.refl H) ⟨0, by omega, by omega, by simp, by simp, by simp, by simp, rfl⟩
    rintro m ρ K ih ⟨j, hj, rfl, h0, h1, h5, hall, rfl⟩
    by_cases hlt : j < A.length
    · have hltB : j < B.length := by omega
      rw [List.drop_eq_getElem_cons hlt, List.drop_eq_getElem_cons hltB] at hall
      simp -implicitDefEqProofs [h0, h1, h5, hlt]
      refine go_draw 10 f_mixed (by decide +kernel) ?_
      simp -implicitDefEqProofs [h0, h1, h5, hlt, hltB]
      refine AQS.eq (same_ok A[j] B[j]) ?_
      cases hs : sameE A[j] B[j] with
      | true =>
        simp -implicitDefEqProofs [h5]
        refine AGo.again ih (m' := A.length - (j + 1)) (by omega) (HLe.refl _) ⟨j + 1, by omega, rfl, by simp [h0], by simp [h1], ?_, ?_, rfl⟩
        · simp
          rw [wrap_i64 (by omega) (by omega)]
        · rw [hall]; simp only [allE, hs, Bool.true_and]
      | false =>
        simp -implicitDefEqProofs
        rw [hall]; simp only [allE, hs, Bool.false_and]
    · simp -implicitDefEqProofs [h0, h1, h5, hlt]
      rw [hall, List.drop_eq_nil_of_le (by omega), List.drop_eq_nil_of_le (by omega)]
      rfl
  · have hl' : ¬ (A.length : Int) = B.length := by omega
    simp -implicitDefEqProofs [hl', hlen hl]

def bodiesB (L : List Ent) : Bool := L.any fun e => decide (100 < e.b.length)

theorem bodies_ok (L : List Ent) (hL : L.length ≤ 1000000000) : AOk Try.prog 7 [rowAV L] H (boolV (bodiesB L)) H := by
  refine ACalls.into Try.func7 rfl Try.ntmps7 Try.results7 (by simp) ?_
  simp -implicitDefEqProofs
  refine AGo.rounds (fun m ρ K => ∃ j : Nat, j ≤ L.length ∧ m = L.length - j ∧ ρ 0 = rowAV L ∧ ρ 3 = .sc (.int .i64 j) ∧ bodiesB L = bodiesB (L.drop j) ∧ K = H)
    ?_ (m := L.length) (HLe.refl H) ⟨0, by omega, by omega, by simp, by simp, by simp, rfl⟩
  rintro m ρ K ih ⟨j, hj, rfl, h0, h3, hall, rfl⟩
  by_cases hlt : j < L.length
  · rw [List.drop_eq_getElem_cons hlt] at hall
    by_cases hb : (100 : Int) < L[j].b.length
    · simp -implicitDefEqProofs [h0, h3, hlt, hb]
      rw [hall]; simp only [bodiesB, List.any_cons, Bool.or_eq_true, decide_eq_true_eq, true_eq_decide_iff, eq_comm (a := true), HWk_same, and_true]; left; omega
    · simp -implicitDefEqProofs [h0, h3, hlt, hb]
      refine AGo.again ih (m' := L.length - (j + 1)) (by omega) (HLe.refl _) ⟨j + 1, by omega, rfl, by simp [h0], ?_, ?_, rfl⟩
      · simp
        rw [wrap_i64 (by omega) (by omega)]
      · rw [hall]; simp only [bodiesB, List.any_cons]; rw [decide_eq_false (by omega)]; rfl
  · simp -implicitDefEqProofs [h0, h3, hlt]
    rw [hall, List.drop_eq_nil_of_le (by omega)]
    rfl

end Go.Proofs.Ytdcblangeonhpaa
