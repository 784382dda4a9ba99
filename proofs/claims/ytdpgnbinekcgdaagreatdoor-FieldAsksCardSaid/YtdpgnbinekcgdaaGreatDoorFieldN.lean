/- Fields: a word's number. -/
import Derived.Test.YtdpgnbinekcgdaaGreatDoorFieldA
namespace Go.Proofs.YtdpgnbinekcgdaaGreatDoor
open Rg Go

variable {H : Heap}

theorem trim_beq (s : List UInt8) : (Lib.trimS s digs == []) = decide (Lib.trimS s digs = []) := by
  cases Lib.trimS s digs <;> simp

theorem c_number (hG : Glob H) (k : Int) (s : List UInt8) (hs : s.length ≤ 1000000) : AOk Tryz.prog 84 [.sc (.int .i64 k), str s] H (.tup [.sc (.int .i64 (numK k s).1), .sc (.bool (numK k s).2)]) H := by
  have hn := nameK_le k (Lib.mapD lowR s)
  have hw : IntKind.i64.wrap (idxL months (Lib.mapD lowR s) 0 + 1) = idxL months (Lib.mapD lowR s) 0 + 1 := by
    have h1 := idxL_le (Lib.mapD lowR s) months 0
    simp only [months, List.length_cons, List.length_nil] at h1
    simp only [months]
    exact wrap_i64 (by omega) (by omega)
  have eM : Lib.idxOfS (months.map fun l => (⟨l.toArray⟩ : ByteArray)) ⟨(Lib.mapD lowR s).toArray⟩ = idxL months (Lib.mapD lowR s) 0 := idxL_eq _ _ _
  have eD : Lib.idxOfS (days.map fun l => (⟨l.toArray⟩ : ByteArray)) ⟨(Lib.mapD lowR s).toArray⟩ = idxL days (Lib.mapD lowR s) 0 := idxL_eq _ _ _
  refine ACalls.into Tryz.func84 rfl Tryz.ntmps84 Tryz.results84 (by simp) ?_
  simp -implicitDefEqProofs
  have hcase : dig2 s = true ∨ ((1 : Int) ≤ s.length ∧ (s.length : Int) ≤ 2 ∧ Lib.trimS s digs ≠ []) ∨ ((1 : Int) ≤ s.length ∧ ¬ (s.length : Int) ≤ 2) ∨ ¬ (1 : Int) ≤ s.length := by
    by_cases h1 : (1 : Int) ≤ s.length <;> by_cases h2 : (s.length : Int) ≤ 2 <;> by_cases h3 : Lib.trimS s digs = [] <;> simp [h1, h2, h3, dig2] <;> omega
  cases hd : dig2 s with
  | true =>
    have hd' := hd
    simp only [dig2, Bool.and_eq_true, decide_eq_true_eq] at hd'
    obtain ⟨⟨h1, h2⟩, h3⟩ := hd'
    have h1' : (1 : Int) ≤ s.length := by omega
    have h2' : (s.length : Int) ≤ 2 := by omega
    simp -implicitDefEqProofs [h1', h2']
    refine ACall.eq (c_trim s digs (by omega) (by decide) (by decide)) ?_
    obtain ⟨m, hm, hm2⟩ := dig2_atoi hd
    simp -implicitDefEqProofs [h3]
    refine ACall.eq (c_atoi s _ (by omega) hm) ?_
    simp -implicitDefEqProofs [numK, hd, hm]
  | false =>
    have eK : numK k s = (nameK k (Lib.mapD lowR s), decide (0 ≤ nameK k (Lib.mapD lowR s))) := by simp [numK, hd]
    rw [eK]
    rcases hcase with hc | ⟨h1, h2, h3⟩ | ⟨h1, h2⟩ | h1
    · rw [hd] at hc; cases hc
    · simp -implicitDefEqProofs [h1, h2]
      refine ACall.eq (c_trim s digs (by omega) (by decide) (by decide)) ?_
      have h3' : (Lib.trimS s digs).isEmpty = false := by simpa using h3
      simp -implicitDefEqProofs [h3']
      refine AAlloc.intro fun b1 hb1 => ?_
      simp -implicitDefEqProofs
      refine AAlloc.intro fun b2 hb2 => ?_
      simp -implicitDefEqProofs
      have hG1 := fun o => hG.set (b := b1) (o := o) (by simp [hb1])
      have hb21 : b2 ≠ b1 := by intro e; subst e; simp [Heap.set] at hb2
      have hb12 := Ne.symm hb21
      have hG2 := fun o => (hG1 _).set (b := b2) (o := o) (fun us e => by rw [hb2] at e; cases e)
      refine ACall.eq (c_map (hG2 _) s (by omega)) ?_
      have hb2' : H b2 = none := (HLe.set_fresh hb1).none hb2
      have hk2 : ∀ o o', HWk H ((H.set b1 o).set b2 o') := fun o o' => HWk.new hb2' (HWk.new hb1 (HWk.refl _))
      by_cases k3 : k = 3
      · subst k3
        simp -implicitDefEqProofs [hb21, hb12, maxLen]
        refine ACall.eq (c_index months .no _ (by decide)) ?_
        rw [eM]
        by_cases hi : 0 ≤ idxL months (Lib.mapD lowR s) 0
        · have hi' : 0 ≤ idxL months (Lib.mapD lowR s) 0 + 1 := by omega
          simp -implicitDefEqProofs [hi, hi', hw, nameK]
          exact HWk.dels hb1 (hk2 _ _)
        · simp -implicitDefEqProofs [hi, nameK]
          exact HWk.dels hb1 (hk2 _ _)
      · by_cases k4 : k = 4
        · subst k4
          simp -implicitDefEqProofs [hb21, hb12, maxLen]
          refine ACall.eq (c_index days .no _ (by decide)) ?_
          rw [eD]
          simp -implicitDefEqProofs [nameK]
          exact HWk.dels hb2' (hk2 _ _)
        · simp -implicitDefEqProofs [k3, k4, nameK]
          exact hk2 _ _
    · simp -implicitDefEqProofs [h1, h2]
      refine AAlloc.intro fun b1 hb1 => ?_
      simp -implicitDefEqProofs
      refine AAlloc.intro fun b2 hb2 => ?_
      simp -implicitDefEqProofs
      have hG1 := fun o => hG.set (b := b1) (o := o) (by simp [hb1])
      have hb21 : b2 ≠ b1 := by intro e; subst e; simp [Heap.set] at hb2
      have hb12 := Ne.symm hb21
      have hG2 := fun o => (hG1 _).set (b := b2) (o := o) (fun us e => by rw [hb2] at e; cases e)
      refine ACall.eq (c_map (hG2 _) s (by omega)) ?_
      have hb2' : H b2 = none := (HLe.set_fresh hb1).none hb2
      have hk2 : ∀ o o', HWk H ((H.set b1 o).set b2 o') := fun o o' => HWk.new hb2' (HWk.new hb1 (HWk.refl _))
      by_cases k3 : k = 3
      · subst k3
        simp -implicitDefEqProofs [hb21, hb12, maxLen]
        refine ACall.eq (c_index months .no _ (by decide)) ?_
        rw [eM]
        by_cases hi : 0 ≤ idxL months (Lib.mapD lowR s) 0
        · have hi' : 0 ≤ idxL months (Lib.mapD lowR s) 0 + 1 := by omega
          simp -implicitDefEqProofs [hi, hi', hw, nameK]
          exact HWk.dels hb1 (hk2 _ _)
        · simp -implicitDefEqProofs [hi, nameK]
          exact HWk.dels hb1 (hk2 _ _)
      · by_cases k4 : k = 4
        · subst k4
          simp -implicitDefEqProofs [hb21, hb12, maxLen]
          refine ACall.eq (c_index days .no _ (by decide)) ?_
          rw [eD]
          simp -implicitDefEqProofs [nameK]
          exact HWk.dels hb2' (hk2 _ _)
        · simp -implicitDefEqProofs [k3, k4, nameK]
          exact hk2 _ _
    · simp -implicitDefEqProofs [h1]
      refine AAlloc.intro fun b1 hb1 => ?_
      simp -implicitDefEqProofs
      refine AAlloc.intro fun b2 hb2 => ?_
      simp -implicitDefEqProofs
      have hG1 := fun o => hG.set (b := b1) (o := o) (by simp [hb1])
      have hb21 : b2 ≠ b1 := by intro e; subst e; simp [Heap.set] at hb2
      have hb12 := Ne.symm hb21
      have hG2 := fun o => (hG1 _).set (b := b2) (o := o) (fun us e => by rw [hb2] at e; cases e)
      refine ACall.eq (c_map (hG2 _) s (by omega)) ?_
      have hb2' : H b2 = none := (HLe.set_fresh hb1).none hb2
      have hk2 : ∀ o o', HWk H ((H.set b1 o).set b2 o') := fun o o' => HWk.new hb2' (HWk.new hb1 (HWk.refl _))
      by_cases k3 : k = 3
      · subst k3
        simp -implicitDefEqProofs [hb21, hb12, maxLen]
        refine ACall.eq (c_index months .no _ (by decide)) ?_
        rw [eM]
        by_cases hi : 0 ≤ idxL months (Lib.mapD lowR s) 0
        · have hi' : 0 ≤ idxL months (Lib.mapD lowR s) 0 + 1 := by omega
          simp -implicitDefEqProofs [hi, hi', hw, nameK]
          exact HWk.dels hb1 (hk2 _ _)
        · simp -implicitDefEqProofs [hi, nameK]
          exact HWk.dels hb1 (hk2 _ _)
      · by_cases k4 : k = 4
        · subst k4
          simp -implicitDefEqProofs [hb21, hb12, maxLen]
          refine ACall.eq (c_index days .no _ (by decide)) ?_
          rw [eD]
          simp -implicitDefEqProofs [nameK]
          exact HWk.dels hb2' (hk2 _ _)
        · simp -implicitDefEqProofs [k3, k4, nameK]
          exact hk2 _ _
end Go.Proofs.YtdpgnbinekcgdaaGreatDoor
