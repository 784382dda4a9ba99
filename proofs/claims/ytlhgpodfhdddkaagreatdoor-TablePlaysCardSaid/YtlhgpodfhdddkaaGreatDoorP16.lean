/- The document's number of a word. The document's item. The document's fields: the least number from one on; a number's digits. The document's text of a field. The document's parse of a field. -/
import Derived.Test.YtlhgpodfhdddkaaGreatDoorP15
set_option linter.unusedSimpArgs false
set_option linter.unusedVariables false
set_option linter.unnecessarySimpa false
namespace Go.Proofs.YtlhgpodfhdddkaaGreatDoor
open Rg Go
variable {H : Heap}
theorem digV_snoc (l : List UInt8) (b : UInt8) : digV (l ++ [b]) = 10 * digV l + (b.toNat - 48) := by unfold digV; rw [List.foldl_append]; rfl
theorem digV_le : ∀ {l : List UInt8}, l.length ≤ 1 → l.all isD = true → digV l ≤ 9
  | [], _, _ => by decide
  | [a], _, h => by simp [isD] at h; simp [digV]; omega
  | _ :: _ :: _, h, _ => by simp at h
theorem take_snoc {s : List UInt8} {i : Nat} (h : i < s.length) : s.take (i + 1) = s.take i ++ [s[i]] := by rw [List.take_add_one, List.getElem?_eq_getElem h]; rfl
theorem lowB_u8 {c : UInt8} (h : 65 ≤ c.toNat ∧ c.toNat ≤ 90) : IntKind.u8.wrap ((c.toNat : Int) + 32) = ((lowB c).toNat : Int) := by
  have e : (lowB c).toNat = c.toNat + 32 := by
    unfold lowB; rw [if_pos h, UInt8.toNat_add]; simp; omega
  rw [e]
  have : (c.toNat : Int) + 32 = ((c.toNat + 32 : Nat) : Int) := by push_cast; rfl
  rw [this]
  simp [IntKind.wrap, IntKind.signed, IntKind.bits]
  omega
theorem flatM_at : ∀ j, j < 12 → (([106, 97, 110, 102, 101, 98, 109, 97, 114, 97, 112, 114, 109, 97, 121, 106, 117, 110, 106, 117, 108, 97, 117, 103, 115, 101, 112, 111, 99, 116, 110, 111, 118, 100, 101, 99] : List UInt8).take (3 * (j + 1))).drop (3 * j) = months.getD j [] := by decide
theorem flatD_at : ∀ j, j < 7 → (([115, 117, 110, 109, 111, 110, 116, 117, 101, 119, 101, 100, 116, 104, 117, 102, 114, 105, 115, 97, 116] : List UInt8).take (3 * (j + 1))).drop (3 * j) = days.getD j [] := by decide
theorem idxL_step {zs : List (List UInt8)} {x : List UInt8} {j : Nat} (hj : j < zs.length) : idxL (zs.drop j) x j = if zs.getD j [] = x then (j : Int) else idxL (zs.drop (j + 1)) x (j + 1) := by
  rw [List.drop_eq_getElem_cons hj]
  have e : zs.getD j [] = zs[j] := by rw [List.getD_eq_getElem?_getD, List.getElem?_eq_getElem hj]; rfl
  rw [e]
  rfl
def allD (s : List UInt8) : Bool := s.all isD
theorem allD_snoc (l : List UInt8) (b : UInt8) : allD (l ++ [b]) = (allD l && isD b) := by unfold allD; simp
theorem allD_take {s : List UInt8} {i : Nat} (h : allD (s.take i) = false) : allD s = false := by
  cases ha : allD s with
  | false => rfl
  | true =>
    have h3 := List.all_eq_true.1 ha
    have : allD (s.take i) = true := List.all_eq_true.2 (fun x hx => h3 x (List.mem_of_mem_take hx))
    rw [h] at this; cases this
theorem c_refNumber {k : Int} (hk : isK k = true) (s : List UInt8) (hs : s.length ≤ 1000000) : AOk Tryz.prog 106 [.sc (.int .i64 k), str s] H (.sc (.int .i64 (refNum k s))) H := by
  refine ACalls.into Tryz.func106 rfl Tryz.ntmps106 Tryz.results106 (by simp) ?_
  by_cases h12 : s.length = 1 ∨ s.length = 2
  · have hl3 : s.length ≠ 3 := by omega
    have hl3' : ¬ (s.length : Int) = 3 := by omega
    have hfin : refNum k s = if allD s = true then (digV s : Int) else -1 := by
      by_cases ha : allD s = true
      · rw [if_pos ha, refNum_dig h12 ha]
      · rw [if_neg ha, refNum_name (by unfold allD at ha; simp [ha]), nameK_len (by simpa using hl3)]
    rw [hfin]
    have hor : (s.length : Int) = 1 ∨ (¬ (s.length : Int) = 1 ∧ (s.length : Int) = 2) := by omega
    rcases hor with h1 | ⟨h1, h2⟩
    all_goals (first | (simp -implicitDefEqProofs [h2]; done) | simp -implicitDefEqProofs [h2] | simp -implicitDefEqProofs [h1])
    all_goals
      refine AGo.rounds (fun m ρ K => ∃ (i : Nat) (v : Int), i ≤ s.length ∧ m = s.length - i ∧ ρ 0 = .sc (.int .i64 k) ∧ ρ 1 = str s ∧ ρ 5 = .sc (.bool (allD (s.take i))) ∧ ρ 6 = .sc (.int .i64 v) ∧ ρ 7 = .sc (.int .i64 i) ∧
        (allD (s.take i) = true → v = digV (s.take i)) ∧ K = H) ?_ (m := s.length) (HLe.refl _) ⟨0, 0, by omega, rfl, by simp, by simp, by simp [allD], by simp, by simp, by simp [digV], rfl⟩
      rintro m ρ K ih ⟨i, v, hi, rfl, r0, r1, r5, r6, r7, hv, rfl⟩
      by_cases hlt : i < s.length
      · cases hd : allD (s.take i) with
        | false =>
          have hall := allD_take hd
          rw [hd] at r5
          simp -implicitDefEqProofs [r1, r5, r7, hlt, hl3', hall]
        | true =>
          rw [hd] at r5
          have hle := digV_le (l := s.take i) (by simp; omega) hd
          obtain rfl := hv hd
          have hsn := take_snoc hlt
          have hA : allD (s.take (i + 1)) = isD s[i] := by rw [hsn, allD_snoc, hd]; rfl
          have hV : (digV (s.take (i + 1)) : Int) = ((10 * digV (s.take i) + (s[i].toNat - 48) : Nat) : Int) := by rw [hsn, digV_snoc]
          generalize digV (s.take i) = d at *
          have hc256 := UInt8.toNat_lt s[i]
          have hwi : IntKind.i64.wrap ((i : Int) + 1) = ((i + 1 : Nat) : Int) := by rw [wrap_i64 (by omega) (by omega)]; push_cast; rfl
          have w1 : IntKind.i64.wrap (10 * (d : Int)) = 10 * (d : Int) := wrap_i64 (by omega) (by omega)
          have w2 : IntKind.i64.wrap ((s[i].toNat : Int)) = (s[i].toNat : Int) := wrap_i64 (by omega) (by omega)
          have w3 : IntKind.i64.wrap (10 * (d : Int) + (s[i].toNat : Int)) = 10 * (d : Int) + (s[i].toNat : Int) := wrap_i64 (by omega) (by omega)
          have w4 : IntKind.i64.wrap (10 * (d : Int) + (s[i].toNat : Int) - 48) = 10 * (d : Int) + (s[i].toNat : Int) - 48 := wrap_i64 (by omega) (by omega)
          have again : ∀ ρ' : Nat → AV, (isD s[i] = true → 48 ≤ s[i].toNat) → ρ' 0 = .sc (.int .i64 k) → ρ' 1 = str s → ρ' 5 = .sc (.bool (isD s[i])) → ρ' 6 = .sc (.int .i64 (10 * (d : Int) + (s[i].toNat : Int) - 48)) → ρ' 7 = .sc (.int .i64 ((i + 1 : Nat) : Int)) →
              ∃ (i' : Nat) (v : Int), i' ≤ s.length ∧ s.length - (i + 1) = s.length - i' ∧ ρ' 0 = .sc (.int .i64 k) ∧ ρ' 1 = str s ∧ ρ' 5 = .sc (.bool (allD (s.take i'))) ∧ ρ' 6 = .sc (.int .i64 v) ∧ ρ' 7 = .sc (.int .i64 i') ∧ (allD (s.take i') = true → v = digV (s.take i')) ∧ K = K :=
            fun ρ' h48 a0 a1 a5 a6 a7 => ⟨i + 1, _, by omega, rfl, a0, a1, by rw [a5, hA], a6, a7, fun h => by rw [hA] at h; have := h48 h; rw [hV]; omega, rfl⟩
          by_cases c1 : (48 : Int) ≤ s[i].toNat
          · by_cases c2 : (s[i].toNat : Int) ≤ 57
            · have hD : isD s[i] = true := by simp [isD]; omega
              simp -implicitDefEqProofs [r1, r5, r6, r7, hlt, c1, c2, hwi, w1, w2, w3, w4]
              exact AGo.again ih (m' := s.length - (i + 1)) (by omega) (HLe.refl _) (again _ (fun _ => by omega) (by simp [r0]) (by simp [r1]) (by simp [hD]) (by simp) (by simp))
            · have hD : isD s[i] = false := by simp [isD]; omega
              simp -implicitDefEqProofs [r1, r5, r6, r7, hlt, c1, c2, hwi, w1, w2, w3, w4]
              exact AGo.again ih (m' := s.length - (i + 1)) (by omega) (HLe.refl _) (again _ (fun _ => by omega) (by simp [r0]) (by simp [r1]) (by simp [hD]) (by simp) (by simp))
          · have hD : isD s[i] = false := by simp [isD]; omega
            simp -implicitDefEqProofs [r1, r5, r6, r7, hlt, c1, hwi, w1, w2, w3, w4]
            exact AGo.again ih (m' := s.length - (i + 1)) (by omega) (HLe.refl _) (again _ (fun h => by rw [hD] at h; cases h) (by simp [r0]) (by simp [r1]) (by simp [hD]) (by simp) (by simp))
      · have hie : s.take i = s := List.take_of_length_le (by omega)
        rw [hie] at r5 hv
        cases hd : allD s with
        | false =>
          rw [hd] at r5
          simp -implicitDefEqProofs [r1, r5, r7, hlt, hl3']
        | true =>
          rw [hd] at r5
          obtain rfl := hv hd
          simp -implicitDefEqProofs [r1, r5, r6, r7, hlt]
  · have h1 : ¬ (s.length : Int) = 1 := by omega
    have h2 : ¬ (s.length : Int) = 2 := by omega
    have hfin : refNum k s = nameK k (s.map lowB) := refNum_name (by simp [h12])
    rw [hfin]
    simp -implicitDefEqProofs [h1, h2]
    rw [go_lp]
    refine ⟨_, _, HLe.refl _, NilF.refl _, ?_⟩
    by_cases h3 : s.length = 3
    · have h3i : (s.length : Int) = 3 := by omega
      by_cases h4 : k < 3
      · rw [nameK_kind _ (by omega) (by omega)]
        simp -implicitDefEqProofs [h3, h4]
      · simp -implicitDefEqProofs [h3, h4]
        obtain ⟨low, hlow⟩ : ∃ low, s.map lowB = low := ⟨_, rfl⟩
        rw [hlow]
        have hlen : low.length = 3 := by rw [← hlow]; simpa using h3
        refine AGo.joinLoop (fun ρ K => K = H ∧ ρ 0 = .sc (.int .i64 k) ∧ ρ 8 = str low) (fun k' hk' => ?_) ?_
        · refine AGo.rounds (fun m ρ K => ∃ i : Nat, i ≤ 3 ∧ m = 3 - i ∧ ρ 0 = .sc (.int .i64 k) ∧ ρ 1 = str s ∧ ρ 8 = str (low.take i) ∧ ρ 9 = .sc (.int .i64 i) ∧ K = H) ?_ (m := 3) (HLe.refl _) ⟨0, by omega, rfl, by simp, by simp, by simp, by simp, rfl⟩
          rintro m ρ K ih ⟨i, hi, rfl, r0, r1, r8, r9, rfl⟩
          by_cases hlt : i < 3
          · have hlt' : (i : Int) < 3 := by omega
            have hls : i < s.length := by omega
            have hsn : low.take (i + 1) = low.take i ++ [lowB s[i]] := by
              rw [take_snoc (by omega)]; subst hlow; simp
            have hwi : IntKind.i64.wrap ((i : Int) + 1) = ((i + 1 : Nat) : Int) := by rw [wrap_i64 (by omega) (by omega)]; push_cast; rfl
            have hl256 := UInt8.toNat_lt (lowB s[i])
            have hl0 : (lowB s[i]).toNat < 256 := by omega
            have hl0' : ((lowB s[i]).toNat : Int) < 256 := by omega
            have hbig' : i + 1 ≤ 9223372036854775807 := by omega
            have hmin : min i 3 = i := by omega
            have again : ∀ ρ' : Nat → AV, ρ' 0 = .sc (.int .i64 k) → ρ' 1 = str s → ρ' 8 = str (low.take i ++ [lowB s[i]]) → ρ' 9 = .sc (.int .i64 ((i + 1 : Nat) : Int)) →
              ∃ i' : Nat, i' ≤ 3 ∧ 3 - (i + 1) = 3 - i' ∧ ρ' 0 = .sc (.int .i64 k) ∧ ρ' 1 = str s ∧ ρ' 8 = str (low.take i') ∧ ρ' 9 = .sc (.int .i64 i') ∧ K = K := fun ρ' a b c d =>
              ⟨i + 1, by omega, rfl, a, b, by rw [c, hsn], d, rfl⟩
            clear hsn
            by_cases c1 : (65 : Int) ≤ s[i].toNat
            · by_cases c2 : (s[i].toNat : Int) ≤ 90
              · have hw := lowB_u8 (c := s[i]) (by omega)
                simp -implicitDefEqProofs [r1, r8, r9, hlt', hls, c1, c2, hw, hl0', hwi, aconv, abytes, hlen, hbig', hmin]
                exact AGo.again ih (m' := 3 - (i + 1)) (by omega) (HLe.refl _) (again _ (by simp [r0]) (by simp [r1]) (by simp) (by simp))
              · have hw : lowB s[i] = s[i] := by unfold lowB; rw [if_neg (by omega)]
                rw [hw] at hl0 hl0' again
                simp -implicitDefEqProofs [r1, r8, r9, hlt', hls, c1, c2, hl0', hwi, aconv, abytes, hlen, hbig', hmin]
                exact AGo.again ih (m' := 3 - (i + 1)) (by omega) (HLe.refl _) (again _ (by simp [r0]) (by simp [r1]) (by simp) (by simp))
            · have hw : lowB s[i] = s[i] := by unfold lowB; rw [if_neg (by omega)]
              rw [hw] at hl0 hl0' again
              simp -implicitDefEqProofs [r1, r8, r9, hlt', hls, c1, hl0', hwi, aconv, abytes, hlen, hbig', hmin]
              exact AGo.again ih (m' := 3 - (i + 1)) (by omega) (HLe.refl _) (again _ (by simp [r0]) (by simp [r1]) (by simp) (by simp))
          · obtain rfl : i = 3 := by omega
            have e : low.take 3 = low := List.take_of_length_le (by omega)
            rw [e] at r8
            simp -implicitDefEqProofs [r9]
            exact hk' _ _ ⟨rfl, by simp [r0], by simp [r8]⟩
        · rintro ρ K ⟨rfl, r0, r8⟩
          rcases isK_cases hk with rfl | rfl | rfl | rfl | rfl
          · omega
          · omega
          · omega
          · simp -implicitDefEqProofs [r0]
            refine AGo.rounds (fun m ρ K' => ∃ j j3 : Nat, j3 = 3 * j ∧ j ≤ 12 ∧ m = 12 - j ∧ ρ 8 = str low ∧ ρ 11 = str [106, 97, 110, 102, 101, 98, 109, 97, 114, 97, 112, 114, 109, 97, 121, 106, 117, 110, 106, 117, 108, 97, 117, 103, 115, 101, 112, 111, 99, 116, 110, 111, 118, 100, 101, 99] ∧ ρ 12 = .sc (.int .i64 1) ∧ ρ 13 = .sc (.int .i64 j3) ∧
              idxL months low 0 = idxL (months.drop j) low j ∧ K' = K) ?_ (m := 12) (HLe.refl _) ⟨0, 0, rfl, by omega, rfl, by simp [r8], by simp, by simp, by simp, rfl, rfl⟩
            rintro m ρ K' ih ⟨j, j3, hj3, hj, rfl, r8, r11, r12, r13, hidx, rfl⟩
            by_cases hlt : j < 12
            · have hlt' : (j3 : Int) < 36 := by omega
              have hlt2 : j3 < 36 := by omega
              obtain ⟨j3', hj3'⟩ : ∃ x, x = 3 * (j + 1) := ⟨_, rfl⟩
              have hw3 : IntKind.i64.wrap ((j3 : Int) + 3) = (j3' : Int) := by rw [wrap_i64 (by omega) (by omega)]; omega
              have hat := flatM_at j hlt
              rw [← hj3, ← hj3'] at hat
              have hb1 : j3 ≤ j3' := by omega
              have hb2 : j3' ≤ 36 := by omega
              have hb2' : (j3' : Int) ≤ 36 := by omega
              rw [idxL_step (by exact hlt)] at hidx
              obtain ⟨z, hz⟩ : ∃ z, months.getD j [] = z := ⟨_, rfl⟩
              rw [hz] at hat hidx
              by_cases hc : z = low
              · rw [if_pos hc] at hidx
                have e : nameK 3 low = (j : Int) + 1 := by unfold nameK; rw [if_pos rfl, hidx, if_pos (by omega)]
                have hq : IntKind.i64.wrap ((j3 : Int) / 3) = (j : Int) := by rw [wrap_i64 (by omega) (by omega)]; omega
                have hw1 : IntKind.i64.wrap ((j : Int) + 1) = (j : Int) + 1 := wrap_i64 (by omega) (by omega)
                have hw0 : IntKind.i64.wrap (j : Int) = (j : Int) := wrap_i64 (by omega) (by omega)
                simp -implicitDefEqProofs [r8, r11, r12, r13, hlt', hw3, hat, hb1, hb2', hc, hq, hw1, e]
              · rw [if_neg hc] at hidx
                have hcb : (z == low) = false := by simpa using hc
                simp -implicitDefEqProofs [r8, r11, r13, hlt', hw3, hat, hb1, hb2', hcb]
                exact AGo.again ih (m' := 12 - (j + 1)) (by omega) (HLe.refl _) ⟨j + 1, j3', hj3', by omega, rfl, by simp [r8], by simp [r11], by simp [r12], by simp, hidx, rfl⟩
            · obtain rfl : j = 12 := by omega
              subst hj3
              have e : nameK 3 low = -1 := by unfold nameK; rw [if_pos rfl, hidx]; rfl
              simp -implicitDefEqProofs [r11, r13, e]
          · simp -implicitDefEqProofs [r0]
            refine AGo.rounds (fun m ρ K' => ∃ j j3 : Nat, j3 = 3 * j ∧ j ≤ 7 ∧ m = 7 - j ∧ ρ 8 = str low ∧ ρ 11 = str [115, 117, 110, 109, 111, 110, 116, 117, 101, 119, 101, 100, 116, 104, 117, 102, 114, 105, 115, 97, 116] ∧ ρ 12 = .sc (.int .i64 0) ∧ ρ 13 = .sc (.int .i64 j3) ∧
              idxL days low 0 = idxL (days.drop j) low j ∧ K' = K) ?_ (m := 7) (HLe.refl _) ⟨0, 0, rfl, by omega, rfl, by simp [r8], by simp, by simp, by simp, rfl, rfl⟩
            rintro m ρ K' ih ⟨j, j3, hj3, hj, rfl, r8, r11, r12, r13, hidx, rfl⟩
            by_cases hlt : j < 7
            · have hlt' : (j3 : Int) < 21 := by omega
              have hlt2 : j3 < 21 := by omega
              obtain ⟨j3', hj3'⟩ : ∃ x, x = 3 * (j + 1) := ⟨_, rfl⟩
              have hw3 : IntKind.i64.wrap ((j3 : Int) + 3) = (j3' : Int) := by rw [wrap_i64 (by omega) (by omega)]; omega
              have hat := flatD_at j hlt
              rw [← hj3, ← hj3'] at hat
              have hb1 : j3 ≤ j3' := by omega
              have hb2 : j3' ≤ 21 := by omega
              have hb2' : (j3' : Int) ≤ 21 := by omega
              rw [idxL_step (by exact hlt)] at hidx
              obtain ⟨z, hz⟩ : ∃ z, days.getD j [] = z := ⟨_, rfl⟩
              rw [hz] at hat hidx
              by_cases hc : z = low
              · rw [if_pos hc] at hidx
                have e : nameK 4 low = (j : Int) + 0 := by unfold nameK; rw [if_neg (by decide), if_pos rfl, hidx]; omega
                have hq : IntKind.i64.wrap ((j3 : Int) / 3) = (j : Int) := by rw [wrap_i64 (by omega) (by omega)]; omega
                have hw1 : IntKind.i64.wrap ((j : Int) + 0) = (j : Int) + 0 := wrap_i64 (by omega) (by omega)
                have hw0 : IntKind.i64.wrap (j : Int) = (j : Int) := wrap_i64 (by omega) (by omega)
                simp -implicitDefEqProofs [r8, r11, r12, r13, hlt', hw3, hat, hb1, hb2', hc, hq, hw0, e]
              · rw [if_neg hc] at hidx
                have hcb : (z == low) = false := by simpa using hc
                simp -implicitDefEqProofs [r8, r11, r13, hlt', hw3, hat, hb1, hb2', hcb]
                exact AGo.again ih (m' := 7 - (j + 1)) (by omega) (HLe.refl _) ⟨j + 1, j3', hj3', by omega, rfl, by simp [r8], by simp [r11], by simp [r12], by simp, hidx, rfl⟩
            · obtain rfl : j = 7 := by omega
              subst hj3
              have e : nameK 4 low = -1 := by unfold nameK; rw [if_neg (by decide), if_pos rfl, hidx]; rfl
              simp -implicitDefEqProofs [r11, r13, e]
    · have h3i : ¬ (s.length : Int) = 3 := by omega
      have h5 : nameK k (s.map lowB) = -1 := nameK_len (by simpa using h3)
      rw [h5]
      by_cases h0 : 0 < s.length
      · have h0i : (0 : Int) < s.length := by omega
        simp -implicitDefEqProofs [h3i, h0]
      · have h0i : ¬ (0 : Int) < s.length := by omega
        simp -implicitDefEqProofs [h3i, h0]
end Go.Proofs.YtlhgpodfhdddkaaGreatDoor
namespace Go.Proofs.YtlhgpodfhdddkaaGreatDoor
open Rg Go
variable {H : Heap}
abbrev ints (l : List Nat) : List AV := l.map fun (n : Nat) => .sc (.int .i64 (n : Int))
theorem szs_ints (l : List Nat) : szs 1 (ints l) = true := by simp [szs, AV.cells]
theorem c_refSplit47 (s : List UInt8) (hs : s.length ≤ 1000000) : AOk Tryz.prog 85 [str s, .sc (.int .u8 47)] H (.sl (strL (sp 47 s)) .no) H := c_refSplit s 47 hs
theorem c_refSplit45 (s : List UInt8) (hs : s.length ≤ 1000000) : AOk Tryz.prog 85 [str s, .sc (.int .u8 45)] H (.sl (strL (sp 45 s)) .no) H := c_refSplit s 45 hs
theorem c_refSplit44 (s : List UInt8) (hs : s.length ≤ 1000000) : AOk Tryz.prog 85 [str s, .sc (.int .u8 44)] H (.sl (strL (sp 44 s)) .no) H := c_refSplit s 44 hs
theorem sp_len (c : UInt8) : ∀ s : List UInt8, ∀ x ∈ sp c s, x.length ≤ s.length
  | [], x, h => by simp [sp] at h; subst h; exact Nat.le_refl _
  | y :: s, x, h => by
    have ih := sp_len c s
    unfold sp at h
    split at h
    · rcases List.mem_cons.1 h with rfl | h
      · simp
      · have := ih x h; simp; omega
    · split at h
      · rename_i he; exact absurd he (sp_ne c s)
      · rename_i a t he
        rw [he] at ih
        rcases List.mem_cons.1 h with rfl | h
        · have := ih a (by simp); simp; omega
        · have := ih x (by simp [h]); simp; omega
theorem c_refItem {k : Int} (hk : isK k = true) (s : List UInt8) (hs : s.length ≤ 1000000) :
    AOk Tryz.prog 86 [.sc (.int .i64 k), str s] H (.tup [.sl (ints (refItem k s).1) .no, .sc (.int .i64 (refItem k s).2)]) H := by
  have hbd := bounds_le hk
  obtain ⟨res, hres⟩ : ∃ res, refItem k s = res := ⟨_, rfl⟩
  rw [hres]
  unfold refItem at hres
  have hsl := sp_len 47 s
  refine ACalls.into Tryz.func86 rfl Tryz.ntmps86 Tryz.results86 (by simp) ?_
  simp -implicitDefEqProofs
  refine ACall.eq (c_refSplit47 s hs) ?_
  have hcases : ∃ (body : List UInt8), (sp 47 s)[0]? = some body ∧ body.length ≤ s.length ∧ (((sp 47 s).length = 1 ∧ refBody k body false 1 = res) ∨ (∃ b, (sp 47 s).length = 2 ∧ (sp 47 s)[1]? = some b ∧ b.length ≤ s.length ∧ (if refNum 0 b < 0 then ([], 60) else refBody k body true (refNum 0 b)) = res) ∨ (2 < (sp 47 s).length ∧ ([], 60) = res)) := by
    rcases sp_cases 47 s with ⟨h1, _⟩ | ⟨a, b, h1, _⟩ | ⟨a, b, x, y, r, h1, _⟩
    · rw [h1] at hres ⊢; exact ⟨s, rfl, Nat.le_refl _, .inl ⟨rfl, hres⟩⟩
    · rw [h1] at hres hsl ⊢; exact ⟨a, rfl, hsl a (by simp), .inr (.inl ⟨b, rfl, rfl, hsl b (by simp), hres⟩)⟩
    · rw [h1] at hres hsl ⊢; exact ⟨a, rfl, hsl a (by simp), .inr (.inr ⟨by simp, hres⟩)⟩
  clear hres hsl
  generalize sp 47 s = P at hcases ⊢
  obtain ⟨body, hP0, hbl, hcases⟩ := hcases
  have hP0' : (strL P)[0]? = some (str body) := by simp [hP0]
  by_cases hbig : 2 < P.length
  · have hr : ([], 60) = res := by
      rcases hcases with ⟨h, _⟩ | ⟨b, h, _⟩ | ⟨_, h⟩
      · omega
      · omega
      · exact h
    subst hr
    have hbig' : (2 : Int) < P.length := by omega
    simp -implicitDefEqProofs [hbig']
  · have hbig' : ¬ (2 : Int) < P.length := by omega
    simp -implicitDefEqProofs [hbig']
    refine ABr.join (fun ρ K' => K' = H ∧ ∃ (two : Bool) (step : Int), ρ 0 = .sc (.int .i64 k) ∧ ρ 6 = .sl (strL P) .no ∧ ρ 7 = .sc (.int .i64 step) ∧ 0 ≤ step ∧ step ≤ 99 ∧ (P.length = 2 ↔ two = true) ∧ refBody k body two step = res) (fun k' hk' => ?_) ?_
    · rcases hcases with ⟨h1, hr⟩ | ⟨b, h1, hP1, hlb, hr⟩ | ⟨h1, hr⟩
      · have h1' : ¬ (P.length : Int) = 2 := by omega
        have h1n : ¬ P.length = 2 := by omega
        simp -implicitDefEqProofs [h1']
        exact hk' _ _ ⟨rfl, false, 1, by simp, by simp, by simp, by omega, by omega, by simp [h1], hr⟩
      · have h1' : (P.length : Int) = 2 := by omega
        have hP1' : (strL P)[1]? = some (str b) := by simp [hP1]
        simp -implicitDefEqProofs [h1', hP1']
        refine ACall.eq (c_refNumber (k := 0) rfl b (by omega)) ?_
        have hle := refNum_le 0 b
        by_cases hn : refNum 0 b < 0
        · rw [if_pos hn] at hr
          subst hr
          simp -implicitDefEqProofs [hn]
        · rw [if_neg hn] at hr
          simp -implicitDefEqProofs [hn]
          exact hk' _ _ ⟨rfl, true, refNum 0 b, by simp, by simp, by simp, by omega, by omega, by simp [h1], hr⟩
      · omega
    · rintro ρ K' ⟨rfl, two, step, r0, r6, r7, hs0, hs1, htwo, hr⟩
      simp -implicitDefEqProofs [r0]
      refine ACall.eq (c_refLow hk) ?_
      simp -implicitDefEqProofs [r0]
      refine ACall.eq (c_refHigh hk) ?_
      simp -implicitDefEqProofs [r6, hP0']
      unfold refBody at hr
      refine ABr.join (fun ρ K => K = K' ∧ ∃ first last : Int, ρ 7 = .sc (.int .i64 step) ∧ ρ 8 = .sc (.int .i64 first) ∧ ρ 9 = .sc (.int .i64 last) ∧ 0 ≤ first ∧ first ≤ 59 ∧ last ≤ 59 ∧ refEnd first last step = res) (fun k' hk' => ?_) ?_
      · by_cases hb : body = [42]
        · rw [if_pos hb] at hr
          simp -implicitDefEqProofs [hb]
          exact hk' _ _ ⟨rfl, _, _, by simp [r7], by simp, by simp, by omega, by omega, by omega, hr⟩
        · rw [if_neg hb] at hr
          have hb' : (body == [42]) = false := by simpa using hb
          simp -implicitDefEqProofs [r6, hb', hP0']
          refine ACall.eq (c_refSplit45 body (by omega)) ?_
          have hsl := sp_len 45 body
          have hends : ∃ a b, (sp 45 body)[0]? = some a ∧ (sp 45 body)[(sp 45 body).length - 1]? = some b ∧ a.length ≤ body.length ∧ b.length ≤ body.length ∧ (((sp 45 body).length = 1 ∧ (if two = true then ([], 60) else refEnds k (refNum k a) (refNum k b) step) = res) ∨ ((sp 45 body).length = 2 ∧ refEnds k (refNum k a) (refNum k b) step = res) ∨ (2 < (sp 45 body).length ∧ ([], 60) = res)) := by
            rcases sp_cases 45 body with ⟨h1, _⟩ | ⟨a, b, h1, _⟩ | ⟨a, b, x, y, r, h1, _⟩
            · rw [h1] at hr ⊢; exact ⟨body, body, rfl, rfl, Nat.le_refl _, Nat.le_refl _, .inl ⟨rfl, hr⟩⟩
            · rw [h1] at hr hsl ⊢; exact ⟨a, b, rfl, rfl, hsl a (by simp), hsl b (by simp), .inr (.inl ⟨rfl, hr⟩)⟩
            · rw [h1] at hr hsl ⊢
              obtain ⟨z, hz⟩ : ∃ z, (a :: x :: y :: r)[(a :: x :: y :: r).length - 1]? = some z := ⟨_, List.getElem?_eq_getElem (by simp)⟩
              exact ⟨a, z, rfl, hz, hsl a (by simp), hsl z (List.mem_of_getElem? hz), .inr (.inr ⟨by simp, hr⟩)⟩
          clear hr hsl
          have hQlen : (sp 45 body).length ≤ 1000001 := by
            have := split_length body [45] (by decide)
            rw [split_sp] at this; omega
          generalize sp 45 body = Q at hends hQlen ⊢
          obtain ⟨a, b, hQ0, hQ1, hla, hlb, hends⟩ := hends
          have hQ0' : (strL Q)[0]? = some (str a) := by simp [hQ0]
          have hQ1' : (strL Q)[Q.length - 1]? = some (str b) := by simp [hQ1]
          have hQ00 : ∀ h : 0 < Q.length, Q[0]'h = a := fun h => by rw [List.getElem?_eq_getElem h] at hQ0; exact Option.some.inj hQ0
          by_cases hQ2 : 2 < Q.length
          · have hr : ([], 60) = res := by
              rcases hends with ⟨h, _⟩ | ⟨h, _⟩ | ⟨_, h⟩
              · omega
              · omega
              · exact h
            subst hr
            have hQ2' : (2 : Int) < Q.length := by omega
            simp -implicitDefEqProofs [hQ2']
          · have hQ2' : ¬ (2 : Int) < Q.length := by omega
            have hgo : (Q.length = 1 ∧ two = true ∧ ([], 60) = res) ∨ (((Q.length = 1 ∧ two = false) ∨ Q.length = 2) ∧ refEnds k (refNum k a) (refNum k b) step = res) := by
              rcases hends with ⟨h, h2⟩ | ⟨h, h2⟩ | ⟨h, _⟩
              · cases two with
                | true => exact .inl ⟨h, rfl, by simpa using h2⟩
                | false => exact .inr ⟨.inl ⟨h, rfl⟩, by simpa using h2⟩
              · exact .inr ⟨.inr h, h2⟩
              · exact absurd h hQ2
            rcases hgo with ⟨hq, rfl, hr⟩ | ⟨hq, hr⟩
            · subst hr
              have hq' : (Q.length : Int) = 1 := by omega
              have hp := htwo.2 rfl
              have hp' : (P.length : Int) = 2 := by omega
              simp -implicitDefEqProofs [hq, hp, r6]
            · have hql : IntKind.i64.wrap ((Q.length : Int) - 1) = ((Q.length - 1 : Nat) : Int) := by rw [wrap_i64 (by omega) (by omega)]; omega
              have ha9 := refNum_le k a
              have hb9 := refNum_le k b
              have hcase : (Q.length = 1 ∧ two = false) ∨ (¬ Q.length = 1 ∧ Q.length = 2) := by
                rcases hq with h | h
                · exact .inl h
                · exact .inr ⟨by omega, h⟩
              clear hq
              rcases hcase with ⟨hq, rfl⟩ | ⟨hq, hq3⟩
              · have hq' : (Q.length : Int) = 1 := by omega
                have hp : ¬ P.length = 2 := fun h => by have := htwo.1 h; cases this
                have hp' : ¬ (P.length : Int) = 2 := by omega
                simp -implicitDefEqProofs [hp', hq, r0, r6, hQ00]
                refine ACall.eq (c_refNumber hk a (by omega)) ?_
                simp -implicitDefEqProofs [r0, hql, hQ1']
                refine ACall.eq (c_refNumber hk b (by omega)) ?_
                by_cases na : refNum k a < 0
                · rw [refEnds, if_pos (.inl na)] at hr
                  subst hr
                  simp -implicitDefEqProofs [na]
                · by_cases nb : refNum k b < 0
                  · rw [refEnds, if_pos (.inr nb)] at hr
                    subst hr
                    simp -implicitDefEqProofs [na, nb]
                  · rw [refEnds, if_neg (by omega)] at hr
                    simp -implicitDefEqProofs [na, nb, r0]
                    refine ACall.eq (c_refHigh hk) ?_
                    have hk4 : (k = 4 ∧ highK k = 7) ∨ (¬ k = 4 ∧ mostK k = highK k) := by
                      rcases isK_cases hk with rfl | rfl | rfl | rfl | rfl
                      · exact .inr ⟨by decide, rfl⟩
                      · exact .inr ⟨by decide, rfl⟩
                      · exact .inr ⟨by decide, rfl⟩
                      · exact .inr ⟨by decide, rfl⟩
                      · exact .inl ⟨rfl, rfl⟩
                    rcases hk4 with ⟨rfl, hH⟩ | ⟨k4, hH⟩
                    · rw [hH] at hr
                      simp -implicitDefEqProofs [r0]
                      refine ACall.eq (c_refLow hk) ?_
                      by_cases c1 : refNum 4 a < lowK 4
                      · rw [if_pos (.inl c1)] at hr
                        subst hr
                        simp -implicitDefEqProofs [c1]
                      · by_cases c2 : 7 < refNum 4 a
                        · rw [if_pos (.inr (.inl c2))] at hr
                          subst hr
                          simp -implicitDefEqProofs [c1, c2]
                        · by_cases c3 : 7 < refNum 4 b
                          · rw [if_pos (.inr (.inr (.inl c3)))] at hr
                            subst hr
                            simp -implicitDefEqProofs [c1, c2, c3]
                          · by_cases c4 : refNum 4 b < refNum 4 a
                            · rw [if_pos (.inr (.inr (.inr c4)))] at hr
                              subst hr
                              simp -implicitDefEqProofs [c1, c2, c3, c4]
                            · rw [if_neg (by omega)] at hr
                              simp -implicitDefEqProofs [c1, c2, c3, c4]
                              exact hk' _ _ ⟨rfl, _, _, by simp [r7], by simp, by simp, by omega, by omega, by omega, hr⟩
                    · simp -implicitDefEqProofs [r0, k4]
                      refine ACall.eq (c_refLow hk) ?_
                      by_cases c1 : refNum k a < lowK k
                      · rw [if_pos (.inl c1)] at hr
                        subst hr
                        simp -implicitDefEqProofs [c1]
                      · by_cases c2 : highK k < refNum k a
                        · rw [if_pos (.inr (.inl c2))] at hr
                          subst hr
                          simp -implicitDefEqProofs [c1, hH, c2]
                        · by_cases c3 : highK k < refNum k b
                          · rw [if_pos (.inr (.inr (.inl c3)))] at hr
                            subst hr
                            simp -implicitDefEqProofs [c1, hH, c2, c3]
                          · by_cases c4 : refNum k b < refNum k a
                            · rw [if_pos (.inr (.inr (.inr c4)))] at hr
                              subst hr
                              simp -implicitDefEqProofs [c1, hH, c2, c3, c4]
                            · rw [if_neg (by omega)] at hr
                              simp -implicitDefEqProofs [c1, hH, c2, c3, c4]
                              exact hk' _ _ ⟨rfl, _, _, by simp [r7], by simp, by simp, by omega, by omega, by omega, hr⟩
              · have hq' : ¬ (Q.length : Int) = 1 := by omega
                simp -implicitDefEqProofs [hQ2', hq', r0, hQ0']
                refine ACall.eq (c_refNumber hk a (by omega)) ?_
                simp -implicitDefEqProofs [r0, hql, hQ1']
                refine ACall.eq (c_refNumber hk b (by omega)) ?_
                by_cases na : refNum k a < 0
                · rw [refEnds, if_pos (.inl na)] at hr
                  subst hr
                  simp -implicitDefEqProofs [na]
                · by_cases nb : refNum k b < 0
                  · rw [refEnds, if_pos (.inr nb)] at hr
                    subst hr
                    simp -implicitDefEqProofs [na, nb]
                  · rw [refEnds, if_neg (by omega)] at hr
                    simp -implicitDefEqProofs [na, nb, r0]
                    refine ACall.eq (c_refHigh hk) ?_
                    have hk4 : (k = 4 ∧ highK k = 7) ∨ (¬ k = 4 ∧ mostK k = highK k) := by
                      rcases isK_cases hk with rfl | rfl | rfl | rfl | rfl
                      · exact .inr ⟨by decide, rfl⟩
                      · exact .inr ⟨by decide, rfl⟩
                      · exact .inr ⟨by decide, rfl⟩
                      · exact .inr ⟨by decide, rfl⟩
                      · exact .inl ⟨rfl, rfl⟩
                    rcases hk4 with ⟨rfl, hH⟩ | ⟨k4, hH⟩
                    · rw [hH] at hr
                      simp -implicitDefEqProofs [r0]
                      refine ACall.eq (c_refLow hk) ?_
                      by_cases c1 : refNum 4 a < lowK 4
                      · rw [if_pos (.inl c1)] at hr
                        subst hr
                        simp -implicitDefEqProofs [c1]
                      · by_cases c2 : 7 < refNum 4 a
                        · rw [if_pos (.inr (.inl c2))] at hr
                          subst hr
                          simp -implicitDefEqProofs [c1, c2]
                        · by_cases c3 : 7 < refNum 4 b
                          · rw [if_pos (.inr (.inr (.inl c3)))] at hr
                            subst hr
                            simp -implicitDefEqProofs [c1, c2, c3]
                          · by_cases c4 : refNum 4 b < refNum 4 a
                            · rw [if_pos (.inr (.inr (.inr c4)))] at hr
                              subst hr
                              simp -implicitDefEqProofs [c1, c2, c3, c4]
                            · rw [if_neg (by omega)] at hr
                              simp -implicitDefEqProofs [c1, c2, c3, c4]
                              exact hk' _ _ ⟨rfl, _, _, by simp [r7], by simp, by simp, by omega, by omega, by omega, hr⟩
                    · simp -implicitDefEqProofs [r0, k4]
                      refine ACall.eq (c_refLow hk) ?_
                      by_cases c1 : refNum k a < lowK k
                      · rw [if_pos (.inl c1)] at hr
                        subst hr
                        simp -implicitDefEqProofs [c1]
                      · by_cases c2 : highK k < refNum k a
                        · rw [if_pos (.inr (.inl c2))] at hr
                          subst hr
                          simp -implicitDefEqProofs [c1, hH, c2]
                        · by_cases c3 : highK k < refNum k b
                          · rw [if_pos (.inr (.inr (.inl c3)))] at hr
                            subst hr
                            simp -implicitDefEqProofs [c1, hH, c2, c3]
                          · by_cases c4 : refNum k b < refNum k a
                            · rw [if_pos (.inr (.inr (.inr c4)))] at hr
                              subst hr
                              simp -implicitDefEqProofs [c1, hH, c2, c3, c4]
                            · rw [if_neg (by omega)] at hr
                              simp -implicitDefEqProofs [c1, hH, c2, c3, c4]
                              exact hk' _ _ ⟨rfl, _, _, by simp [r7], by simp, by simp, by omega, by omega, by omega, hr⟩
      · rintro ρ K ⟨rfl, first, last, r7, r8, r9, hf0, hf1, hl1, hr⟩
        unfold refEnd at hr
        by_cases hst : step = 0
        · rw [if_pos (.inl hst)] at hr
          subst hr
          simp -implicitDefEqProofs [r7, hst]
        · by_cases hst2 : 59 < step
          · rw [if_pos (.inr hst2)] at hr
            subst hr
            simp -implicitDefEqProofs [r7, hst, hst2]
          · rw [if_neg (by omega)] at hr
            subst hr
            obtain ⟨n0, rfl⟩ := Int.eq_ofNat_of_zero_le hf0
            obtain ⟨sN, rfl⟩ := Int.eq_ofNat_of_zero_le hs0
            simp only [Int.toNat_natCast]
            obtain ⟨row, hR⟩ : ∃ row, rowFrom sN last 200 n0 = row := ⟨_, rfl⟩
            rw [hR]
            have hst' : ¬ sN = 0 := by omega
            have hst2' : ¬ 59 < sN := by omega
            simp -implicitDefEqProofs [r7, r8, hst2, hst']
            refine AGo.rounds (fun m ρ K2 => ∃ (n : Nat) (out : List Nat) (t : Tok), last < (n : Int) + m ∧ n ≤ 118 ∧ ρ 7 = .sc (.int .i64 sN) ∧ ρ 9 = .sc (.int .i64 last) ∧ ρ 12 = .sl (ints out) t ∧ ρ 13 = .sc (.int .i64 n) ∧
              out ++ rowFrom sN last m n = row ∧ out.length + m ≤ 200 ∧ Grows K (ints out) 1 3 t K2) ?_ (m := 200) (HLe.refl _)
              ⟨n0, [], .nil, by omega, by omega, by simp [r7], by simp [r9], by simp, by simp, by simpa using hR, by simp, Grows.zero⟩
            rintro m ρ K2 ih ⟨n, out, t, hlt, hn, r7, r9, r12, r13, hrow, hlen, hg⟩
            by_cases hle : (n : Int) ≤ last
            · obtain ⟨m', rfl⟩ : ∃ m', m = m' + 1 := ⟨m - 1, by omega⟩
              simp only [rowFrom, if_pos hle] at hrow
              have hw2 : IntKind.i64.wrap ((n : Int) + (sN : Int)) = ((n + sN : Nat) : Int) := by rw [wrap_i64 (by omega) (by omega)]; push_cast; rfl
              simp -implicitDefEqProofs [r9, r12, r13, hle]
              refine AApp.grows el_113 hg (HLe.refl _) (by simp) (szs_ints _) (by simp [szs, AV.cells]) (by simp; omega) (by simp [maxLen]; omega) fun t' K1 Hn hg' hl' => ?_
              simp -implicitDefEqProofs [r7, r13, hw2]
              refine AGo.again ih (m' := m') (by omega) hl' ⟨n + sN, out ++ [n], t', by push_cast at *; omega, by omega, by simp [r7], by simp [r9], by simp, by simp, by rw [← hrow]; simp, by simp; omega, by simpa using hg'⟩
            · have hrow' : out = row := by
                cases m with
                | zero => simpa [rowFrom] using hrow
                | succ m => simpa only [rowFrom, if_neg hle, List.append_nil] using hrow
              rw [← hrow']
              simp -implicitDefEqProofs [r9, r12, r13, hle]
              exact hg.le.wk
end Go.Proofs.YtlhgpodfhdddkaaGreatDoor
namespace Go.Proofs.YtlhgpodfhdddkaaGreatDoor
open Rg Go
variable {H : Heap}
end Go.Proofs.YtlhgpodfhdddkaaGreatDoor
namespace Go.Proofs.YtlhgpodfhdddkaaGreatDoor
open Rg Go
variable {H : Heap}
end Go.Proofs.YtlhgpodfhdddkaaGreatDoor
namespace Go.Proofs.YtlhgpodfhdddkaaGreatDoor
open Rg Go
variable {H : Heap}
theorem add_or {a i : Nat} (ha : a < 18446744073709551616) (hi : i < 64) (h : a.testBit i = false) : IntKind.u64.wrap ((a : Int) + (pow2 i : Int)) = ((a ||| pow2 i : Nat) : Int) := by
  have hp := pow2_small hi
  have hand : (BitVec.ofNat 64 a) &&& (BitVec.ofNat 64 (pow2 i)) = 0#64 := by
    apply BitVec.eq_of_toNat_eq
    rw [BitVec.toNat_and, BitVec.toNat_ofNat, BitVec.toNat_ofNat, Nat.mod_eq_of_lt ha, Nat.mod_eq_of_lt hp]
    show a &&& pow2 i = 0
    apply Nat.eq_of_testBit_eq
    intro j
    rw [Nat.testBit_and, testBit_pow2, Nat.zero_testBit]
    by_cases hj : i = j
    · subst hj; rw [h]; rfl
    · simp [hj]
  have e := congrArg BitVec.toNat (BitVec.add_eq_or_of_and_eq_zero _ _ hand)
  rw [BitVec.toNat_add, BitVec.toNat_or, BitVec.toNat_ofNat, BitVec.toNat_ofNat, Nat.mod_eq_of_lt ha, Nat.mod_eq_of_lt hp] at e
  rw [← e]
  simp [IntKind.wrap, IntKind.signed, IntKind.bits]
theorem or_same {a i : Nat} (h : a.testBit i = true) : a ||| pow2 i = a := by
  apply Nat.eq_of_testBit_eq
  intro j
  rw [Nat.testBit_or, testBit_pow2]
  by_cases hj : i = j
  · subst hj; simp [h]
  · simp [hj]
theorem orRow_snoc (M : Nat) (l : List Nat) (n set : Nat) : orRow M (l ++ [n]) set = orRow M l set ||| pow2 (modN n M) := by unfold orRow; rw [List.foldl_append]; rfl
theorem orRow_lt {M : Nat} (h0 : 0 < M) (h1 : M ≤ 64) : ∀ (l : List Nat) (set : Nat), set < 18446744073709551616 → orRow M l set < 18446744073709551616
  | [], set, h => h
  | n :: l, set, h => orRow_lt h0 h1 l _ (or_small h (pow2_small (Nat.lt_of_lt_of_le (modN_lt n h0) h1)))
theorem orRow_or (M : Nat) : ∀ (l : List Nat) (a b : Nat), orRow M l (a ||| b) = a ||| orRow M l b
  | [], a, b => rfl
  | n :: l, a, b => by
    show orRow M l ((a ||| b) ||| pow2 (modN n M)) = a ||| orRow M l (b ||| pow2 (modN n M))
    rw [← orRow_or M l a, Nat.or_assoc]
theorem seven {k : Int} (hk : isK k = true) {n : Nat} (hn : (n : Int) ≤ highK k) : (if k = 4 ∧ (n : Int) = 7 then (0 : Int) else n) = (modN n (mostK k + 1).toNat : Int) := by
  unfold modN
  rcases isK_cases hk with rfl | rfl | rfl | rfl | rfl
  · have : (n : Int) ≤ 59 := hn
    rw [if_neg (by omega), show (mostK 0 + 1).toNat = 60 from rfl, Nat.mod_eq_of_lt (by omega)]
  · have : (n : Int) ≤ 23 := hn
    rw [if_neg (by omega), show (mostK 1 + 1).toNat = 24 from rfl, Nat.mod_eq_of_lt (by omega)]
  · have : (n : Int) ≤ 31 := hn
    rw [if_neg (by omega), show (mostK 2 + 1).toNat = 32 from rfl, Nat.mod_eq_of_lt (by omega)]
  · have : (n : Int) ≤ 12 := hn
    rw [if_neg (by omega), show (mostK 3 + 1).toNat = 13 from rfl, Nat.mod_eq_of_lt (by omega)]
  · have : (n : Int) ≤ 7 := hn
    rw [show (mostK 4 + 1).toNat = 7 from rfl]
    by_cases h : (n : Int) = 7
    · rw [if_pos ⟨rfl, h⟩]; omega
    · rw [if_neg (fun e => h e.2), Nat.mod_eq_of_lt (by omega)]
theorem rowFrom_len (step : Nat) (last : Int) : ∀ (f n : Nat), (rowFrom step last f n).length ≤ f
  | 0, n => by simp [rowFrom]
  | f + 1, n => by
    unfold rowFrom
    split
    · have := rowFrom_len step last f (n + step); simp; omega
    · simp
theorem refItem_len (k : Int) (s : List UInt8) : (refItem k s).1.length ≤ 200 := by
  have hE : ∀ {a b c : Int}, (refEnd a b c).1.length ≤ 200 := fun {a b c} => by
    unfold refEnd
    split
    · simp
    · exact rowFrom_len _ _ _ _
  have hEs : ∀ {a b c : Int}, (refEnds k a b c).1.length ≤ 200 := fun {a b c} => by
    unfold refEnds
    (repeat' split) <;> first | exact hE | simp
  have hB : ∀ {b : List UInt8} {t : Bool} {c : Int}, (refBody k b t c).1.length ≤ 200 := fun {b t c} => by
    unfold refBody
    (repeat' split) <;> first | exact hE | exact hEs | simp
  unfold refItem
  (repeat' split) <;> first | exact hB | simp
theorem parseGo_ref {k : Int} (hk : isK k = true) (x : List UInt8) (r : List (List UInt8)) (f : Fld) :
    parseGo k (x :: r) f = if (refItem k x).2 ≠ 0 then (⟨0, false⟩, (refItem k x).2) else parseGo k r ⟨f.bits ||| orRow (mostK k + 1).toNat (refItem k x).1 0, f.star⟩ := by
  have e := item_ref hk x
  rw [parseGo, e]
  rfl
theorem parse_sp (k : Int) (s : List UInt8) : parseK k s = if isK k = false then (⟨0, false⟩, 2) else if 150 < s.length then (⟨0, false⟩, 3) else parseGo k (sp 44 s) ⟨0, Lib.hasPrefix s [42]⟩ := by
  unfold parseK; rw [split_sp]
theorem c_refParse (k : Int) (s : List UInt8) (hs : s.length ≤ 1000000) : AOk Tryz.prog 74 [.sc (.int .i64 k), str s] H (.tup [fAV (parseK k s).1, .sc (.int .i64 (parseK k s).2)]) H := by
  rw [parse_sp]
  refine ACalls.into Tryz.func74 rfl Tryz.ntmps74 Tryz.results74 (by simp) ?_
  simp -implicitDefEqProofs [fAV]
  refine AAlloc.intro fun b4 h4 => ?_
  have hW : ∀ o, HWk H (H.set b4 o) := fun o => HWk.new h4 (HWk.refl _)
  have hW2 : ∀ o o', HWk H ((H.set b4 o).set b4 o') := fun o o' => by rw [Heap.set_set]; exact hW _
  by_cases k0 : k < 0
  · have e : isK k = false := by simp [isK]; omega
    simp -implicitDefEqProofs [k0, e]
    exact hW _
  · by_cases k4 : 4 < k
    · have e : isK k = false := by simp [isK]; omega
      simp -implicitDefEqProofs [k0, k4, e]
      exact hW _
    · have hk : isK k = true := by simp [isK]; omega
      rw [if_neg (by simp [hk])]
      by_cases hl : 150 < s.length
      · have hl' : (150 : Int) < s.length := by omega
        simp -implicitDefEqProofs [k0, k4, hl, hl']
        exact hW _
      · have hl' : ¬ (150 : Int) < s.length := by omega
        rw [if_neg hl]
        obtain ⟨st, hst⟩ : ∃ st, Lib.hasPrefix s [42] = st := ⟨_, rfl⟩
        rw [hst]
        have hcase : (¬ 0 < s.length ∧ st = false) ∨ (∃ h : 0 < s.length, s[0] = 42 ∧ st = true) ∨ (∃ h : 0 < s.length, ¬ s[0] = 42 ∧ st = false) := by
          cases s with
          | nil => exact .inl ⟨by simp, by rw [← hst]; rfl⟩
          | cons c r =>
            have e : st = (42 == c) := by rw [← hst]; unfold Lib.hasPrefix; simp [List.isPrefixOf]
            by_cases hc : c = 42
            · exact .inr (.inl ⟨by simp, hc, by rw [e, hc]; rfl⟩)
            · exact .inr (.inr ⟨by simp, hc, by rw [e]; simpa using Ne.symm hc⟩)
        have hm : ∀ x ∈ sp 44 s, x.length ≤ 1000000 := fun x hx => Nat.le_trans (sp_len _ _ x hx) hs
        have hL := split_length s [44] (by decide)
        rw [split_sp] at hL
        clear hst
        rcases hcase with ⟨c0, rfl⟩ | ⟨c0, c1, rfl⟩ | ⟨c0, c1, rfl⟩
        · have c0' : ¬ (0 : Int) < s.length := by omega
          simp -implicitDefEqProofs [k0, k4, hl', c0]
          refine AAlloc.intro fun b6 h6 => ?_
          have n64 : b6 ≠ b4 := by intro e; subst e; simp [Heap.set] at h6
          have e6 : H b6 = none := (HLe.set_fresh h4).none h6
          simp -implicitDefEqProofs
          generalize hK : Heap.set _ b6 _ = K
          have k6 : K b6 = some (.cells [.sc (.int .u64 (0 : Nat)), .sc (.bool false)] 81) := by rw [← hK]; simp [Heap.set]
          have k4' : K b4 = some (.cells [.sc (.int .u64 (0 : Nat)), .sc (.bool false)] 81) := by rw [← hK]; simp [Heap.set, n64.symm]
          have kW : HWk H K := by rw [← hK]; exact HWk.new e6 (HWk.new h4 (HWk.refl _))
          clear hK hW hW2
          refine ACall.eq (c_refSplit44 s hs) ?_
          generalize sp 44 s = L at hm hL ⊢
          simp -implicitDefEqProofs
          generalize hres : parseGo k L _ = res
          refine AGo.rounds (fun m ρ K => ∃ (j : Nat) (f : Fld), j ≤ L.length ∧ m = L.length - j ∧ ρ 0 = .sc (.int .i64 k) ∧ ρ 4 = .sc (.pointer (some ⟨b4, 0, none⟩)) ∧ ρ 6 = .sc (.pointer (some ⟨b6, 0, none⟩)) ∧ ρ 7 = .sl (strL L) .no ∧ ρ 8 = .sc (.int .i64 j) ∧
            f.bits < 18446744073709551616 ∧ parseGo k (L.drop j) f = res ∧ K b4 = some (.cells [.sc (.int .u64 (0 : Nat)), .sc (.bool false)] 81) ∧ K b6 = some (.cells [.sc (.int .u64 f.bits), .sc (.bool f.star)] 81) ∧ HWk H K) ?_ (m := L.length) (HLe.refl _)
            ⟨0, ⟨0, false⟩, by omega, by omega, by simp, by simp, by simp, by simp, by simp, (by decide : (0 : Nat) < 18446744073709551616), by simpa using hres, k4', k6, kW⟩
          clear k4' k6 kW
          rintro m ρ K1 ih ⟨j, f, hj, rfl, r0, r4, r6, r7, r8, hf, hgo, q4, q6, qW⟩
          by_cases hlt : j < L.length
          · have hmem : L[j] ∈ L := List.getElem_mem hlt
            rw [List.drop_eq_getElem_cons hlt] at hgo
            rw [parseGo_ref hk] at hgo
            have hin := refItem_in hk L[j]
            have hlen := refItem_len k L[j]
            simp -implicitDefEqProofs [r0, r7, r8, hlt]
            refine ACall.eq (c_refItem hk L[j] (hm _ hmem)) ?_
            generalize refItem k L[j] = it at *
            obtain ⟨l, er⟩ := it
            simp only at hgo hin hlen ⊢
            by_cases he : er = 0
            · rw [if_neg (by simp [he])] at hgo
              obtain ⟨M, hM⟩ : ∃ M, (mostK k + 1).toNat = M := ⟨_, rfl⟩
              obtain ⟨M', hM1, hM7, hM60⟩ := mostK_nat hk
              have hMM : M = M' := by omega
              rw [hM] at hgo
              have hwj : IntKind.i64.wrap ((j : Int) + 1) = ((j + 1 : Nat) : Int) := by rw [wrap_i64 (by omega) (by omega)]; push_cast; rfl
              simp -implicitDefEqProofs [he]
              refine AGo.joinLoop (fun ρ K => ρ 0 = .sc (.int .i64 k) ∧ ρ 4 = .sc (.pointer (some ⟨b4, 0, none⟩)) ∧ ρ 6 = .sc (.pointer (some ⟨b6, 0, none⟩)) ∧ ρ 7 = .sl (strL L) .no ∧ ρ 8 = .sc (.int .i64 j) ∧ K b4 = some (.cells [.sc (.int .u64 (0 : Nat)), .sc (.bool false)] 81) ∧ K b6 = some (.cells [.sc (.int .u64 (orRow M l f.bits : Nat)), .sc (.bool f.star)] 81) ∧ HWk H K) (fun k' hk' => ?_) ?_
              · refine AGo.rounds (fun m ρ K => ∃ i : Nat, i ≤ l.length ∧ m = l.length - i ∧ ρ 0 = .sc (.int .i64 k) ∧ ρ 4 = .sc (.pointer (some ⟨b4, 0, none⟩)) ∧ ρ 6 = .sc (.pointer (some ⟨b6, 0, none⟩)) ∧ ρ 7 = .sl (strL L) .no ∧ ρ 8 = .sc (.int .i64 j) ∧ ρ 9 = .sl (ints l) .no ∧ ρ 11 = .sc (.int .i64 i) ∧ K b4 = some (.cells [.sc (.int .u64 (0 : Nat)), .sc (.bool false)] 81) ∧ K b6 = some (.cells [.sc (.int .u64 (orRow M (l.take i) f.bits : Nat)), .sc (.bool f.star)] 81) ∧ HWk H K) ?_ (m := l.length) (HLe.refl _)
                  ⟨0, by omega, rfl, by simp [r0], by simp [r4], by simp [r6], by simp [r7], by simp [r8], by simp, by simp, q4, by simpa [orRow] using q6, qW⟩
                clear q4 q6 qW r0 r4 r6 r7 r8
                rintro m ρ K ih2 ⟨i, hi, rfl, r0, r4, r6, r7, r8, r9, r11, q4, q6, qW⟩
                by_cases hil : i < l.length
                · have hwi : IntKind.i64.wrap ((i : Int) + 1) = ((i + 1 : Nat) : Int) := by rw [wrap_i64 (by omega) (by omega)]; push_cast; rfl
                  obtain ⟨n, hn⟩ : ∃ n, l[i] = n := ⟨_, rfl⟩
                  have hnh : (n : Int) ≤ highK k := by rw [← hn]; exact hin _ (List.getElem_mem hil)
                  have h7 := seven hk hnh
                  rw [hM] at h7
                  have hbnd := bounds_le hk
                  have hsn : l.take (i + 1) = l.take i ++ [n] := by rw [List.take_add_one, List.getElem?_eq_getElem hil, hn]; rfl
                  have hnext := orRow_snoc M (l.take i) n f.bits
                  have hbits := orRow_lt (M := M) (by omega) (by omega) (l.take i) f.bits hf
                  by_cases c4 : k = 4
                  · by_cases c7 : (n : Int) = 7
                    · rw [if_pos ⟨c4, c7⟩] at h7
                      have hm0 : modN n M = 0 := by omega
                      rw [hm0] at hnext
                      have c7' : n = 7 := by omega
                      simp -implicitDefEqProofs [r0, r6, r9, r11, hil, hn, c4, c7', q6]
                      refine ACall.eq (c_refHas ⟨orRow M (l.take i) f.bits, f.star⟩ ((0 : Nat) : Int) hbits) ?_
                      rw [hasB_nat2 _ _ (by omega)]
                      cases ht : (orRow M (l.take i) f.bits).testBit 0 with
                      | true =>
                        have hor := or_same ht
                        rw [hor] at hnext
                        simp -implicitDefEqProofs [r11, hwi]
                        exact AGo.again ih2 (m' := l.length - (i + 1)) (by omega) (HLe.refl _) ⟨i + 1, by omega, rfl, by simp [r0], by simp [r4], by simp [r6], by simp [r7], by simp [r8], by simp [r9], by simp, q4, by rw [hsn, hnext]; exact q6, qW⟩
                      | false =>
                        have hadd := add_or hbits (i := 0) (by omega) ht
                        have hadd0 : IntKind.u64.wrap (((orRow M (l.take i) f.bits : Nat) : Int) + 1) = ((orRow M (l.take i) f.bits ||| 1 : Nat) : Int) := by simpa [pow2] using hadd
                        have hw0 : IntKind.u64.wrap 0 = 0 := rfl
                        have hw1 : IntKind.u64.wrap 1 = 1 := rfl
                        simp -implicitDefEqProofs [r6, r11, hwi, q6, hadd0, hw0, hw1]
                        exact AGo.again ih2 (m' := l.length - (i + 1)) (by omega) (HLe.refl _) ⟨i + 1, by omega, rfl, by simp [r0], by simp [r4], by simp [r6], by simp [r7], by simp [r8], by simp [r9], by simp, by simp [Heap.set, n64.symm, q4], by simp [Heap.set, hsn, hnext, pow2], HWk.new e6 qW⟩
                    · rw [if_neg (fun h => c7 h.2)] at h7
                      have hm0 : modN n M = n := by omega
                      rw [hm0] at hnext
                      have c7' : ¬ n = 7 := by omega
                      simp -implicitDefEqProofs [r0, r6, r9, r11, hil, hn, c4, c7, q6]
                      refine ACall.eq (c_refHas ⟨orRow M (l.take i) f.bits, f.star⟩ ((n : Nat) : Int) hbits) ?_
                      rw [hasB_nat2 _ _ (by omega)]
                      cases ht : (orRow M (l.take i) f.bits).testBit n with
                      | true =>
                        have hor := or_same ht
                        rw [hor] at hnext
                        simp -implicitDefEqProofs [r11, hwi]
                        exact AGo.again ih2 (m' := l.length - (i + 1)) (by omega) (HLe.refl _) ⟨i + 1, by omega, rfl, by simp [r0], by simp [r4], by simp [r6], by simp [r7], by simp [r8], by simp [r9], by simp, q4, by rw [hsn, hnext]; exact q6, qW⟩
                      | false =>
                        have hadd := add_or hbits (i := n) (by omega) ht
                        have hmin : min n 64 = n := by omega
                        have hwu : IntKind.u64.wrap (n : Int) = (n : Int) := wrap_u64 (by omega) (by omega)
                        have hsh := shl_nat (r := n) (by omega)
                        simp -implicitDefEqProofs [r6, r11, hwi, q6, hmin, hwu, hsh, hadd]
                        exact AGo.again ih2 (m' := l.length - (i + 1)) (by omega) (HLe.refl _) ⟨i + 1, by omega, rfl, by simp [r0], by simp [r4], by simp [r6], by simp [r7], by simp [r8], by simp [r9], by simp, by simp [Heap.set, n64.symm, q4], by simp [Heap.set, hsn, hnext, pow2], HWk.new e6 qW⟩
                  · rw [if_neg (fun h => c4 h.1)] at h7
                    have hm0 : modN n M = n := by omega
                    rw [hm0] at hnext
                    simp -implicitDefEqProofs [r0, r6, r9, r11, hil, hn, c4, q6]
                    refine ACall.eq (c_refHas ⟨orRow M (l.take i) f.bits, f.star⟩ ((n : Nat) : Int) hbits) ?_
                    rw [hasB_nat2 _ _ (by omega)]
                    cases ht : (orRow M (l.take i) f.bits).testBit n with
                    | true =>
                      have hor := or_same ht
                      rw [hor] at hnext
                      simp -implicitDefEqProofs [r11, hwi]
                      exact AGo.again ih2 (m' := l.length - (i + 1)) (by omega) (HLe.refl _) ⟨i + 1, by omega, rfl, by simp [r0], by simp [r4], by simp [r6], by simp [r7], by simp [r8], by simp [r9], by simp, q4, by rw [hsn, hnext]; exact q6, qW⟩
                    | false =>
                      have hadd := add_or hbits (i := n) (by omega) ht
                      have hmin : min n 64 = n := by omega
                      have hwu : IntKind.u64.wrap (n : Int) = (n : Int) := wrap_u64 (by omega) (by omega)
                      have hsh := shl_nat (r := n) (by omega)
                      simp -implicitDefEqProofs [r6, r11, hwi, q6, hmin, hwu, hsh, hadd]
                      exact AGo.again ih2 (m' := l.length - (i + 1)) (by omega) (HLe.refl _) ⟨i + 1, by omega, rfl, by simp [r0], by simp [r4], by simp [r6], by simp [r7], by simp [r8], by simp [r9], by simp, by simp [Heap.set, n64.symm, q4], by simp [Heap.set, hsn, hnext, pow2], HWk.new e6 qW⟩
                · have hie : l.take i = l := List.take_of_length_le (by omega)
                  rw [hie] at q6
                  simp -implicitDefEqProofs [r9, r11, hil]
                  exact hk' _ _ ⟨by simp [r0], by simp [r4], by simp [r6], by simp [r7], by simp [r8], q4, q6, qW⟩
              · clear r0 r4 r6 r7 r8 q4 q6 qW
                rintro ρ K ⟨r0, r4, r6, r7, r8, q4, q6, qW⟩
                simp -implicitDefEqProofs [r8, hwj]
                refine AGo.again ih (m' := L.length - (j + 1)) (by omega) (HLe.refl _) ⟨j + 1, ⟨orRow M l f.bits, f.star⟩, by omega, rfl, by simp [r0], by simp [r4], by simp [r6], by simp [r7], by simp, orRow_lt (by omega) (by omega) _ _ hf, ?_, q4, q6, qW⟩
                rw [← hgo]
                congr 2
                rw [← orRow_or]; simp
            · rw [if_pos he] at hgo
              subst hgo
              simp -implicitDefEqProofs [he, r4, q4]
              exact HWk.new h4 qW
          · have hje : j = L.length := by omega
            subst hje
            simp only [List.drop_length, parseGo] at hgo
            subst hgo
            simp -implicitDefEqProofs [r4, r6, r7, r8, q6, q4]
            exact HWk.new h4 qW
        · have c0' : (0 : Int) < s.length := by omega
          have c2 : s[0].toNat = 42 := by rw [c1]; rfl
          simp -implicitDefEqProofs [k0, k4, hl', c0, c2]
          refine AAlloc.intro fun b6 h6 => ?_
          have n64 : b6 ≠ b4 := by intro e; subst e; simp [Heap.set] at h6
          have e6 : H b6 = none := (HLe.set_fresh h4).none h6
          simp -implicitDefEqProofs
          generalize hK : Heap.set _ b6 _ = K
          have k6 : K b6 = some (.cells [.sc (.int .u64 (0 : Nat)), .sc (.bool true)] 81) := by rw [← hK]; simp [Heap.set]
          have k4' : K b4 = some (.cells [.sc (.int .u64 (0 : Nat)), .sc (.bool false)] 81) := by rw [← hK]; simp [Heap.set, n64.symm]
          have kW : HWk H K := by rw [← hK]; exact HWk.new e6 (HWk.new h4 (HWk.refl _))
          clear hK hW hW2
          refine ACall.eq (c_refSplit44 s hs) ?_
          generalize sp 44 s = L at hm hL ⊢
          simp -implicitDefEqProofs
          generalize hres : parseGo k L _ = res
          refine AGo.rounds (fun m ρ K => ∃ (j : Nat) (f : Fld), j ≤ L.length ∧ m = L.length - j ∧ ρ 0 = .sc (.int .i64 k) ∧ ρ 4 = .sc (.pointer (some ⟨b4, 0, none⟩)) ∧ ρ 6 = .sc (.pointer (some ⟨b6, 0, none⟩)) ∧ ρ 7 = .sl (strL L) .no ∧ ρ 8 = .sc (.int .i64 j) ∧
            f.bits < 18446744073709551616 ∧ parseGo k (L.drop j) f = res ∧ K b4 = some (.cells [.sc (.int .u64 (0 : Nat)), .sc (.bool false)] 81) ∧ K b6 = some (.cells [.sc (.int .u64 f.bits), .sc (.bool f.star)] 81) ∧ HWk H K) ?_ (m := L.length) (HLe.refl _)
            ⟨0, ⟨0, true⟩, by omega, by omega, by simp, by simp, by simp, by simp, by simp, (by decide : (0 : Nat) < 18446744073709551616), by simpa using hres, k4', k6, kW⟩
          clear k4' k6 kW
          rintro m ρ K1 ih ⟨j, f, hj, rfl, r0, r4, r6, r7, r8, hf, hgo, q4, q6, qW⟩
          by_cases hlt : j < L.length
          · have hmem : L[j] ∈ L := List.getElem_mem hlt
            rw [List.drop_eq_getElem_cons hlt] at hgo
            rw [parseGo_ref hk] at hgo
            have hin := refItem_in hk L[j]
            have hlen := refItem_len k L[j]
            simp -implicitDefEqProofs [r0, r7, r8, hlt]
            refine ACall.eq (c_refItem hk L[j] (hm _ hmem)) ?_
            generalize refItem k L[j] = it at *
            obtain ⟨l, er⟩ := it
            simp only at hgo hin hlen ⊢
            by_cases he : er = 0
            · rw [if_neg (by simp [he])] at hgo
              obtain ⟨M, hM⟩ : ∃ M, (mostK k + 1).toNat = M := ⟨_, rfl⟩
              obtain ⟨M', hM1, hM7, hM60⟩ := mostK_nat hk
              have hMM : M = M' := by omega
              rw [hM] at hgo
              have hwj : IntKind.i64.wrap ((j : Int) + 1) = ((j + 1 : Nat) : Int) := by rw [wrap_i64 (by omega) (by omega)]; push_cast; rfl
              simp -implicitDefEqProofs [he]
              refine AGo.joinLoop (fun ρ K => ρ 0 = .sc (.int .i64 k) ∧ ρ 4 = .sc (.pointer (some ⟨b4, 0, none⟩)) ∧ ρ 6 = .sc (.pointer (some ⟨b6, 0, none⟩)) ∧ ρ 7 = .sl (strL L) .no ∧ ρ 8 = .sc (.int .i64 j) ∧ K b4 = some (.cells [.sc (.int .u64 (0 : Nat)), .sc (.bool false)] 81) ∧ K b6 = some (.cells [.sc (.int .u64 (orRow M l f.bits : Nat)), .sc (.bool f.star)] 81) ∧ HWk H K) (fun k' hk' => ?_) ?_
              · refine AGo.rounds (fun m ρ K => ∃ i : Nat, i ≤ l.length ∧ m = l.length - i ∧ ρ 0 = .sc (.int .i64 k) ∧ ρ 4 = .sc (.pointer (some ⟨b4, 0, none⟩)) ∧ ρ 6 = .sc (.pointer (some ⟨b6, 0, none⟩)) ∧ ρ 7 = .sl (strL L) .no ∧ ρ 8 = .sc (.int .i64 j) ∧ ρ 9 = .sl (ints l) .no ∧ ρ 11 = .sc (.int .i64 i) ∧ K b4 = some (.cells [.sc (.int .u64 (0 : Nat)), .sc (.bool false)] 81) ∧ K b6 = some (.cells [.sc (.int .u64 (orRow M (l.take i) f.bits : Nat)), .sc (.bool f.star)] 81) ∧ HWk H K) ?_ (m := l.length) (HLe.refl _)
                  ⟨0, by omega, rfl, by simp [r0], by simp [r4], by simp [r6], by simp [r7], by simp [r8], by simp, by simp, q4, by simpa [orRow] using q6, qW⟩
                clear q4 q6 qW r0 r4 r6 r7 r8
                rintro m ρ K ih2 ⟨i, hi, rfl, r0, r4, r6, r7, r8, r9, r11, q4, q6, qW⟩
                by_cases hil : i < l.length
                · have hwi : IntKind.i64.wrap ((i : Int) + 1) = ((i + 1 : Nat) : Int) := by rw [wrap_i64 (by omega) (by omega)]; push_cast; rfl
                  obtain ⟨n, hn⟩ : ∃ n, l[i] = n := ⟨_, rfl⟩
                  have hnh : (n : Int) ≤ highK k := by rw [← hn]; exact hin _ (List.getElem_mem hil)
                  have h7 := seven hk hnh
                  rw [hM] at h7
                  have hbnd := bounds_le hk
                  have hsn : l.take (i + 1) = l.take i ++ [n] := by rw [List.take_add_one, List.getElem?_eq_getElem hil, hn]; rfl
                  have hnext := orRow_snoc M (l.take i) n f.bits
                  have hbits := orRow_lt (M := M) (by omega) (by omega) (l.take i) f.bits hf
                  by_cases c4 : k = 4
                  · by_cases c7 : (n : Int) = 7
                    · rw [if_pos ⟨c4, c7⟩] at h7
                      have hm0 : modN n M = 0 := by omega
                      rw [hm0] at hnext
                      have c7' : n = 7 := by omega
                      simp -implicitDefEqProofs [r0, r6, r9, r11, hil, hn, c4, c7', q6]
                      refine ACall.eq (c_refHas ⟨orRow M (l.take i) f.bits, f.star⟩ ((0 : Nat) : Int) hbits) ?_
                      rw [hasB_nat2 _ _ (by omega)]
                      cases ht : (orRow M (l.take i) f.bits).testBit 0 with
                      | true =>
                        have hor := or_same ht
                        rw [hor] at hnext
                        simp -implicitDefEqProofs [r11, hwi]
                        exact AGo.again ih2 (m' := l.length - (i + 1)) (by omega) (HLe.refl _) ⟨i + 1, by omega, rfl, by simp [r0], by simp [r4], by simp [r6], by simp [r7], by simp [r8], by simp [r9], by simp, q4, by rw [hsn, hnext]; exact q6, qW⟩
                      | false =>
                        have hadd := add_or hbits (i := 0) (by omega) ht
                        have hadd0 : IntKind.u64.wrap (((orRow M (l.take i) f.bits : Nat) : Int) + 1) = ((orRow M (l.take i) f.bits ||| 1 : Nat) : Int) := by simpa [pow2] using hadd
                        have hw0 : IntKind.u64.wrap 0 = 0 := rfl
                        have hw1 : IntKind.u64.wrap 1 = 1 := rfl
                        simp -implicitDefEqProofs [r6, r11, hwi, q6, hadd0, hw0, hw1]
                        exact AGo.again ih2 (m' := l.length - (i + 1)) (by omega) (HLe.refl _) ⟨i + 1, by omega, rfl, by simp [r0], by simp [r4], by simp [r6], by simp [r7], by simp [r8], by simp [r9], by simp, by simp [Heap.set, n64.symm, q4], by simp [Heap.set, hsn, hnext, pow2], HWk.new e6 qW⟩
                    · rw [if_neg (fun h => c7 h.2)] at h7
                      have hm0 : modN n M = n := by omega
                      rw [hm0] at hnext
                      have c7' : ¬ n = 7 := by omega
                      simp -implicitDefEqProofs [r0, r6, r9, r11, hil, hn, c4, c7, q6]
                      refine ACall.eq (c_refHas ⟨orRow M (l.take i) f.bits, f.star⟩ ((n : Nat) : Int) hbits) ?_
                      rw [hasB_nat2 _ _ (by omega)]
                      cases ht : (orRow M (l.take i) f.bits).testBit n with
                      | true =>
                        have hor := or_same ht
                        rw [hor] at hnext
                        simp -implicitDefEqProofs [r11, hwi]
                        exact AGo.again ih2 (m' := l.length - (i + 1)) (by omega) (HLe.refl _) ⟨i + 1, by omega, rfl, by simp [r0], by simp [r4], by simp [r6], by simp [r7], by simp [r8], by simp [r9], by simp, q4, by rw [hsn, hnext]; exact q6, qW⟩
                      | false =>
                        have hadd := add_or hbits (i := n) (by omega) ht
                        have hmin : min n 64 = n := by omega
                        have hwu : IntKind.u64.wrap (n : Int) = (n : Int) := wrap_u64 (by omega) (by omega)
                        have hsh := shl_nat (r := n) (by omega)
                        simp -implicitDefEqProofs [r6, r11, hwi, q6, hmin, hwu, hsh, hadd]
                        exact AGo.again ih2 (m' := l.length - (i + 1)) (by omega) (HLe.refl _) ⟨i + 1, by omega, rfl, by simp [r0], by simp [r4], by simp [r6], by simp [r7], by simp [r8], by simp [r9], by simp, by simp [Heap.set, n64.symm, q4], by simp [Heap.set, hsn, hnext, pow2], HWk.new e6 qW⟩
                  · rw [if_neg (fun h => c4 h.1)] at h7
                    have hm0 : modN n M = n := by omega
                    rw [hm0] at hnext
                    simp -implicitDefEqProofs [r0, r6, r9, r11, hil, hn, c4, q6]
                    refine ACall.eq (c_refHas ⟨orRow M (l.take i) f.bits, f.star⟩ ((n : Nat) : Int) hbits) ?_
                    rw [hasB_nat2 _ _ (by omega)]
                    cases ht : (orRow M (l.take i) f.bits).testBit n with
                    | true =>
                      have hor := or_same ht
                      rw [hor] at hnext
                      simp -implicitDefEqProofs [r11, hwi]
                      exact AGo.again ih2 (m' := l.length - (i + 1)) (by omega) (HLe.refl _) ⟨i + 1, by omega, rfl, by simp [r0], by simp [r4], by simp [r6], by simp [r7], by simp [r8], by simp [r9], by simp, q4, by rw [hsn, hnext]; exact q6, qW⟩
                    | false =>
                      have hadd := add_or hbits (i := n) (by omega) ht
                      have hmin : min n 64 = n := by omega
                      have hwu : IntKind.u64.wrap (n : Int) = (n : Int) := wrap_u64 (by omega) (by omega)
                      have hsh := shl_nat (r := n) (by omega)
                      simp -implicitDefEqProofs [r6, r11, hwi, q6, hmin, hwu, hsh, hadd]
                      exact AGo.again ih2 (m' := l.length - (i + 1)) (by omega) (HLe.refl _) ⟨i + 1, by omega, rfl, by simp [r0], by simp [r4], by simp [r6], by simp [r7], by simp [r8], by simp [r9], by simp, by simp [Heap.set, n64.symm, q4], by simp [Heap.set, hsn, hnext, pow2], HWk.new e6 qW⟩
                · have hie : l.take i = l := List.take_of_length_le (by omega)
                  rw [hie] at q6
                  simp -implicitDefEqProofs [r9, r11, hil]
                  exact hk' _ _ ⟨by simp [r0], by simp [r4], by simp [r6], by simp [r7], by simp [r8], q4, q6, qW⟩
              · clear r0 r4 r6 r7 r8 q4 q6 qW
                rintro ρ K ⟨r0, r4, r6, r7, r8, q4, q6, qW⟩
                simp -implicitDefEqProofs [r8, hwj]
                refine AGo.again ih (m' := L.length - (j + 1)) (by omega) (HLe.refl _) ⟨j + 1, ⟨orRow M l f.bits, f.star⟩, by omega, rfl, by simp [r0], by simp [r4], by simp [r6], by simp [r7], by simp, orRow_lt (by omega) (by omega) _ _ hf, ?_, q4, q6, qW⟩
                rw [← hgo]
                congr 2
                rw [← orRow_or]; simp
            · rw [if_pos he] at hgo
              subst hgo
              simp -implicitDefEqProofs [he, r4, q4]
              exact HWk.new h4 qW
          · have hje : j = L.length := by omega
            subst hje
            simp only [List.drop_length, parseGo] at hgo
            subst hgo
            simp -implicitDefEqProofs [r4, r6, r7, r8, q6, q4]
            exact HWk.new h4 qW
        · have c0' : (0 : Int) < s.length := by omega
          have c2 : ¬ s[0].toNat = 42 := fun h => c1 (UInt8.toNat_inj.1 (by rw [h]; rfl))
          have c2' : ¬ (s[0].toNat : Int) = 42 := by omega
          simp -implicitDefEqProofs [k0, k4, hl', c0, c2']
          refine AAlloc.intro fun b6 h6 => ?_
          have n64 : b6 ≠ b4 := by intro e; subst e; simp [Heap.set] at h6
          have e6 : H b6 = none := (HLe.set_fresh h4).none h6
          simp -implicitDefEqProofs
          generalize hK : Heap.set _ b6 _ = K
          have k6 : K b6 = some (.cells [.sc (.int .u64 (0 : Nat)), .sc (.bool false)] 81) := by rw [← hK]; simp [Heap.set]
          have k4' : K b4 = some (.cells [.sc (.int .u64 (0 : Nat)), .sc (.bool false)] 81) := by rw [← hK]; simp [Heap.set, n64.symm]
          have kW : HWk H K := by rw [← hK]; exact HWk.new e6 (HWk.new h4 (HWk.refl _))
          clear hK hW hW2
          refine ACall.eq (c_refSplit44 s hs) ?_
          generalize sp 44 s = L at hm hL ⊢
          simp -implicitDefEqProofs
          generalize hres : parseGo k L _ = res
          refine AGo.rounds (fun m ρ K => ∃ (j : Nat) (f : Fld), j ≤ L.length ∧ m = L.length - j ∧ ρ 0 = .sc (.int .i64 k) ∧ ρ 4 = .sc (.pointer (some ⟨b4, 0, none⟩)) ∧ ρ 6 = .sc (.pointer (some ⟨b6, 0, none⟩)) ∧ ρ 7 = .sl (strL L) .no ∧ ρ 8 = .sc (.int .i64 j) ∧
            f.bits < 18446744073709551616 ∧ parseGo k (L.drop j) f = res ∧ K b4 = some (.cells [.sc (.int .u64 (0 : Nat)), .sc (.bool false)] 81) ∧ K b6 = some (.cells [.sc (.int .u64 f.bits), .sc (.bool f.star)] 81) ∧ HWk H K) ?_ (m := L.length) (HLe.refl _)
            ⟨0, ⟨0, false⟩, by omega, by omega, by simp, by simp, by simp, by simp, by simp, (by decide : (0 : Nat) < 18446744073709551616), by simpa using hres, k4', k6, kW⟩
          clear k4' k6 kW
          rintro m ρ K1 ih ⟨j, f, hj, rfl, r0, r4, r6, r7, r8, hf, hgo, q4, q6, qW⟩
          by_cases hlt : j < L.length
          · have hmem : L[j] ∈ L := List.getElem_mem hlt
            rw [List.drop_eq_getElem_cons hlt] at hgo
            rw [parseGo_ref hk] at hgo
            have hin := refItem_in hk L[j]
            have hlen := refItem_len k L[j]
            simp -implicitDefEqProofs [r0, r7, r8, hlt]
            refine ACall.eq (c_refItem hk L[j] (hm _ hmem)) ?_
            generalize refItem k L[j] = it at *
            obtain ⟨l, er⟩ := it
            simp only at hgo hin hlen ⊢
            by_cases he : er = 0
            · rw [if_neg (by simp [he])] at hgo
              obtain ⟨M, hM⟩ : ∃ M, (mostK k + 1).toNat = M := ⟨_, rfl⟩
              obtain ⟨M', hM1, hM7, hM60⟩ := mostK_nat hk
              have hMM : M = M' := by omega
              rw [hM] at hgo
              have hwj : IntKind.i64.wrap ((j : Int) + 1) = ((j + 1 : Nat) : Int) := by rw [wrap_i64 (by omega) (by omega)]; push_cast; rfl
              simp -implicitDefEqProofs [he]
              refine AGo.joinLoop (fun ρ K => ρ 0 = .sc (.int .i64 k) ∧ ρ 4 = .sc (.pointer (some ⟨b4, 0, none⟩)) ∧ ρ 6 = .sc (.pointer (some ⟨b6, 0, none⟩)) ∧ ρ 7 = .sl (strL L) .no ∧ ρ 8 = .sc (.int .i64 j) ∧ K b4 = some (.cells [.sc (.int .u64 (0 : Nat)), .sc (.bool false)] 81) ∧ K b6 = some (.cells [.sc (.int .u64 (orRow M l f.bits : Nat)), .sc (.bool f.star)] 81) ∧ HWk H K) (fun k' hk' => ?_) ?_
              · refine AGo.rounds (fun m ρ K => ∃ i : Nat, i ≤ l.length ∧ m = l.length - i ∧ ρ 0 = .sc (.int .i64 k) ∧ ρ 4 = .sc (.pointer (some ⟨b4, 0, none⟩)) ∧ ρ 6 = .sc (.pointer (some ⟨b6, 0, none⟩)) ∧ ρ 7 = .sl (strL L) .no ∧ ρ 8 = .sc (.int .i64 j) ∧ ρ 9 = .sl (ints l) .no ∧ ρ 11 = .sc (.int .i64 i) ∧ K b4 = some (.cells [.sc (.int .u64 (0 : Nat)), .sc (.bool false)] 81) ∧ K b6 = some (.cells [.sc (.int .u64 (orRow M (l.take i) f.bits : Nat)), .sc (.bool f.star)] 81) ∧ HWk H K) ?_ (m := l.length) (HLe.refl _)
                  ⟨0, by omega, rfl, by simp [r0], by simp [r4], by simp [r6], by simp [r7], by simp [r8], by simp, by simp, q4, by simpa [orRow] using q6, qW⟩
                clear q4 q6 qW r0 r4 r6 r7 r8
                rintro m ρ K ih2 ⟨i, hi, rfl, r0, r4, r6, r7, r8, r9, r11, q4, q6, qW⟩
                by_cases hil : i < l.length
                · have hwi : IntKind.i64.wrap ((i : Int) + 1) = ((i + 1 : Nat) : Int) := by rw [wrap_i64 (by omega) (by omega)]; push_cast; rfl
                  obtain ⟨n, hn⟩ : ∃ n, l[i] = n := ⟨_, rfl⟩
                  have hnh : (n : Int) ≤ highK k := by rw [← hn]; exact hin _ (List.getElem_mem hil)
                  have h7 := seven hk hnh
                  rw [hM] at h7
                  have hbnd := bounds_le hk
                  have hsn : l.take (i + 1) = l.take i ++ [n] := by rw [List.take_add_one, List.getElem?_eq_getElem hil, hn]; rfl
                  have hnext := orRow_snoc M (l.take i) n f.bits
                  have hbits := orRow_lt (M := M) (by omega) (by omega) (l.take i) f.bits hf
                  by_cases c4 : k = 4
                  · by_cases c7 : (n : Int) = 7
                    · rw [if_pos ⟨c4, c7⟩] at h7
                      have hm0 : modN n M = 0 := by omega
                      rw [hm0] at hnext
                      have c7' : n = 7 := by omega
                      simp -implicitDefEqProofs [r0, r6, r9, r11, hil, hn, c4, c7', q6]
                      refine ACall.eq (c_refHas ⟨orRow M (l.take i) f.bits, f.star⟩ ((0 : Nat) : Int) hbits) ?_
                      rw [hasB_nat2 _ _ (by omega)]
                      cases ht : (orRow M (l.take i) f.bits).testBit 0 with
                      | true =>
                        have hor := or_same ht
                        rw [hor] at hnext
                        simp -implicitDefEqProofs [r11, hwi]
                        exact AGo.again ih2 (m' := l.length - (i + 1)) (by omega) (HLe.refl _) ⟨i + 1, by omega, rfl, by simp [r0], by simp [r4], by simp [r6], by simp [r7], by simp [r8], by simp [r9], by simp, q4, by rw [hsn, hnext]; exact q6, qW⟩
                      | false =>
                        have hadd := add_or hbits (i := 0) (by omega) ht
                        have hadd0 : IntKind.u64.wrap (((orRow M (l.take i) f.bits : Nat) : Int) + 1) = ((orRow M (l.take i) f.bits ||| 1 : Nat) : Int) := by simpa [pow2] using hadd
                        have hw0 : IntKind.u64.wrap 0 = 0 := rfl
                        have hw1 : IntKind.u64.wrap 1 = 1 := rfl
                        simp -implicitDefEqProofs [r6, r11, hwi, q6, hadd0, hw0, hw1]
                        exact AGo.again ih2 (m' := l.length - (i + 1)) (by omega) (HLe.refl _) ⟨i + 1, by omega, rfl, by simp [r0], by simp [r4], by simp [r6], by simp [r7], by simp [r8], by simp [r9], by simp, by simp [Heap.set, n64.symm, q4], by simp [Heap.set, hsn, hnext, pow2], HWk.new e6 qW⟩
                    · rw [if_neg (fun h => c7 h.2)] at h7
                      have hm0 : modN n M = n := by omega
                      rw [hm0] at hnext
                      have c7' : ¬ n = 7 := by omega
                      simp -implicitDefEqProofs [r0, r6, r9, r11, hil, hn, c4, c7, q6]
                      refine ACall.eq (c_refHas ⟨orRow M (l.take i) f.bits, f.star⟩ ((n : Nat) : Int) hbits) ?_
                      rw [hasB_nat2 _ _ (by omega)]
                      cases ht : (orRow M (l.take i) f.bits).testBit n with
                      | true =>
                        have hor := or_same ht
                        rw [hor] at hnext
                        simp -implicitDefEqProofs [r11, hwi]
                        exact AGo.again ih2 (m' := l.length - (i + 1)) (by omega) (HLe.refl _) ⟨i + 1, by omega, rfl, by simp [r0], by simp [r4], by simp [r6], by simp [r7], by simp [r8], by simp [r9], by simp, q4, by rw [hsn, hnext]; exact q6, qW⟩
                      | false =>
                        have hadd := add_or hbits (i := n) (by omega) ht
                        have hmin : min n 64 = n := by omega
                        have hwu : IntKind.u64.wrap (n : Int) = (n : Int) := wrap_u64 (by omega) (by omega)
                        have hsh := shl_nat (r := n) (by omega)
                        simp -implicitDefEqProofs [r6, r11, hwi, q6, hmin, hwu, hsh, hadd]
                        exact AGo.again ih2 (m' := l.length - (i + 1)) (by omega) (HLe.refl _) ⟨i + 1, by omega, rfl, by simp [r0], by simp [r4], by simp [r6], by simp [r7], by simp [r8], by simp [r9], by simp, by simp [Heap.set, n64.symm, q4], by simp [Heap.set, hsn, hnext, pow2], HWk.new e6 qW⟩
                  · rw [if_neg (fun h => c4 h.1)] at h7
                    have hm0 : modN n M = n := by omega
                    rw [hm0] at hnext
                    simp -implicitDefEqProofs [r0, r6, r9, r11, hil, hn, c4, q6]
                    refine ACall.eq (c_refHas ⟨orRow M (l.take i) f.bits, f.star⟩ ((n : Nat) : Int) hbits) ?_
                    rw [hasB_nat2 _ _ (by omega)]
                    cases ht : (orRow M (l.take i) f.bits).testBit n with
                    | true =>
                      have hor := or_same ht
                      rw [hor] at hnext
                      simp -implicitDefEqProofs [r11, hwi]
                      exact AGo.again ih2 (m' := l.length - (i + 1)) (by omega) (HLe.refl _) ⟨i + 1, by omega, rfl, by simp [r0], by simp [r4], by simp [r6], by simp [r7], by simp [r8], by simp [r9], by simp, q4, by rw [hsn, hnext]; exact q6, qW⟩
                    | false =>
                      have hadd := add_or hbits (i := n) (by omega) ht
                      have hmin : min n 64 = n := by omega
                      have hwu : IntKind.u64.wrap (n : Int) = (n : Int) := wrap_u64 (by omega) (by omega)
                      have hsh := shl_nat (r := n) (by omega)
                      simp -implicitDefEqProofs [r6, r11, hwi, q6, hmin, hwu, hsh, hadd]
                      exact AGo.again ih2 (m' := l.length - (i + 1)) (by omega) (HLe.refl _) ⟨i + 1, by omega, rfl, by simp [r0], by simp [r4], by simp [r6], by simp [r7], by simp [r8], by simp [r9], by simp, by simp [Heap.set, n64.symm, q4], by simp [Heap.set, hsn, hnext, pow2], HWk.new e6 qW⟩
                · have hie : l.take i = l := List.take_of_length_le (by omega)
                  rw [hie] at q6
                  simp -implicitDefEqProofs [r9, r11, hil]
                  exact hk' _ _ ⟨by simp [r0], by simp [r4], by simp [r6], by simp [r7], by simp [r8], q4, q6, qW⟩
              · clear r0 r4 r6 r7 r8 q4 q6 qW
                rintro ρ K ⟨r0, r4, r6, r7, r8, q4, q6, qW⟩
                simp -implicitDefEqProofs [r8, hwj]
                refine AGo.again ih (m' := L.length - (j + 1)) (by omega) (HLe.refl _) ⟨j + 1, ⟨orRow M l f.bits, f.star⟩, by omega, rfl, by simp [r0], by simp [r4], by simp [r6], by simp [r7], by simp, orRow_lt (by omega) (by omega) _ _ hf, ?_, q4, q6, qW⟩
                rw [← hgo]
                congr 2
                rw [← orRow_or]; simp
            · rw [if_pos he] at hgo
              subst hgo
              simp -implicitDefEqProofs [he, r4, q4]
              exact HWk.new h4 qW
          · have hje : j = L.length := by omega
            subst hje
            simp only [List.drop_length, parseGo] at hgo
            subst hgo
            simp -implicitDefEqProofs [r4, r6, r7, r8, q6, q4]
            exact HWk.new h4 qW
end Go.Proofs.YtlhgpodfhdddkaaGreatDoor
