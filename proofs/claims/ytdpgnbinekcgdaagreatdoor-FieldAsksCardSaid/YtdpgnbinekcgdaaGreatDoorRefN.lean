/- The document's number of a word. -/
import Derived.Test.YtdpgnbinekcgdaaGreatDoorRefI
import Derived.Test.YtdpgnbinekcgdaaGreatDoorRefC
namespace Go.Proofs.YtdpgnbinekcgdaaGreatDoor
open Rg Go

variable {H : Heap}

theorem digV_snoc (l : List UInt8) (b : UInt8) : digV (l ++ [b]) = 10 * digV l + (b.toNat - 48) := by unfold digV; rw [List.foldl_append]; rfl
theorem digV_le : ∀ {l : List UInt8}, l.length ≤ 1 → l.all isD = true → digV l ≤ 9
  | [], _, _ => by decide
  | [a], _, h => by simp [isD] at h; simp [digV]; omega
  | _ :: _ :: _, h, _ => by simp at h
theorem take_snoc {s : List UInt8} {i : Nat} (h : i < s.length) : s.take (i + 1) = s.take i ++ [s[i]] := by rw [List.take_add_one, List.getElem?_eq_getElem h]; rfl
theorem lowB_u8 {c : UInt8} (h : 65 ≤ c.toNat ∧ c.toNat ≤ 90) : IntKind.u8.wrap ((c.toNat : Int) + 32) = ((lowB c).toNat : Int) := by
  have e : (lowB c).toNat = c.toNat + 32 := by
    unfold lowB; rw [if_pos h, UInt8.toNat_add]; simp; omega
  rw [e]
  have : (c.toNat : Int) + 32 = ((c.toNat + 32 : Nat) : Int) := by push_cast; rfl
  rw [this]
  simp [IntKind.wrap, IntKind.signed, IntKind.bits]
  omega
def flatM : List UInt8 := months.flatten
def flatD : List UInt8 := days.flatten
theorem flatM_at : ∀ j, j < 12 → (([106, 97, 110, 102, 101, 98, 109, 97, 114, 97, 112, 114, 109, 97, 121, 106, 117, 110, 106, 117, 108, 97, 117, 103, 115, 101, 112, 111, 99, 116, 110, 111, 118, 100, 101, 99] : List UInt8).take (3 * (j + 1))).drop (3 * j) = months.getD j [] := by decide
theorem flatD_at : ∀ j, j < 7 → (([115, 117, 110, 109, 111, 110, 116, 117, 101, 119, 101, 100, 116, 104, 117, 102, 114, 105, 115, 97, 116] : List UInt8).take (3 * (j + 1))).drop (3 * j) = days.getD j [] := by decide
theorem idxL_step {zs : List (List UInt8)} {x : List UInt8} {j : Nat} (hj : j < zs.length) : idxL (zs.drop j) x j = if zs.getD j [] = x then (j : Int) else idxL (zs.drop (j + 1)) x (j + 1) := by
  rw [List.drop_eq_getElem_cons hj]
  have e : zs.getD j [] = zs[j] := by rw [List.getD_eq_getElem?_getD, List.getElem?_eq_getElem hj]; rfl
  rw [e]
  rfl

def allD (s : List UInt8) : Bool := s.all isD
theorem allD_snoc (l : List UInt8) (b : UInt8) : allD (l ++ [b]) = (allD l && isD b) := by unfold allD; simp
theorem allD_take {s : List UInt8} {i : Nat} (h : allD (s.take i) = false) : allD s = false := by
  cases ha : allD s with
  | false => rfl
  | true =>
    have h3 := List.all_eq_true.1 ha
    have : allD (s.take i) = true := List.all_eq_true.2 (fun x hx => h3 x (List.mem_of_mem_take hx))
    rw [h] at this; cases this

theorem c_refNumber {k : Int} (hk : isK k = true) (s : List UInt8) (hs : s.length ≤ 1000000) : AOk Tryz.prog 86 [.sc (.int .i64 k), str s] H (.sc (.int .i64 (refNum k s))) H := by
  refine ACalls.into Tryz.func86 rfl Tryz.ntmps86 Tryz.results86 (by simp) ?_
  by_cases h12 : s.length = 1 ∨ s.length = 2
  · have hl3 : s.length ≠ 3 := by omega
    have hl3' : ¬ (s.length : Int) = 3 := by omega
    have hfin : refNum k s = if allD s = true then (digV s : Int) else -1 := by
      by_cases ha : allD s = true
      · rw [if_pos ha, refNum_dig h12 ha]
      · rw [if_neg ha, refNum_name (by unfold allD at ha; simp [ha]), nameK_len (by simpa using hl3)]
    rw [hfin]
    have hor : (s.length : Int) = 1 ∨ (¬ (s.length : Int) = 1 ∧ (s.length : Int) = 2) := by omega
    rcases hor with h1 | ⟨h1, h2⟩
    all_goals (first | (simp -implicitDefEqProofs [h1, h2]; done) | simp -implicitDefEqProofs [h1, h2] | simp -implicitDefEqProofs [h1])
    all_goals
      refine AGo.rounds (fun m ρ K => ∃ (i : Nat) (v : Int), i ≤ s.length ∧ m = s.length - i ∧ ρ 0 = .sc (.int .i64 k) ∧ ρ 1 = str s ∧ ρ 5 = .sc (.bool (allD (s.take i))) ∧ ρ 6 = .sc (.int .i64 v) ∧ ρ 7 = .sc (.int .i64 i) ∧
        (allD (s.take i) = true → v = digV (s.take i)) ∧ K = H) ?_ (m := s.length) (HLe.refl _) ⟨0, 0, by omega, rfl, by simp, by simp, by simp [allD], by simp, by simp, by simp [digV], rfl⟩
      rintro m ρ K ih ⟨i, v, hi, rfl, r0, r1, r5, r6, r7, hv, rfl⟩
      by_cases hlt : i < s.length
      · cases hd : allD (s.take i) with
        | false =>
          have hall := allD_take hd
          rw [hd] at r5
          simp -implicitDefEqProofs [r0, r1, r5, r6, r7, hlt, hl3', hall]
        | true =>
          rw [hd] at r5
          have hle := digV_le (l := s.take i) (by simp; omega) hd
          obtain rfl := hv hd
          have hsn := take_snoc hlt
          have hA : allD (s.take (i + 1)) = isD s[i] := by rw [hsn, allD_snoc, hd]; rfl
          have hV : (digV (s.take (i + 1)) : Int) = ((10 * digV (s.take i) + (s[i].toNat - 48) : Nat) : Int) := by rw [hsn, digV_snoc]
          generalize digV (s.take i) = d at *
          have hc256 := UInt8.toNat_lt s[i]
          have hwi : IntKind.i64.wrap ((i : Int) + 1) = ((i + 1 : Nat) : Int) := by rw [wrap_i64 (by omega) (by omega)]; push_cast; rfl
          have w1 : IntKind.i64.wrap (10 * (d : Int)) = 10 * (d : Int) := wrap_i64 (by omega) (by omega)
          have w2 : IntKind.i64.wrap ((s[i].toNat : Int)) = (s[i].toNat : Int) := wrap_i64 (by omega) (by omega)
          have w3 : IntKind.i64.wrap (10 * (d : Int) + (s[i].toNat : Int)) = 10 * (d : Int) + (s[i].toNat : Int) := wrap_i64 (by omega) (by omega)
          have w4 : IntKind.i64.wrap (10 * (d : Int) + (s[i].toNat : Int) - 48) = 10 * (d : Int) + (s[i].toNat : Int) - 48 := wrap_i64 (by omega) (by omega)
          have again : ∀ ρ' : Nat → AV, (isD s[i] = true → 48 ≤ s[i].toNat) → ρ' 0 = .sc (.int .i64 k) → ρ' 1 = str s → ρ' 5 = .sc (.bool (isD s[i])) → ρ' 6 = .sc (.int .i64 (10 * (d : Int) + (s[i].toNat : Int) - 48)) → ρ' 7 = .sc (.int .i64 ((i + 1 : Nat) : Int)) →
              ∃ (i' : Nat) (v : Int), i' ≤ s.length ∧ s.length - (i + 1) = s.length - i' ∧ ρ' 0 = .sc (.int .i64 k) ∧ ρ' 1 = str s ∧ ρ' 5 = .sc (.bool (allD (s.take i'))) ∧ ρ' 6 = .sc (.int .i64 v) ∧ ρ' 7 = .sc (.int .i64 i') ∧ (allD (s.take i') = true → v = digV (s.take i')) ∧ K = K :=
            fun ρ' h48 a0 a1 a5 a6 a7 => ⟨i + 1, _, by omega, rfl, a0, a1, by rw [a5, hA], a6, a7, fun h => by rw [hA] at h; have := h48 h; rw [hV]; omega, rfl⟩
          by_cases c1 : (48 : Int) ≤ s[i].toNat
          · by_cases c2 : (s[i].toNat : Int) ≤ 57
            · have hD : isD s[i] = true := by simp [isD]; omega
              simp -implicitDefEqProofs [r0, r1, r5, r6, r7, hlt, c1, c2, hwi, w1, w2, w3, w4]
              exact AGo.again ih (m' := s.length - (i + 1)) (by omega) (HLe.refl _) (again _ (fun _ => by omega) (by simp [r0]) (by simp [r1]) (by simp [hD]) (by simp) (by simp))
            · have hD : isD s[i] = false := by simp [isD]; omega
              simp -implicitDefEqProofs [r0, r1, r5, r6, r7, hlt, c1, c2, hwi, w1, w2, w3, w4]
              exact AGo.again ih (m' := s.length - (i + 1)) (by omega) (HLe.refl _) (again _ (fun _ => by omega) (by simp [r0]) (by simp [r1]) (by simp [hD]) (by simp) (by simp))
          · have hD : isD s[i] = false := by simp [isD]; omega
            simp -implicitDefEqProofs [r0, r1, r5, r6, r7, hlt, c1, hwi, w1, w2, w3, w4]
            exact AGo.again ih (m' := s.length - (i + 1)) (by omega) (HLe.refl _) (again _ (fun h => by rw [hD] at h; cases h) (by simp [r0]) (by simp [r1]) (by simp [hD]) (by simp) (by simp))
      · have hie : s.take i = s := List.take_of_length_le (by omega)
        rw [hie] at r5 hv
        cases hd : allD s with
        | false =>
          rw [hd] at r5
          simp -implicitDefEqProofs [r0, r1, r5, r6, r7, hlt, hl3', hd]
        | true =>
          rw [hd] at r5
          obtain rfl := hv hd
          simp -implicitDefEqProofs [r0, r1, r5, r6, r7, hlt, hd]
  · have h1 : ¬ (s.length : Int) = 1 := by omega
    have h2 : ¬ (s.length : Int) = 2 := by omega
    have hfin : refNum k s = nameK k (s.map lowB) := refNum_name (by simp [h12])
    rw [hfin]
    simp -implicitDefEqProofs [h1, h2]
    rw [go_lp]
    refine ⟨_, HLe.refl _, ?_⟩
    by_cases h3 : s.length = 3
    · have h3i : (s.length : Int) = 3 := by omega
      by_cases h4 : k < 3
      · rw [nameK_kind _ (by omega) (by omega)]
        simp -implicitDefEqProofs [h3, h4]
      · simp -implicitDefEqProofs [h3, h4]
        obtain ⟨low, hlow⟩ : ∃ low, s.map lowB = low := ⟨_, rfl⟩
        rw [hlow]
        have hlen : low.length = 3 := by rw [← hlow]; simpa using h3
        refine AGo.joinLoop (fun ρ K => K = H ∧ ρ 0 = .sc (.int .i64 k) ∧ ρ 8 = str low) (fun k' hk' => ?_) ?_
        · refine AGo.rounds (fun m ρ K => ∃ i : Nat, i ≤ 3 ∧ m = 3 - i ∧ ρ 0 = .sc (.int .i64 k) ∧ ρ 1 = str s ∧ ρ 8 = str (low.take i) ∧ ρ 9 = .sc (.int .i64 i) ∧ K = H) ?_ (m := 3) (HLe.refl _) ⟨0, by omega, rfl, by simp, by simp, by simp, by simp, rfl⟩
          rintro m ρ K ih ⟨i, hi, rfl, r0, r1, r8, r9, rfl⟩
          by_cases hlt : i < 3
          · have hlt' : (i : Int) < 3 := by omega
            have hls : i < s.length := by omega
            have hsn : low.take (i + 1) = low.take i ++ [lowB s[i]] := by
              rw [take_snoc (by omega)]; subst hlow; simp
            have hwi : IntKind.i64.wrap ((i : Int) + 1) = ((i + 1 : Nat) : Int) := by rw [wrap_i64 (by omega) (by omega)]; push_cast; rfl
            have hl256 := UInt8.toNat_lt (lowB s[i])
            have hl0 : (lowB s[i]).toNat < 256 := by omega
            have hl0' : ((lowB s[i]).toNat : Int) < 256 := by omega
            have hbig' : i + 1 ≤ 9223372036854775807 := by omega
            have hmin : min i 3 = i := by omega
            have again : ∀ ρ' : Nat → AV, ρ' 0 = .sc (.int .i64 k) → ρ' 1 = str s → ρ' 8 = str (low.take i ++ [lowB s[i]]) → ρ' 9 = .sc (.int .i64 ((i + 1 : Nat) : Int)) →
              ∃ i' : Nat, i' ≤ 3 ∧ 3 - (i + 1) = 3 - i' ∧ ρ' 0 = .sc (.int .i64 k) ∧ ρ' 1 = str s ∧ ρ' 8 = str (low.take i') ∧ ρ' 9 = .sc (.int .i64 i') ∧ K = K := fun ρ' a b c d =>
              ⟨i + 1, by omega, rfl, a, b, by rw [c, hsn], d, rfl⟩
            clear hsn
            by_cases c1 : (65 : Int) ≤ s[i].toNat
            · by_cases c2 : (s[i].toNat : Int) ≤ 90
              · have hw := lowB_u8 (c := s[i]) (by omega)
                simp -implicitDefEqProofs [r0, r1, r8, r9, hlt', hls, c1, c2, hw, hl0, hl0', hwi, aconv, abytes, hlen, hbig', hmin]
                exact AGo.again ih (m' := 3 - (i + 1)) (by omega) (HLe.refl _) (again _ (by simp [r0]) (by simp [r1]) (by simp) (by simp))
              · have hw : lowB s[i] = s[i] := by unfold lowB; rw [if_neg (by omega)]
                rw [hw] at hl0 hl0' again
                simp -implicitDefEqProofs [r0, r1, r8, r9, hlt', hls, c1, c2, hl0, hl0', hwi, aconv, abytes, hlen, hbig', hmin]
                exact AGo.again ih (m' := 3 - (i + 1)) (by omega) (HLe.refl _) (again _ (by simp [r0]) (by simp [r1]) (by simp) (by simp))
            · have hw : lowB s[i] = s[i] := by unfold lowB; rw [if_neg (by omega)]
              rw [hw] at hl0 hl0' again
              simp -implicitDefEqProofs [r0, r1, r8, r9, hlt', hls, c1, hl0, hl0', hwi, aconv, abytes, hlen, hbig', hmin]
              exact AGo.again ih (m' := 3 - (i + 1)) (by omega) (HLe.refl _) (again _ (by simp [r0]) (by simp [r1]) (by simp) (by simp))
          · obtain rfl : i = 3 := by omega
            have e : low.take 3 = low := List.take_of_length_le (by omega)
            rw [e] at r8
            simp -implicitDefEqProofs [r0, r1, r8, r9]
            exact hk' _ _ ⟨rfl, by simp [r0], by simp [r8]⟩
        · rintro ρ K ⟨rfl, r0, r8⟩
          rcases isK_cases hk with rfl | rfl | rfl | rfl | rfl
          · omega
          · omega
          · omega
          · simp -implicitDefEqProofs [r0, r8]
            refine AGo.rounds (fun m ρ K' => ∃ j j3 : Nat, j3 = 3 * j ∧ j ≤ 12 ∧ m = 12 - j ∧ ρ 8 = str low ∧ ρ 11 = str [106, 97, 110, 102, 101, 98, 109, 97, 114, 97, 112, 114, 109, 97, 121, 106, 117, 110, 106, 117, 108, 97, 117, 103, 115, 101, 112, 111, 99, 116, 110, 111, 118, 100, 101, 99] ∧ ρ 12 = .sc (.int .i64 1) ∧ ρ 13 = .sc (.int .i64 j3) ∧
              idxL months low 0 = idxL (months.drop j) low j ∧ K' = K) ?_ (m := 12) (HLe.refl _) ⟨0, 0, rfl, by omega, rfl, by simp [r8], by simp, by simp, by simp, rfl, rfl⟩
            rintro m ρ K' ih ⟨j, j3, hj3, hj, rfl, r8, r11, r12, r13, hidx, rfl⟩
            by_cases hlt : j < 12
            · have hlt' : (j3 : Int) < 36 := by omega
              have hlt2 : j3 < 36 := by omega
              obtain ⟨j3', hj3'⟩ : ∃ x, x = 3 * (j + 1) := ⟨_, rfl⟩
              have hw3 : IntKind.i64.wrap ((j3 : Int) + 3) = (j3' : Int) := by rw [wrap_i64 (by omega) (by omega)]; omega
              have hat := flatM_at j hlt
              rw [← hj3, ← hj3'] at hat
              have hb1 : j3 ≤ j3' := by omega
              have hb2 : j3' ≤ 36 := by omega
              have hb2' : (j3' : Int) ≤ 36 := by omega
              rw [idxL_step (by exact hlt)] at hidx
              obtain ⟨z, hz⟩ : ∃ z, months.getD j [] = z := ⟨_, rfl⟩
              rw [hz] at hat hidx
              by_cases hc : z = low
              · rw [if_pos hc] at hidx
                have e : nameK 3 low = (j : Int) + 1 := by unfold nameK; rw [if_pos rfl, hidx, if_pos (by omega)]
                have hq : IntKind.i64.wrap ((j3 : Int) / 3) = (j : Int) := by rw [wrap_i64 (by omega) (by omega)]; omega
                have hw1 : IntKind.i64.wrap ((j : Int) + 1) = (j : Int) + 1 := wrap_i64 (by omega) (by omega)
                have hw0 : IntKind.i64.wrap (j : Int) = (j : Int) := wrap_i64 (by omega) (by omega)
                simp -implicitDefEqProofs [r8, r11, r12, r13, hlt', hlt2, hw3, hat, hb1, hb2, hb2', hc, hq, hw1, hw0, e]
              · rw [if_neg hc] at hidx
                have hcb : (z == low) = false := by simpa using hc
                simp -implicitDefEqProofs [r8, r11, r12, r13, hlt', hlt2, hw3, hat, hb1, hb2, hb2', hcb]
                exact AGo.again ih (m' := 12 - (j + 1)) (by omega) (HLe.refl _) ⟨j + 1, j3', hj3', by omega, rfl, by simp [r8], by simp [r11], by simp [r12], by simp, hidx, rfl⟩
            · obtain rfl : j = 12 := by omega
              subst hj3
              have e : nameK 3 low = -1 := by unfold nameK; rw [if_pos rfl, hidx]; rfl
              simp -implicitDefEqProofs [r8, r11, r12, r13, e]
          · simp -implicitDefEqProofs [r0, r8]
            refine AGo.rounds (fun m ρ K' => ∃ j j3 : Nat, j3 = 3 * j ∧ j ≤ 7 ∧ m = 7 - j ∧ ρ 8 = str low ∧ ρ 11 = str [115, 117, 110, 109, 111, 110, 116, 117, 101, 119, 101, 100, 116, 104, 117, 102, 114, 105, 115, 97, 116] ∧ ρ 12 = .sc (.int .i64 0) ∧ ρ 13 = .sc (.int .i64 j3) ∧
              idxL days low 0 = idxL (days.drop j) low j ∧ K' = K) ?_ (m := 7) (HLe.refl _) ⟨0, 0, rfl, by omega, rfl, by simp [r8], by simp, by simp, by simp, rfl, rfl⟩
            rintro m ρ K' ih ⟨j, j3, hj3, hj, rfl, r8, r11, r12, r13, hidx, rfl⟩
            by_cases hlt : j < 7
            · have hlt' : (j3 : Int) < 21 := by omega
              have hlt2 : j3 < 21 := by omega
              obtain ⟨j3', hj3'⟩ : ∃ x, x = 3 * (j + 1) := ⟨_, rfl⟩
              have hw3 : IntKind.i64.wrap ((j3 : Int) + 3) = (j3' : Int) := by rw [wrap_i64 (by omega) (by omega)]; omega
              have hat := flatD_at j hlt
              rw [← hj3, ← hj3'] at hat
              have hb1 : j3 ≤ j3' := by omega
              have hb2 : j3' ≤ 21 := by omega
              have hb2' : (j3' : Int) ≤ 21 := by omega
              rw [idxL_step (by exact hlt)] at hidx
              obtain ⟨z, hz⟩ : ∃ z, days.getD j [] = z := ⟨_, rfl⟩
              rw [hz] at hat hidx
              by_cases hc : z = low
              · rw [if_pos hc] at hidx
                have e : nameK 4 low = (j : Int) + 0 := by unfold nameK; rw [if_neg (by decide), if_pos rfl, hidx]; omega
                have hq : IntKind.i64.wrap ((j3 : Int) / 3) = (j : Int) := by rw [wrap_i64 (by omega) (by omega)]; omega
                have hw1 : IntKind.i64.wrap ((j : Int) + 0) = (j : Int) + 0 := wrap_i64 (by omega) (by omega)
                have hw0 : IntKind.i64.wrap (j : Int) = (j : Int) := wrap_i64 (by omega) (by omega)
                simp -implicitDefEqProofs [r8, r11, r12, r13, hlt', hlt2, hw3, hat, hb1, hb2, hb2', hc, hq, hw1, hw0, e]
              · rw [if_neg hc] at hidx
                have hcb : (z == low) = false := by simpa using hc
                simp -implicitDefEqProofs [r8, r11, r12, r13, hlt', hlt2, hw3, hat, hb1, hb2, hb2', hcb]
                exact AGo.again ih (m' := 7 - (j + 1)) (by omega) (HLe.refl _) ⟨j + 1, j3', hj3', by omega, rfl, by simp [r8], by simp [r11], by simp [r12], by simp, hidx, rfl⟩
            · obtain rfl : j = 7 := by omega
              subst hj3
              have e : nameK 4 low = -1 := by unfold nameK; rw [if_neg (by decide), if_pos rfl, hidx]; rfl
              simp -implicitDefEqProofs [r8, r11, r12, r13, e]
    · have h3i : ¬ (s.length : Int) = 3 := by omega
      have h5 : nameK k (s.map lowB) = -1 := nameK_len (by simpa using h3)
      rw [h5]
      by_cases h0 : 0 < s.length
      · have h0i : (0 : Int) < s.length := by omega
        simp -implicitDefEqProofs [h3, h3i, h0, h0i]
      · have h0i : ¬ (0 : Int) < s.length := by omega
        simp -implicitDefEqProofs [h3, h3i, h0, h0i]
end Go.Proofs.YtdpgnbinekcgdaaGreatDoor
