/- The document's item. -/
import Derived.Test.YtdpgnbinekcgdaaGreatDoorRefN
import Derived.Test.YtdpgnbinekcgdaaGreatDoorRefB
namespace Go.Proofs.YtdpgnbinekcgdaaGreatDoor
open Rg Go

variable {H : Heap}

abbrev ints (l : List Nat) : List AV := l.map fun (n : Nat) => .sc (.int .i64 (n : Int))
theorem szs_ints (l : List Nat) : szs 1 (ints l) = true := by simp [szs, AV.cells]
theorem c_refSplit47 (s : List UInt8) (hs : s.length ≤ 1000000) : AOk Tryz.prog 46 [str s, .sc (.int .u8 47)] H (.sl (strL (sp 47 s)) .no) H := c_refSplit s 47 hs
theorem c_refSplit45 (s : List UInt8) (hs : s.length ≤ 1000000) : AOk Tryz.prog 46 [str s, .sc (.int .u8 45)] H (.sl (strL (sp 45 s)) .no) H := c_refSplit s 45 hs
theorem c_refSplit44 (s : List UInt8) (hs : s.length ≤ 1000000) : AOk Tryz.prog 46 [str s, .sc (.int .u8 44)] H (.sl (strL (sp 44 s)) .no) H := c_refSplit s 44 hs
theorem sp_len (c : UInt8) : ∀ s : List UInt8, ∀ x ∈ sp c s, x.length ≤ s.length
  | [], x, h => by simp [sp] at h; subst h; exact Nat.le_refl _
  | y :: s, x, h => by
    have ih := sp_len c s
    unfold sp at h
    split at h
    · rcases List.mem_cons.1 h with rfl | h
      · simp
      · have := ih x h; simp; omega
    · split at h
      · rename_i he; exact absurd he (sp_ne c s)
      · rename_i a t he
        rw [he] at ih
        rcases List.mem_cons.1 h with rfl | h
        · have := ih a (by simp); simp; omega
        · have := ih x (by simp [h]); simp; omega
theorem refNum_0 {k : Int} (s : List UInt8) : 0 ≤ refNum k s ∨ refNum k s < 0 := by omega

theorem c_refItem {k : Int} (hk : isK k = true) (s : List UInt8) (hs : s.length ≤ 1000000) :
    AOk Tryz.prog 47 [.sc (.int .i64 k), str s] H (.tup [.sl (ints (refItem k s).1) .no, .sc (.int .i64 (refItem k s).2)]) H := by
  have hbd := bounds_le hk
  obtain ⟨res, hres⟩ : ∃ res, refItem k s = res := ⟨_, rfl⟩
  rw [hres]
  unfold refItem at hres
  have hsl := sp_len 47 s
  refine ACalls.into Tryz.func47 rfl Tryz.ntmps47 Tryz.results47 (by simp) ?_
  simp -implicitDefEqProofs
  refine ACall.eq (c_refSplit47 s hs) ?_
  have hcases : ∃ (body : List UInt8), (sp 47 s)[0]? = some body ∧ body.length ≤ s.length ∧ (((sp 47 s).length = 1 ∧ refBody k body false 1 = res) ∨ (∃ b, (sp 47 s).length = 2 ∧ (sp 47 s)[1]? = some b ∧ b.length ≤ s.length ∧ (if refNum 0 b < 0 then ([], 60) else refBody k body true (refNum 0 b)) = res) ∨ (2 < (sp 47 s).length ∧ ([], 60) = res)) := by
    rcases sp_cases 47 s with ⟨h1, _⟩ | ⟨a, b, h1, _⟩ | ⟨a, b, x, y, r, h1, _⟩
    · rw [h1] at hres ⊢; exact ⟨s, rfl, Nat.le_refl _, .inl ⟨rfl, hres⟩⟩
    · rw [h1] at hres hsl ⊢; exact ⟨a, rfl, hsl a (by simp), .inr (.inl ⟨b, rfl, rfl, hsl b (by simp), hres⟩)⟩
    · rw [h1] at hres hsl ⊢; exact ⟨a, rfl, hsl a (by simp), .inr (.inr ⟨by simp, hres⟩)⟩
  clear hres hsl
  generalize sp 47 s = P at hcases ⊢
  obtain ⟨body, hP0, hbl, hcases⟩ := hcases
  have hP0' : (strL P)[0]? = some (str body) := by simp [hP0]
  by_cases hbig : 2 < P.length
  · have hr : ([], 60) = res := by
      rcases hcases with ⟨h, _⟩ | ⟨b, h, _⟩ | ⟨_, h⟩
      · omega
      · omega
      · exact h
    subst hr
    have hbig' : (2 : Int) < P.length := by omega
    simp -implicitDefEqProofs [hbig, hbig']
  · have hbig' : ¬ (2 : Int) < P.length := by omega
    simp -implicitDefEqProofs [hbig, hbig']
    refine ABr.join (fun ρ K' => K' = H ∧ ∃ (two : Bool) (step : Int), ρ 0 = .sc (.int .i64 k) ∧ ρ 6 = .sl (strL P) .no ∧ ρ 7 = .sc (.int .i64 step) ∧ 0 ≤ step ∧ step ≤ 99 ∧ (P.length = 2 ↔ two = true) ∧ refBody k body two step = res) (fun k' hk' => ?_) ?_
    · rcases hcases with ⟨h1, hr⟩ | ⟨b, h1, hP1, hlb, hr⟩ | ⟨h1, hr⟩
      · have h1' : ¬ (P.length : Int) = 2 := by omega
        have h1n : ¬ P.length = 2 := by omega
        simp -implicitDefEqProofs [h1', h1n]
        exact hk' _ _ ⟨rfl, false, 1, by simp, by simp, by simp, by omega, by omega, by simp [h1], hr⟩
      · have h1' : (P.length : Int) = 2 := by omega
        have hP1' : (strL P)[1]? = some (str b) := by simp [hP1]
        simp -implicitDefEqProofs [h1', hP1', hP1]
        refine ACall.eq (c_refNumber (k := 0) rfl b (by omega)) ?_
        have hle := refNum_le 0 b
        by_cases hn : refNum 0 b < 0
        · rw [if_pos hn] at hr
          subst hr
          simp -implicitDefEqProofs [hn]
        · rw [if_neg hn] at hr
          simp -implicitDefEqProofs [hn]
          exact hk' _ _ ⟨rfl, true, refNum 0 b, by simp, by simp, by simp, by omega, by omega, by simp [h1], hr⟩
      · omega
    · rintro ρ K' ⟨rfl, two, step, r0, r6, r7, hs0, hs1, htwo, hr⟩
      simp -implicitDefEqProofs [r0, r6, r7]
      refine ACall.eq (c_refLow hk) ?_
      simp -implicitDefEqProofs [r0, r6, r7]
      refine ACall.eq (c_refHigh hk) ?_
      simp -implicitDefEqProofs [r0, r6, r7, hP0, hP0']
      unfold refBody at hr
      refine ABr.join (fun ρ K => K = K' ∧ ∃ first last : Int, ρ 7 = .sc (.int .i64 step) ∧ ρ 8 = .sc (.int .i64 first) ∧ ρ 9 = .sc (.int .i64 last) ∧ 0 ≤ first ∧ first ≤ 59 ∧ last ≤ 59 ∧ refEnd first last step = res) (fun k' hk' => ?_) ?_
      · by_cases hb : body = [42]
        · rw [if_pos hb] at hr
          simp -implicitDefEqProofs [hb]
          exact hk' _ _ ⟨rfl, _, _, by simp [r7], by simp, by simp, by omega, by omega, by omega, hr⟩
        · rw [if_neg hb] at hr
          have hb' : (body == [42]) = false := by simpa using hb
          simp -implicitDefEqProofs [r0, r6, r7, hb', hP0, hP0']
          refine ACall.eq (c_refSplit45 body (by omega)) ?_
          have hsl := sp_len 45 body
          have hends : ∃ a b, (sp 45 body)[0]? = some a ∧ (sp 45 body)[(sp 45 body).length - 1]? = some b ∧ a.length ≤ body.length ∧ b.length ≤ body.length ∧ (((sp 45 body).length = 1 ∧ (if two = true then ([], 60) else refEnds k (refNum k a) (refNum k b) step) = res) ∨ ((sp 45 body).length = 2 ∧ refEnds k (refNum k a) (refNum k b) step = res) ∨ (2 < (sp 45 body).length ∧ ([], 60) = res)) := by
            rcases sp_cases 45 body with ⟨h1, _⟩ | ⟨a, b, h1, _⟩ | ⟨a, b, x, y, r, h1, _⟩
            · rw [h1] at hr ⊢; exact ⟨body, body, rfl, rfl, Nat.le_refl _, Nat.le_refl _, .inl ⟨rfl, hr⟩⟩
            · rw [h1] at hr hsl ⊢; exact ⟨a, b, rfl, rfl, hsl a (by simp), hsl b (by simp), .inr (.inl ⟨rfl, hr⟩)⟩
            · rw [h1] at hr hsl ⊢
              obtain ⟨z, hz⟩ : ∃ z, (a :: x :: y :: r)[(a :: x :: y :: r).length - 1]? = some z := ⟨_, List.getElem?_eq_getElem (by simp)⟩
              exact ⟨a, z, rfl, hz, hsl a (by simp), hsl z (List.mem_of_getElem? hz), .inr (.inr ⟨by simp, hr⟩)⟩
          clear hr hsl
          have hQlen : (sp 45 body).length ≤ 1000001 := by
            have := split_length body [45] (by decide)
            rw [split_sp] at this; omega
          generalize sp 45 body = Q at hends hQlen ⊢
          obtain ⟨a, b, hQ0, hQ1, hla, hlb, hends⟩ := hends
          have hQ0' : (strL Q)[0]? = some (str a) := by simp [hQ0]
          have hQ1' : (strL Q)[Q.length - 1]? = some (str b) := by simp [hQ1]
          have hQ00 : ∀ h : 0 < Q.length, Q[0]'h = a := fun h => by rw [List.getElem?_eq_getElem h] at hQ0; exact Option.some.inj hQ0
          by_cases hQ2 : 2 < Q.length
          · have hr : ([], 60) = res := by
              rcases hends with ⟨h, _⟩ | ⟨h, _⟩ | ⟨_, h⟩
              · omega
              · omega
              · exact h
            subst hr
            have hQ2' : (2 : Int) < Q.length := by omega
            simp -implicitDefEqProofs [hQ2, hQ2']
          · have hQ2' : ¬ (2 : Int) < Q.length := by omega
            have hgo : (Q.length = 1 ∧ two = true ∧ ([], 60) = res) ∨ (((Q.length = 1 ∧ two = false) ∨ Q.length = 2) ∧ refEnds k (refNum k a) (refNum k b) step = res) := by
              rcases hends with ⟨h, h2⟩ | ⟨h, h2⟩ | ⟨h, _⟩
              · cases two with
                | true => exact .inl ⟨h, rfl, by simpa using h2⟩
                | false => exact .inr ⟨.inl ⟨h, rfl⟩, by simpa using h2⟩
              · exact .inr ⟨.inr h, h2⟩
              · exact absurd h hQ2
            rcases hgo with ⟨hq, rfl, hr⟩ | ⟨hq, hr⟩
            · subst hr
              have hq' : (Q.length : Int) = 1 := by omega
              have hp := htwo.2 rfl
              have hp' : (P.length : Int) = 2 := by omega
              simp -implicitDefEqProofs [hq, hq', hp, hp', r6]
            · have hql : IntKind.i64.wrap ((Q.length : Int) - 1) = ((Q.length - 1 : Nat) : Int) := by rw [wrap_i64 (by omega) (by omega)]; omega
              have ha9 := refNum_le k a
              have hb9 := refNum_le k b
              have hcase : (Q.length = 1 ∧ two = false) ∨ (¬ Q.length = 1 ∧ Q.length = 2) := by
                rcases hq with h | h
                · exact .inl h
                · exact .inr ⟨by omega, h⟩
              clear hq
              rcases hcase with ⟨hq, rfl⟩ | ⟨hq, hq3⟩
              · have hq' : (Q.length : Int) = 1 := by omega
                have hp : ¬ P.length = 2 := fun h => by have := htwo.1 h; cases this
                have hp' : ¬ (P.length : Int) = 2 := by omega
                simp -implicitDefEqProofs [hQ2, hQ2', hq', hp', hq, hp, r0, r6, hQ00, hQ0, hQ0']
                refine ACall.eq (c_refNumber hk a (by omega)) ?_
                simp -implicitDefEqProofs [r0, hql, hQ1, hQ1']
                refine ACall.eq (c_refNumber hk b (by omega)) ?_
                by_cases na : refNum k a < 0
                · rw [refEnds, if_pos (.inl na)] at hr
                  subst hr
                  simp -implicitDefEqProofs [na]
                · by_cases nb : refNum k b < 0
                  · rw [refEnds, if_pos (.inr nb)] at hr
                    subst hr
                    simp -implicitDefEqProofs [na, nb]
                  · rw [refEnds, if_neg (by omega)] at hr
                    simp -implicitDefEqProofs [na, nb, r0]
                    refine ACall.eq (c_refHigh hk) ?_
                    have hk4 : (k = 4 ∧ highK k = 7) ∨ (¬ k = 4 ∧ mostK k = highK k) := by
                      rcases isK_cases hk with rfl | rfl | rfl | rfl | rfl
                      · exact .inr ⟨by decide, rfl⟩
                      · exact .inr ⟨by decide, rfl⟩
                      · exact .inr ⟨by decide, rfl⟩
                      · exact .inr ⟨by decide, rfl⟩
                      · exact .inl ⟨rfl, rfl⟩
                    rcases hk4 with ⟨rfl, hH⟩ | ⟨k4, hH⟩
                    · rw [hH] at hr
                      simp -implicitDefEqProofs [r0]
                      refine ACall.eq (c_refLow hk) ?_
                      by_cases c1 : refNum 4 a < lowK 4
                      · rw [if_pos (.inl c1)] at hr
                        subst hr
                        simp -implicitDefEqProofs [c1]
                      · by_cases c2 : 7 < refNum 4 a
                        · rw [if_pos (.inr (.inl c2))] at hr
                          subst hr
                          simp -implicitDefEqProofs [c1, c2]
                        · by_cases c3 : 7 < refNum 4 b
                          · rw [if_pos (.inr (.inr (.inl c3)))] at hr
                            subst hr
                            simp -implicitDefEqProofs [c1, c2, c3]
                          · by_cases c4 : refNum 4 b < refNum 4 a
                            · rw [if_pos (.inr (.inr (.inr c4)))] at hr
                              subst hr
                              simp -implicitDefEqProofs [c1, c2, c3, c4]
                            · rw [if_neg (by omega)] at hr
                              simp -implicitDefEqProofs [c1, c2, c3, c4]
                              exact hk' _ _ ⟨rfl, _, _, by simp [r7], by simp, by simp, by omega, by omega, by omega, hr⟩
                    · simp -implicitDefEqProofs [r0, k4]
                      refine ACall.eq (c_refLow hk) ?_
                      by_cases c1 : refNum k a < lowK k
                      · rw [if_pos (.inl c1)] at hr
                        subst hr
                        simp -implicitDefEqProofs [c1]
                      · by_cases c2 : highK k < refNum k a
                        · rw [if_pos (.inr (.inl c2))] at hr
                          subst hr
                          simp -implicitDefEqProofs [c1, hH, c2]
                        · by_cases c3 : highK k < refNum k b
                          · rw [if_pos (.inr (.inr (.inl c3)))] at hr
                            subst hr
                            simp -implicitDefEqProofs [c1, hH, c2, c3]
                          · by_cases c4 : refNum k b < refNum k a
                            · rw [if_pos (.inr (.inr (.inr c4)))] at hr
                              subst hr
                              simp -implicitDefEqProofs [c1, hH, c2, c3, c4]
                            · rw [if_neg (by omega)] at hr
                              simp -implicitDefEqProofs [c1, hH, c2, c3, c4]
                              exact hk' _ _ ⟨rfl, _, _, by simp [r7], by simp, by simp, by omega, by omega, by omega, hr⟩
              · have hq' : ¬ (Q.length : Int) = 1 := by omega
                simp -implicitDefEqProofs [hQ2, hQ2', hq', hq, r0, r6, hQ00, hQ0, hQ0']
                refine ACall.eq (c_refNumber hk a (by omega)) ?_
                simp -implicitDefEqProofs [r0, hql, hQ1, hQ1']
                refine ACall.eq (c_refNumber hk b (by omega)) ?_
                by_cases na : refNum k a < 0
                · rw [refEnds, if_pos (.inl na)] at hr
                  subst hr
                  simp -implicitDefEqProofs [na]
                · by_cases nb : refNum k b < 0
                  · rw [refEnds, if_pos (.inr nb)] at hr
                    subst hr
                    simp -implicitDefEqProofs [na, nb]
                  · rw [refEnds, if_neg (by omega)] at hr
                    simp -implicitDefEqProofs [na, nb, r0]
                    refine ACall.eq (c_refHigh hk) ?_
                    have hk4 : (k = 4 ∧ highK k = 7) ∨ (¬ k = 4 ∧ mostK k = highK k) := by
                      rcases isK_cases hk with rfl | rfl | rfl | rfl | rfl
                      · exact .inr ⟨by decide, rfl⟩
                      · exact .inr ⟨by decide, rfl⟩
                      · exact .inr ⟨by decide, rfl⟩
                      · exact .inr ⟨by decide, rfl⟩
                      · exact .inl ⟨rfl, rfl⟩
                    rcases hk4 with ⟨rfl, hH⟩ | ⟨k4, hH⟩
                    · rw [hH] at hr
                      simp -implicitDefEqProofs [r0]
                      refine ACall.eq (c_refLow hk) ?_
                      by_cases c1 : refNum 4 a < lowK 4
                      · rw [if_pos (.inl c1)] at hr
                        subst hr
                        simp -implicitDefEqProofs [c1]
                      · by_cases c2 : 7 < refNum 4 a
                        · rw [if_pos (.inr (.inl c2))] at hr
                          subst hr
                          simp -implicitDefEqProofs [c1, c2]
                        · by_cases c3 : 7 < refNum 4 b
                          · rw [if_pos (.inr (.inr (.inl c3)))] at hr
                            subst hr
                            simp -implicitDefEqProofs [c1, c2, c3]
                          · by_cases c4 : refNum 4 b < refNum 4 a
                            · rw [if_pos (.inr (.inr (.inr c4)))] at hr
                              subst hr
                              simp -implicitDefEqProofs [c1, c2, c3, c4]
                            · rw [if_neg (by omega)] at hr
                              simp -implicitDefEqProofs [c1, c2, c3, c4]
                              exact hk' _ _ ⟨rfl, _, _, by simp [r7], by simp, by simp, by omega, by omega, by omega, hr⟩
                    · simp -implicitDefEqProofs [r0, k4]
                      refine ACall.eq (c_refLow hk) ?_
                      by_cases c1 : refNum k a < lowK k
                      · rw [if_pos (.inl c1)] at hr
                        subst hr
                        simp -implicitDefEqProofs [c1]
                      · by_cases c2 : highK k < refNum k a
                        · rw [if_pos (.inr (.inl c2))] at hr
                          subst hr
                          simp -implicitDefEqProofs [c1, hH, c2]
                        · by_cases c3 : highK k < refNum k b
                          · rw [if_pos (.inr (.inr (.inl c3)))] at hr
                            subst hr
                            simp -implicitDefEqProofs [c1, hH, c2, c3]
                          · by_cases c4 : refNum k b < refNum k a
                            · rw [if_pos (.inr (.inr (.inr c4)))] at hr
                              subst hr
                              simp -implicitDefEqProofs [c1, hH, c2, c3, c4]
                            · rw [if_neg (by omega)] at hr
                              simp -implicitDefEqProofs [c1, hH, c2, c3, c4]
                              exact hk' _ _ ⟨rfl, _, _, by simp [r7], by simp, by simp, by omega, by omega, by omega, hr⟩
      · rintro ρ K ⟨rfl, first, last, r7, r8, r9, hf0, hf1, hl1, hr⟩
        unfold refEnd at hr
        by_cases hst : step = 0
        · rw [if_pos (.inl hst)] at hr
          subst hr
          simp -implicitDefEqProofs [r7, hst]
        · by_cases hst2 : 59 < step
          · rw [if_pos (.inr hst2)] at hr
            subst hr
            simp -implicitDefEqProofs [r7, hst, hst2]
          · rw [if_neg (by omega)] at hr
            subst hr
            obtain ⟨n0, rfl⟩ := Int.eq_ofNat_of_zero_le hf0
            obtain ⟨sN, rfl⟩ := Int.eq_ofNat_of_zero_le hs0
            simp only [Int.toNat_natCast]
            obtain ⟨row, hR⟩ : ∃ row, rowFrom sN last 200 n0 = row := ⟨_, rfl⟩
            rw [hR]
            have hst' : ¬ sN = 0 := by omega
            have hst2' : ¬ 59 < sN := by omega
            simp -implicitDefEqProofs [r7, r8, hst, hst2, hst', hst2']
            refine AGo.rounds (fun m ρ K2 => ∃ (n : Nat) (out : List Nat) (t : Tok), last < (n : Int) + m ∧ n ≤ 118 ∧ ρ 7 = .sc (.int .i64 sN) ∧ ρ 9 = .sc (.int .i64 last) ∧ ρ 12 = .sl (ints out) t ∧ ρ 13 = .sc (.int .i64 n) ∧
              out ++ rowFrom sN last m n = row ∧ out.length + m ≤ 200 ∧ Grows K (ints out) 1 3 t K2) ?_ (m := 200) (HLe.refl _)
              ⟨n0, [], .nil, by omega, by omega, by simp [r7], by simp [r9], by simp, by simp, by simpa using hR, by simp, Grows.zero⟩
            rintro m ρ K2 ih ⟨n, out, t, hlt, hn, r7, r9, r12, r13, hrow, hlen, hg⟩
            by_cases hle : (n : Int) ≤ last
            · obtain ⟨m', rfl⟩ : ∃ m', m = m' + 1 := ⟨m - 1, by omega⟩
              simp only [rowFrom, if_pos hle] at hrow
              have hw2 : IntKind.i64.wrap ((n : Int) + (sN : Int)) = ((n + sN : Nat) : Int) := by rw [wrap_i64 (by omega) (by omega)]; push_cast; rfl
              simp -implicitDefEqProofs [r7, r9, r12, r13, hle]
              refine AApp.grows el_74 hg (HLe.refl _) (by simp) (szs_ints _) (by simp [szs, AV.cells]) (by simp; omega) (by simp [maxLen]; omega) fun t' K1 Hn hg' hl' => ?_
              simp -implicitDefEqProofs [r7, r13, hw2]
              refine AGo.again ih (m' := m') (by omega) hl' ⟨n + sN, out ++ [n], t', by push_cast at *; omega, by omega, by simp [r7], by simp [r9], by simp, by simp, by rw [← hrow]; simp, by simp; omega, by simpa using hg'⟩
            · have hrow' : out = row := by
                cases m with
                | zero => simpa [rowFrom] using hrow
                | succ m => simpa only [rowFrom, if_neg hle, List.append_nil] using hrow
              rw [← hrow']
              simp -implicitDefEqProofs [r7, r9, r12, r13, hle]
              exact hg.le.wk
end Go.Proofs.YtdpgnbinekcgdaaGreatDoor
