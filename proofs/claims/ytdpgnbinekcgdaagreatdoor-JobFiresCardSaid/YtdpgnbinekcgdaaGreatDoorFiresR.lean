/- A job's firings, as the document has them. -/
import Derived.Test.YtdpgnbinekcgdaaGreatDoorFires
namespace Go.Proofs.YtdpgnbinekcgdaaGreatDoor
open Rg Go

variable {H : Heap}

/-- The newest firings of a job within a time; none, if there are none to be told. -/
def firesB (j : Jb) (a b : Int) (m : Int) : List Nat := if mayJ j ≠ 0 ∨ b < 0 ∨ 13569465600 ≤ b ∨ a < -1 then [] else firesJ j a b m
theorem firesB_len (j : Jb) (a b : Int) (m : Int) : (firesB j a b m).length ≤ m.toNat := by
  unfold firesB
  split
  · simp
  · exact newest_len _ _
theorem c_jobFires (hG : Glob H) (j : Jb) (t : Rg.Tok) (hs : j.ex.length ≤ 1000000) {a b m : Int} (hm : m ≤ 1000000) :
    AOk Tryz.prog 36 [jbAV j t, i64 a, i64 b, i64 m] H (.sl (((firesB j a b m).map fun n : Nat => (n : Int)).map i64) .no) H := by
  unfold firesB
  by_cases h : mayJ j ≠ 0 ∨ b < 0 ∨ 13569465600 ≤ b ∨ a < -1
  · rw [if_pos h]
    exact c_jobFires_bad hG j t hs h
  · rw [if_neg h]
    obtain ⟨B, rfl⟩ := Int.eq_ofNat_of_zero_le (a := b) (by omega)
    have hc := c_jobFires_raw hG j t hs (a := a) (m := m) (B := B) (Decidable.byContradiction fun e => h (.inl e)) (by omega) (by omega) hm
    have hf := ACalls.freeze (X := fun xs => xs = ((firesJ j a B m).map fun n : Nat => (n : Int)).map i64) (fun xs hx x hm => by subst hx; obtain ⟨z, _, rfl⟩ := List.mem_map.1 hm; rfl) hc
    exact ACalls.weaken (ACalls.mono hf fun v K ⟨xs, e1, e2, e3⟩ => ⟨_, H, by rw [e2, e1]; exact wk_refl _, e3.wk, rfl, rfl⟩)
set_option maxHeartbeats 4000000 in
theorem c_refFires (j : Jb) (t : Rg.Tok) (hs : j.ex.length ≤ 1000000) {a b m : Int} (hm : m ≤ 1000000) :
    AOk Tryz.prog 37 [jbAV j t, i64 a, i64 b, i64 m] H (.sl (((firesB j a b m).map fun n : Nat => (n : Int)).map i64) .no) H := by
  refine ACalls.into Tryz.func37 rfl Tryz.ntmps37 Tryz.results37 (by simp) ?_
  simp -implicitDefEqProofs
  refine AAlloc.intro fun b1 h1 => ?_
  simp -implicitDefEqProofs
  generalize hK : Heap.set _ b1 _ = K1
  have k1 : K1 b1 = some (.cells (jbC j t) 53) := by rw [← hK]; simp [Heap.set]
  have kW : HWk H K1 := by rw [← hK]; exact HWk.new h1 (HWk.refl _)
  clear hK
  refine ACall.eq (c_ref14May j t hs) ?_
  by_cases hj : mayJ j = 0
  · by_cases hb1 : b < 0
    · have e : firesB j a b m = [] := by unfold firesB; rw [if_pos (.inr (.inl hb1))]
      rw [e]
      simp -implicitDefEqProofs [hj, i64, hb1]
      exact kW
    · by_cases hb2 : 13569465600 ≤ b
      · have e : firesB j a b m = [] := by unfold firesB; rw [if_pos (.inr (.inr (.inl hb2)))]
        rw [e]
        simp -implicitDefEqProofs [hj, i64, hb1, hb2]
        exact kW
      · by_cases ha : a < -1
        · have e : firesB j a b m = [] := by unfold firesB; rw [if_pos (.inr (.inr (.inr ha)))]
          rw [e]
          simp -implicitDefEqProofs [hj, i64, hb1, hb2, ha]
          exact kW
        · by_cases hm1 : m < 1
          · have e : firesB j a b m = [] := List.length_eq_zero_iff.1 (by have := firesB_len j a b m; omega)
            rw [e]
            simp -implicitDefEqProofs [hj, i64, hb1, hb2, ha, hm1]
            exact kW
          · have hc := may_cron hj
            have hmx := cronK_may hc
            have hxo := cronK_lt j.ex
            have e : firesB j a b m = firesJ j a b m := by unfold firesB; rw [if_neg (by simp [hj]; omega)]
            rw [e]
            unfold firesJ
            simp -implicitDefEqProofs [hj, i64, hb1, hb2, ha, hm1, k1]
            refine ACall.eq (c_ref7Parse j.ex hs) ?_
            rw [hc]
            generalize (cronK j.ex).1 = x at *
            simp -implicitDefEqProofs
            refine AAlloc.intro fun b3 h3 => ?_
            simp -implicitDefEqProofs
            generalize hK : Heap.set K1 b3 _ = K2
            have k23 : K2 b3 = some (.cells (exC x) 37) := by rw [← hK]; simp [Heap.set]
            have kW : HWk H K2 := by rw [← hK]; exact HWk.new (kW.none h3) kW
            clear hK
            obtain ⟨F, hF⟩ : ∃ F, newest m.toNat (firesL x a b) = F := ⟨_, rfl⟩
            rw [hF]
            refine AGo.rounds (fun μ ρ K => ∃ (T : Int) (out : List Nat) (tk : Rg.Tok), μ = (T + 1).toNat ∧ -1 ≤ T ∧ T < 13569465600 ∧ F = newest (m.toNat - out.length) (firesL x a T) ++ out ∧ (out.length ≤ m.toNat) ∧ ρ 1 = .sc (.int .i64 a) ∧ ρ 3 = .sc (.int .i64 m) ∧
              ρ 9 = .sc (.pointer (some ⟨b3, 0, none⟩)) ∧ ρ 11 = .sl ((out.map fun n : Nat => (n : Int)).map i64) tk ∧ ρ 12 = .sc (.int .i64 T) ∧ K = K2) ?_ (m := (b + 1).toNat) (HLe.refl _)
              ⟨b, [], .nil, rfl, by omega, by omega, by simp [hF], by simp, by simp, by simp, by simp, by simp, by simp, rfl⟩
            rintro μ ρ K ih ⟨T, out, tk, rfl, hT0, hT, hFT, hol, r1, r3, r9, r11, r12, rfl⟩
            have hfin : ∀ out : List Nat, F = out → out.map (i64 ∘ fun n : Nat => (n : Int)) = F.map (i64 ∘ fun n : Nat => (n : Int)) := fun out h => by rw [h]
            by_cases hT1 : 0 ≤ T
            · by_cases hlt : (out.length : Int) < m
              · obtain ⟨q, rfl⟩ := Int.eq_ofNat_of_zero_le hT1
                obtain ⟨r, hr⟩ := last_ex x q
                simp -implicitDefEqProofs [r3, r9, r11, r12, hlt, k23]
                refine ACall.eq (c_ref8Last hxo hmx (by omega) hr) ?_
                rcases r with _ | n
                · rw [fires_nil_last hr (fun n h => by cases h), newest_nil, List.nil_append] at hFT
                  simp -implicitDefEqProofs [outAV, optN, errN, r11, hFT]
                  exact kW
                · by_cases hna : (n : Int) ≤ a
                  · rw [fires_nil_last hr (fun n' h => by cases h; exact hna), newest_nil, List.nil_append] at hFT
                    simp -implicitDefEqProofs [outAV, optN, errN, r1, r11, hna, hFT]
                    exact kW
                  · have hn := hr.1
                    rw [fires_last (by omega) (by omega) hr, show m.toNat - out.length = (m.toNat - (out.length + 1)) + 1 by omega, newest_snoc] at hFT
                    have hw : IntKind.i64.wrap ((n : Int) - 1) = (n : Int) - 1 := wrap_i64 (by omega) (by omega)
                    simp -implicitDefEqProofs [outAV, optN, errN, r1, r11, hna]
                    refine AApp.no el_56 (by simp) (by simp [szs]) (by simp [szs, i64]) (by simp; omega) (by simp [maxLen]; omega) ?_
                    simp -implicitDefEqProofs [hw]
                    refine AGo.again ih (m' := n) (by omega) (HLe.refl _) ?_
                    refine ⟨(n : Int) - 1, n :: out, .no, by omega, by omega, by omega, ?_, by simp; omega, by simp [r1], by simp [r3], by simp [r9], by simp [i64], by simp, rfl⟩
                    rw [hFT]
                    simp
              · have e : m.toNat - out.length = 0 := by omega
                rw [e, newest_zero, List.nil_append] at hFT
                simp -implicitDefEqProofs [r3, r11, r12, hT1, hlt, hFT]
                exact kW
            · rw [fires_none (fun k _ h => by omega), newest_nil, List.nil_append] at hFT
              simp -implicitDefEqProofs [r11, r12, hT1, hFT]
              exact kW
  · have e : firesB j a b m = [] := by unfold firesB; rw [if_pos (.inl hj)]
    rw [e]
    simp -implicitDefEqProofs [hj]
    exact kW
end Go.Proofs.YtdpgnbinekcgdaaGreatDoor
