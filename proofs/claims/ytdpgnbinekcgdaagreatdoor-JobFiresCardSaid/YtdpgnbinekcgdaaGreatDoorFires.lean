/- A job's firings: the program's walk and the document's. -/
import Derived.Test.YtdpgnbinekcgdaaGreatDoorJob
import Derived.Test.YtdpgnbinekcgdaaGreatDoorMom
import Derived.Test.YtdpgnbinekcgdaaGreatDoorMay
namespace Go.Proofs.YtdpgnbinekcgdaaGreatDoor
open Rg Go

variable {H : Heap}

abbrev nat64 (n : Nat) : AV := i64 (n : Int)
/-- The newest firings of a job within a time. -/
def firesJ (j : Jb) (a b : Int) (m : Int) : List Nat := newest m.toNat (firesL (cronK j.ex).1 a b)
def badF (j : Jb) (a b : Int) : Prop := mayJ j ≠ 0 ∨ b < 0 ∨ 13569465600 ≤ b ∨ a < -1
theorem may_cron {j : Jb} (h : mayJ j = 0) : (cronK j.ex).2 = 0 := by
  unfold mayJ at h
  by_cases h1 : j.name.length < 1
  · simp only [if_pos h1] at h; exact absurd h (by decide)
  · by_cases h2 : 32 < j.name.length
    · simp only [if_neg h1, if_pos h2] at h; exact absurd h (by decide)
    · by_cases h3 : (cronK j.ex).2 = 0
      · exact h3
      · simp only [if_neg h1, if_neg h2] at h
        rw [if_pos h3] at h
        exact absurd h h3
set_option maxHeartbeats 2000000 in
theorem c_jobFires_bad (hG : Glob H) (j : Jb) (t : Rg.Tok) (hs : j.ex.length ≤ 1000000) {a b m : Int} (h : badF j a b) :
    AOk Tryz.prog 36 [jbAV j t, i64 a, i64 b, i64 m] H (.sl [] .no) H := by
  refine ACalls.into Tryz.func36 rfl Tryz.ntmps36 Tryz.results36 (by simp) ?_
  simp -implicitDefEqProofs
  refine AAlloc.intro fun b1 h1 => ?_
  simp -implicitDefEqProofs
  generalize hK : Heap.set _ b1 _ = K1
  have k1 : K1 b1 = some (.cells (jbC j t) 53) := by rw [← hK]; simp [Heap.set]
  have kG : Glob K1 := by rw [← hK]; exact hG.new h1
  have kW : HWk H K1 := by rw [← hK]; exact HWk.new h1 (HWk.refl _)
  clear hK
  have hm := fun K (hG : Glob K) => c_jobMay hG j t (by omega)
  have hmc := fun h => may_cron (j := j) h
  refine ACall.eq (c_cronParse kG j.ex (by omega)) ?_
  generalize cronK j.ex = p at *
  obtain ⟨x, e⟩ := p
  simp only at hmc ⊢
  simp -implicitDefEqProofs
  refine AAlloc.intro fun b3 h3 => ?_
  have n13 : b1 ≠ b3 := by intro e; subst e; rw [k1] at h3; cases h3
  have kG3 : ∀ o, Glob (K1.set b3 o) := fun o => kG.new h3
  have kW3 : ∀ o, HWk H (K1.set b3 o) := fun o => HWk.new (kW.none h3) kW
  simp -implicitDefEqProofs [i64]
  by_cases hb : b < 0 ∨ 13569465600 ≤ b
  · refine ACall.eq (c_floor_bad hb) ?_
    by_cases he : e = 0
    · simp -implicitDefEqProofs [he]
      exact kW3 _
    · simp -implicitDefEqProofs [he]
      exact kW3 _
  · obtain ⟨B, rfl⟩ := Int.eq_ofNat_of_zero_le (a := b) (by omega)
    refine ACall.eq (c_floor (by omega)) ?_
    by_cases he : e = 0
    · by_cases hj : mayJ j = 0
      · have ha : a < -1 := by
          rcases h with h | h | h | h
          · exact absurd hj h
          all_goals omega
        simp -implicitDefEqProofs [he, n13, k1]
        refine ACall.eq (hm _ (by apply kG3)) ?_
        simp -implicitDefEqProofs [hj, ha]
        exact kW3 _
      · simp -implicitDefEqProofs [he, n13, k1]
        refine ACall.eq (hm _ (by apply kG3)) ?_
        simp -implicitDefEqProofs [hj]
        exact kW3 _
    · simp -implicitDefEqProofs [he]
      exact kW3 _

theorem nats_rev (F : List Nat) : (F.reverse.map fun n : Nat => (n : Int)).reverse = F.map fun n : Nat => (n : Int) := by rw [← List.map_reverse, List.reverse_reverse]
set_option maxHeartbeats 4000000 in
theorem c_jobFires_raw (hG : Glob H) (j : Jb) (t : Rg.Tok) (hs : j.ex.length ≤ 1000000) {a m : Int} {B : Nat} (h0 : mayJ j = 0) (hB : B < 13569465600) (ha : -1 ≤ a) (hm : m ≤ 1000000) :
    ACalls Tryz.prog 36 [jbAV j t, i64 a, i64 (B : Int), i64 m] H (fun v K => ∃ xs, xs = ((firesJ j a B m).map fun n : Nat => (n : Int)).map i64 ∧ RawRow H 2 xs v K) := by
  have hc := may_cron h0
  have hmx := cronK_may hc
  have hxo := cronK_lt j.ex
  unfold firesJ
  refine ACalls.into Tryz.func36 rfl Tryz.ntmps36 Tryz.results36 (by simp) ?_
  simp -implicitDefEqProofs
  refine AAlloc.intro fun b1 h1 => ?_
  simp -implicitDefEqProofs
  generalize hK : Heap.set _ b1 _ = K1
  have k1 : K1 b1 = some (.cells (jbC j t) 53) := by rw [← hK]; simp [Heap.set]
  have kG : Glob K1 := by rw [← hK]; exact hG.new h1
  have kW : HLe H K1 := by rw [← hK]; exact HLe.set_fresh h1
  clear hK
  have hjm := fun K (hG : Glob K) => c_jobMay hG j t (by omega)
  rw [h0] at hjm
  refine ACall.eq (c_cronParse kG j.ex (by omega)) ?_
  rw [hc]
  generalize (cronK j.ex).1 = x at *
  simp -implicitDefEqProofs
  refine AAlloc.intro fun b3 h3 => ?_
  have n13 : b1 ≠ b3 := by intro e; subst e; rw [k1] at h3; cases h3
  simp -implicitDefEqProofs [i64]
  generalize hK : Heap.set K1 b3 _ = K2
  have kG3 : Glob K2 := by rw [← hK]; exact kG.new h3
  have kW3 : HLe H K2 := by rw [← hK]; exact kW.trans (HLe.set_fresh h3)
  have k21 : K2 b1 = some (.cells (jbC j t) 53) := by rw [← hK]; simp [Heap.set, n13, k1]
  have k23 : K2 b3 = some (.cells (exC x) 37) := by rw [← hK]; simp [Heap.set]
  clear hK
  refine ACall.eq (c_floor hB) ?_
  simp -implicitDefEqProofs [k21]
  refine ACall.eq (hjm _ kG3) ?_
  have ha' : ¬ a < -1 := by omega
  simp -implicitDefEqProofs [ha']
  obtain ⟨F, hF⟩ : ∃ F, newest m.toNat (firesL x a (B : Int)) = F := ⟨_, rfl⟩
  rw [hF]
  have hFl : F.length ≤ m.toNat := by rw [← hF]; exact newest_len _ _
  refine AGo.roundsB 13 (fun μ ρ K => ∃ (T : Nat) (xs : List Nat) (A : Option Addr) (cap : Nat), μ = T + 1 ∧ T < 13569465600 ∧ F = newest (m.toNat - xs.length) (firesL x a (T : Int)) ++ xs.reverse ∧ (xs.length ≤ m.toNat) ∧
    ρ 1 = .sc (.int .i64 a) ∧ ρ 3 = .sc (.int .i64 m) ∧ ρ 9 = .sc (.pointer (some ⟨b3, 0, none⟩)) ∧ ρ 13 = .sc (.slice A xs.length cap) ∧ ρ 14 = .sc (.int .i64 T) ∧ RawRow K2 2 ((xs.map fun n : Nat => (n : Int)).map i64) (.sc (.slice A xs.length cap)) K) ?_ (m := B + 1) (by simp)
    ⟨B, [], none, 0, rfl, hB, by simp [hF], by simp, by simp, by simp, by simp, by simp, by simp, RawRow.none⟩
  rintro μ ρ K ih ⟨T, xs, A, cap, rfl, hT, hFT, hxl, r1, r3, r9, r13, r14, hR⟩
  have k3 : K b3 = some (.cells (exC x) 37) := hR.1 _ _ k23
  have hend : ∀ (ys : List Nat) (A : Option Addr) (l cap : Nat), F = ys.reverse → ∀ K', RawRow K2 2 ((ys.map fun n : Nat => (n : Int)).reverse.map i64) (.sc (.slice A l cap)) K' → AFin (fun v K => RawRow H 2 (F.map (i64 ∘ fun n : Nat => (n : Int))) v K) (.sc (.slice A l cap)) K' := fun ys A l cap e K' h => by
    refine ⟨_, _, wk_refl _, HWk.refl _, ?_⟩
    rw [e]
    rw [← List.map_reverse, List.map_map] at h
    exact h.le kW3
  have hrv := fun (ys : List Nat) (A : Option Addr) (l cap : Nat) (hy : ys.length ≤ 1000000) K' h => c_reverseR (H := K') (H0 := K2) (L := ys.map fun n : Nat => (n : Int)) (v := .sc (.slice A l cap)) h (by simpa using hy)
  by_cases hlt : (xs.length : Int) < m
  · simp -implicitDefEqProofs [r3, r9, r13, r14, hlt, k3]
    obtain ⟨r, hr⟩ := last_ex x T
    refine ACall.eq (c_last hxo hmx hT hr) ?_
    rcases r with _ | n
    · rw [fires_nil_last hr (fun n h => by cases h), newest_nil, List.nil_append] at hFT
      simp -implicitDefEqProofs [outAV, optN, errN, r13]
      refine ACall.intro (hrv _ _ _ _ (by omega) _ hR) fun v' K' hR' => ?_
      simp -implicitDefEqProofs [r13]
      exact hend _ _ _ _ hFT _ hR'
    · by_cases hna : (n : Int) ≤ a
      · rw [fires_nil_last hr (fun n' h => by cases h; exact hna), newest_nil, List.nil_append] at hFT
        simp -implicitDefEqProofs [outAV, optN, errN, r1, r13, hna]
        refine ACall.intro (hrv _ _ _ _ (by omega) _ hR) fun v' K' hR' => ?_
        simp -implicitDefEqProofs [r13]
        exact hend _ _ _ _ hFT _ hR'
      · have hn := hr.1
        rw [fires_last ha (by omega) hr, show m.toNat - xs.length = (m.toNat - (xs.length + 1)) + 1 by omega, newest_snoc] at hFT
        simp -implicitDefEqProofs [outAV, optN, errN, r1, r13, hna]
        refine ACall.intro (app_raw (e := 2) el_56 (fun z hz q hq => by simp at hz; subst hz; simp at hq; subst hq; rfl) hR rfl (by simp; omega) (by simp [maxLen]; omega)) fun v' K' hR' => ?_
        have ex : ((xs.map fun n : Nat => (n : Int)).map i64) ++ [i64 (n : Int)] = (((xs ++ [n]).map fun n : Nat => (n : Int)).map i64) := by simp
        change RawRow K2 _ (((xs.map fun n : Nat => (n : Int)).map i64) ++ [i64 (n : Int)]) v' K' at hR'
        rw [ex] at hR'
        obtain ⟨A', cap', hv'⟩ := hR'.form
        simp only [List.length_map, List.length_append, List.length_singleton] at hv'
        subst hv'
        by_cases hn0 : n = 0
        · subst hn0
          rw [show ((0 : Nat) : Int) - 1 = -1 from rfl, fires_none (b := -1) (fun k _ h => by omega), newest_nil, List.nil_append] at hFT
          simp -implicitDefEqProofs
          refine ACall.intro (hrv (xs ++ [0]) _ _ _ (by simp; omega) _ hR') fun v2 K2 hR2 => ?_
          simp -implicitDefEqProofs
          exact hend (xs ++ [0]) _ _ _ (by rw [hFT]; simp) _ hR2
        · have hn0' : ¬ (n : Int) = 0 := by omega
          obtain ⟨q, hq⟩ : ∃ q, n = q + 1 := ⟨n - 1, by omega⟩
          have hw : IntKind.i64.wrap ((n : Int) - 1) = (q : Int) := wsub (b := 1) (by omega) (by omega) (by omega)
          simp -implicitDefEqProofs [hn0, hw]
          refine AGo.again ih (m' := q + 1) (by omega) (HLe.refl _) ?_
          refine ⟨q, xs ++ [n], A', cap', rfl, by omega, ?_, by simp; omega, by simp [r1], by simp [r3], by simp [r9], by simp, by simp, by simpa using hR'⟩
          rw [hFT, show (n : Int) - 1 = (q : Int) by omega]
          simp
  · have e : m.toNat - xs.length = 0 := by omega
    rw [e, newest_zero, List.nil_append] at hFT
    simp -implicitDefEqProofs [r3, r13, hlt]
    refine ACall.intro (hrv _ _ _ _ (by omega) _ hR) fun v' K' hR' => ?_
    simp -implicitDefEqProofs [r13]
    exact hend _ _ _ _ hFT _ hR'
end Go.Proofs.YtdpgnbinekcgdaaGreatDoor
