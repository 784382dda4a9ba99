/- slices.Sort at numbers of 64 bits: pdqsort. slices.Sort at numbers of 64 bits, below fifty. The entry at which a range over a map stands. -/
import Derived.Test.YtlhgpodfhdddkaaGreatDoorP21
import Derived.Test.YtlhgpodfhdddkaaGreatDoorP10
set_option linter.unusedSimpArgs false
set_option linter.unusedVariables false
set_option linter.unnecessarySimpa false
namespace Go.Proofs.YtlhgpodfhdddkaaGreatDoor
open Rg Go Go.RowKit
def PdqR (T : TypeId) (rest : List AV) (b a j : Nat) (d : Array Nat) (H : Heap) (v : AV) (K : Heap) : Prop := v = .tup [] ∧ ∃ d', Srt a j d d' ∧ HLe (H.set b (rowC T d' rest)) K
set_option maxHeartbeats 8000000 in
theorem c_pdq {b n cap : Nat} {T : TypeId} {rest : List AV} (hl : n ≤ 1000000) : ∀ (M : Nat) (H : Heap) (d : Array Nat) (a j limit : Nat), j - a ≤ M → a ≤ j → j ≤ n → j < a + 50 → d.size = n → limit ≤ 1000 → Go.Sort.Below ltN a j d → H b = some (rowC T d rest) →
    ACalls Tryz.prog 75 [slV b n cap, zI a, zI j, zI limit] H (PdqR T rest b a j d H) := by
  intro M
  induction M using Nat.strongRecOn with
  | ind M IH =>
  intro H d a j limit hM haj hj hj50 hdn hlim hB h
  generalize hR : PdqR T rest b a j d H = R
  refine ACalls.into Tryz.func75 rfl Tryz.ntmps75 Tryz.results75 (by simp) ?_
  simp -implicitDefEqProofs
  refine AGo.rounds (fun μ ρ K => ∃ (x y lim : Nat) (wb wp : Bool) (e : Array Nat), μ = y - x ∧ a ≤ x ∧ x ≤ y ∧ y ≤ j ∧ e.size = n ∧ lim ≤ 1000 ∧ Go.Sort.Below ltN x y e ∧ (∀ e2, Srt x y e e2 → Srt a j d e2) ∧
    ρ 0 = slV b n cap ∧ ρ 1 = zI x ∧ ρ 2 = zI y ∧ ρ 3 = zI lim ∧ ρ 8 = .sc (.bool wb) ∧ ρ 9 = .sc (.bool wp) ∧ K b = some (rowC T e rest) ∧ HLe (H.set b (rowC T e rest)) K) ?_ (m := j - a) (HLe.refl H)
    ⟨a, j, limit, true, true, d, rfl, by omega, haj, by omega, hdn, hlim, hB, fun _ h => h, by simp, by simp, by simp, by simp, by simp, by simp, h, by rw [set_same h]; exact HLe.refl _⟩
  rintro μ ρ K ih ⟨x, y, lim, wb, wp, e, rfl, hax, hxy, hyj, hen, hlm, hBe, hcont, r0, r1, r2, r3, r8, r9, kb, kl⟩
  have done : ∀ (e2 : Array Nat), Srt x y e e2 → AFin R (.tup []) (K.set b (rowC T e2 rest)) := fun e2 h2 => by
    subst hR
    refine AFin.intro _ _ (wk_refl _) (HWk.refl _) ⟨rfl, e2, hcont _ h2, ?_⟩
    have := kl.set_mono (b := b) (o := rowC T e2 rest)
    rwa [Heap.set_set] at this
  obtain ⟨l, hll⟩ : ∃ l, y - x = l := ⟨_, rfl⟩
  have y1 : IntKind.i64.wrap ((y : Int) - (x : Int)) = (l : Int) := by rw [wrap_i64 (by omega) (by omega)]; omega
  by_cases h12 : l ≤ 12
  · have h12' : (l : Int) ≤ 12 := by omega
    simp -implicitDefEqProofs [r0, r1, r2, r3, r8, r9, y1, h12, h12']
    refine ACall.eq (c_ins hen x y hxy (by omega) hl kb) ?_
    simp -implicitDefEqProofs
    exact done _ (srt_ins e x y hxy (by omega))
  have h12' : ¬ (l : Int) ≤ 12 := by omega
  by_cases hl0 : lim = 0
  · have hl0' : (lim : Int) = 0 := by omega
    simp -implicitDefEqProofs [r0, r1, r2, r3, r8, r9, y1, h12, h12', hl0, hl0']
    refine ACall.eq (c_heap hen x y (by omega) (by omega) hl kb) ?_
    simp -implicitDefEqProofs
    exact done _ (srt_heap e x y hxy (by omega))
  have hl0' : ¬ (lim : Int) = 0 := by omega
  clear done
  simp -implicitDefEqProofs [r0, r1, r2, r3, r8, r9, y1, h12, h12', hl0, hl0']
  refine ABr.join (fun ρ' K' => ∃ (e1 : Array Nat) (lim1 : Nat), Go.Sort.PermIn x y e e1 ∧ lim1 ≤ 1000 ∧ ρ' 0 = slV b n cap ∧ ρ' 1 = zI x ∧ ρ' 2 = zI y ∧ ρ' 3 = zI lim1 ∧ ρ' 8 = .sc (.bool wb) ∧ ρ' 9 = .sc (.bool wp) ∧ ρ' 10 = zI l ∧ K' b = some (rowC T e1 rest) ∧ HLe (H.set b (rowC T e1 rest)) K') (fun k' hk' => ?_) ?_
  · cases wb with
    | true =>
      simp -implicitDefEqProofs
      exact hk' _ _ ⟨e, lim, Go.Sort.permIn_refl _ _ _, hlm, by simp [r0], by simp [r1], by simp [r2], by simp [r3], by simp [r8], by simp [r9], by simp, kb, kl⟩
    | false =>
      have w1 : IntKind.i64.wrap ((lim : Int) - 1) = ((lim - 1 : Nat) : Int) := by rw [wrap_i64 (by omega) (by omega)]; omega
      simp -implicitDefEqProofs [r0, r1, r2]
      refine ACall.intro (c_break hen x y (by omega) (by omega) (by omega) hl kb) fun v K1 hv => ?_
      obtain ⟨rfl, e1, hP, kl1⟩ := hv
      have kl2 : HLe (H.set b (rowC T e1 rest)) K1 := by
        have := kl.set_mono (b := b) (o := rowC T e1 rest)
        rw [Heap.set_set] at this
        exact this.trans kl1
      simp -implicitDefEqProofs [r3, w1]
      exact hk' _ _ ⟨e1, lim - 1, hP, by omega, by simp [r0], by simp [r1], by simp [r2], by simp, by simp [r8], by simp [r9], by simp, kl1 _ _ (by simp [Heap.set]), kl2⟩
  clear r0 r1 r2 r3 r8 r9 kb kl hl0 hl0'
  rintro ρ1 K1 ⟨e1, lim1, hP1, hlm1, r0, r1, r2, r3, r8, r9, r10, kb, kl⟩
  have he1 : e1.size = n := by rw [hP1.1]; exact hen
  have hB1 := below_perm (by omega) hBe hP1
  replace hcont : ∀ e2, Srt x y e1 e2 → Srt a j d e2 := fun e2 h2 => hcont e2 (Srt.pre hP1 h2)
  clear hP1 hBe hen e
  simp -implicitDefEqProofs [r0, r1, r2]
  refine ACall.intro (c_pivot he1 x y (by omega) (by omega) (by omega) hl kb) fun v K2 hv => ?_
  obtain ⟨p, hint, rfl, hp1, hp2, hhint, le2⟩ := hv
  replace kl := kl.trans le2
  replace kb := le2 _ _ kb
  clear le2 K1
  have hh2 : ¬ hint = 2 := by omega
  have hh2' : ¬ (hint : Int) = 2 := by omega
  have split : (wb = true ∧ wp = true ∧ hint = 1) ∨ wb = false ∨ (wb = true ∧ wp = false) ∨ (wb = true ∧ wp = true ∧ ¬ hint = 1) := by
    cases wb <;> cases wp <;> simp
    omega
  rcases split with ⟨rfl, rfl, rfl⟩ | rfl | ⟨rfl, rfl⟩ | ⟨rfl, rfl, hh1⟩
  · simp -implicitDefEqProofs [r8, r9, hh2, hh2', r0, r1, r2]
    refine ACall.eq (c_partial he1 x y (by omega) (by omega) (by omega) hl kb) ?_
    by_cases hs : Go.Sort.scanSorted ltN e1 y (x + 1) = y
    · simp -implicitDefEqProofs [hs]
      subst hR
      exact AFin.intro _ _ (wk_refl _) (HWk.refl _) ⟨rfl, e1, hcont _ (srt_scan (by omega) (by omega) hB1 hs), kl⟩
    · simp -implicitDefEqProofs [hs]
      refine atRho fun ρ3 hρ3 => ?_
      have t0 : ρ3 0 = slV b n cap := by rw [hρ3]; simp [r0]
      have t1 : ρ3 1 = zI x := by rw [hρ3]; simp [r1]
      have t2 : ρ3 2 = zI y := by rw [hρ3]; simp [r2]
      have t3 : ρ3 3 = zI lim1 := by rw [hρ3]; simp [r3]
      have t8 : ∃ q : Bool, ρ3 8 = .sc (.bool q) := by rw [hρ3]; simp [r8]
      have t9 : ∃ q : Bool, ρ3 9 = .sc (.bool q) := by rw [hρ3]; simp [r9]
      have t10 : ρ3 10 = zI l := by rw [hρ3]; simp [r10]
      have t11 : ρ3 11 = zI p := by rw [hρ3]; simp
      clear hρ3 r0 r1 r2 r3 r8 r9 r10
      obtain ⟨wb2, t8⟩ := t8
      obtain ⟨wp2, t9⟩ := t9
      have np : p < n := by omega
      have zp : p < e1.size := by omega
      have gp := row_get (rest := rest) zp
      obtain ⟨xp, hxp⟩ : ∃ v, e1[p]! = v := ⟨_, rfl⟩
      rw [hxp] at gp
      by_cases hx0 : 0 < x
      · have hx0' : (0 : Int) < (x : Int) := by omega
        obtain ⟨z, hz⟩ : ∃ z, x - 1 = z := ⟨_, rfl⟩
        have wz : IntKind.i64.wrap ((x : Int) - 1) = (z : Int) := by rw [wrap_i64 (by omega) (by omega)]; omega
        have nz : z < n := by omega
        have zz : z < e1.size := by omega
        have gz := row_get (rest := rest) zz
        obtain ⟨xz, hxz⟩ : ∃ v, e1[z]! = v := ⟨_, rfl⟩
        rw [hxz] at gz
        refine go_draw 15 f_mixed (by decide +kernel) ?_
        simp -implicitDefEqProofs [t0, t1, t11, hx0, hx0', wz, kb, rd_row, gz, gp, nz, np]
        refine AQS.eq (c_less _ _) ?_
        cases hb : ltN xz xp with
        | false =>
          have hlow : ∀ i, x ≤ i → i < y → ltN e1[i]! e1[p]! = false := fun i a1 a2 => by
            rcases hB1 with h0 | h0
            · omega
            · have := h0 i a1 a2
              rw [hz, hxz] at this
              rw [hxp]
              exact swoN.ntrans _ _ _ this hb
          have hpt := Go.Sort.partitionEqual_holds ltN swoN e1 x y p hp1 hp2 (by omega) hlow
          have hcp := c_partEq he1 x y p (by omega) (by omega) hp1 hp2 hl (cap := cap) kb
          obtain ⟨Q, hQ⟩ : ∃ Q, Go.Sort.partitionEqual ltN e1 x y p = Q := ⟨_, rfl⟩
          rw [hQ] at hpt hcp
          obtain ⟨mid, e4⟩ := Q
          simp only at hpt hcp
          obtain ⟨hm1, hm2, hP4, hle, hgt⟩ := hpt
          have h4n : e4.size = n := by rw [hP4.1]; exact he1
          have kl4 := kl.set_mono (b := b) (o := rowC T e4 rest)
          rw [Heap.set_set] at kl4
          rw [hxp] at hle hgt hlow
          simp -implicitDefEqProofs [t0, t1, t2, t11]
          refine ACall.eq hcp ?_
          simp -implicitDefEqProofs
          exact AGo.again ih (m' := y - mid) (by omega) (HLe.refl _) ⟨mid, y, lim1, wb2, wp2, e4, rfl, by omega, by omega, hyj, h4n, hlm1,
            .inr fun i a1 a2 => (by have q1 := hgt i a1 a2; have q2 := hle (mid - 1) (by omega) (by omega); simp at q1 q2 ⊢; omega),
            fun e5 h5 => hcont e5 (srt_eq (w := xp) (by omega) ⟨hm1, hm2⟩ hP4 (fun i a1 a2 => by simpa using hlow i a1 a2) (fun i a1 a2 => by simpa using hle i a1 a2) (fun i a1 a2 => by simpa using hgt i a1 a2) h5),
            by simp [t0], by simp, by simp [t2], by simp [t3], by simp [t8], by simp [t9], by simp [Heap.set], kl4⟩
        | true =>
          have hpt := Go.Sort.partition_holds ltN swoN e1 x y p hp1 hp2 (by omega)
          have hcp := c_part he1 x y p (by omega) (by omega) hp1 hp2 hl (cap := cap) kb
          obtain ⟨Q, hQ⟩ : ∃ Q, Go.Sort.partition ltN e1 x y p = Q := ⟨_, rfl⟩
          rw [hQ] at hpt hcp
          obtain ⟨mid, al, e4⟩ := Q
          simp only at hpt hcp
          obtain ⟨hm1, hm2, hP4, hlo, hhi⟩ := hpt
          have h4n : e4.size = n := by rw [hP4.1]; exact he1
          have hlo' : ∀ i, x ≤ i → i < mid → e4[i]! < e4[mid]! := fun i a1 a2 => by simpa using hlo i a1 a2
          have hhi' : ∀ i, mid < i → i < y → e4[mid]! ≤ e4[i]! := fun i a1 a2 => by simpa using hhi i a1 a2
          have hB4 := below_perm (by omega) hB1 hP4
          obtain ⟨ml, hml⟩ : ∃ ml, mid - x = ml := ⟨_, rfl⟩
          obtain ⟨mr, hmr⟩ : ∃ mr, y - mid = mr := ⟨_, rfl⟩
          obtain ⟨q8, hq8⟩ : ∃ q8, l / 8 = q8 := ⟨_, rfl⟩
          have z1 : IntKind.i64.wrap ((mid : Int) - (x : Int)) = (ml : Int) := by rw [wrap_i64 (by omega) (by omega)]; omega
          have z2 : IntKind.i64.wrap ((y : Int) - (mid : Int)) = (mr : Int) := by rw [wrap_i64 (by omega) (by omega)]; omega
          have z3 : (l : Int).tdiv 8 = (q8 : Int) := by rw [Int.tdiv_eq_ediv_of_nonneg (by omega)]; omega
          have z4 : IntKind.i64.wrap (q8 : Int) = (q8 : Int) := wrap_i64 (by omega) (by omega)
          have z5 : IntKind.i64.wrap ((mid : Int) + 1) = ((mid + 1 : Nat) : Int) := by rw [wrap_i64 (by omega) (by omega)]; omega
          have kl4 := kl.set_mono (b := b) (o := rowC T e4 rest)
          rw [Heap.set_set] at kl4
          simp -implicitDefEqProofs [t0, t1, t2, t11]
          refine ACall.eq hcp ?_
          by_cases hlr : ml < mr
          · have hlr' : (ml : Int) < (mr : Int) := by omega
            simp -implicitDefEqProofs [t0, t1, t2, t3, t10, z1, z2, z3, z4, hlr, hlr']
            refine ACall.intro (IH (mid - x) (by omega) (K2.set b (rowC T e4 rest)) e4 x mid lim1 (Nat.le_refl _) hm1 (by omega) (by omega) h4n hlm1 (below_sub hB4 (by omega)) (by simp [Heap.set])) fun v K5 hv => ?_
            obtain ⟨rfl, e5, h5, kl5⟩ := hv
            rw [Heap.set_set] at kl5
            have h5n : e5.size = n := by rw [h5.1.1]; exact h4n
            have kl6 := kl.set_mono (b := b) (o := rowC T e5 rest)
            rw [Heap.set_set] at kl6
            have o5 : ∀ i, mid ≤ i → e5[i]! = e4[i]! := fun i h => h5.1.2.1 i (.inr h)
            simp -implicitDefEqProofs [z5]
            exact AGo.again ih (m' := y - (mid + 1)) (by omega) (HLe.refl _) ⟨mid + 1, y, lim1, decide (q8 ≤ ml), al, e5, rfl, by omega, by omega, hyj, h5n, hlm1,
              .inr fun i a1 a2 => by rw [show mid + 1 - 1 = mid by omega, o5 i (by omega), o5 mid (Nat.le_refl _)]; simpa using hhi' i (by omega) a2,
              fun e6 h6 => hcont e6 (srt_left (by omega) ⟨hm1, hm2⟩ hP4 hlo' hhi' h5 h6), by simp [t0], by simp, by simp [t2], by simp [t3], by simp, by simp, kl5 _ _ (by simp [Heap.set]), kl6.trans kl5⟩
          · have hlr' : ¬ (ml : Int) < (mr : Int) := by omega
            simp -implicitDefEqProofs [t0, t1, t2, t3, t10, z1, z2, z3, z4, z5, hlr, hlr']
            refine ACall.intro (IH (y - (mid + 1)) (by omega) (K2.set b (rowC T e4 rest)) e4 (mid + 1) y lim1 (Nat.le_refl _) (by omega) (by omega) (by omega) h4n hlm1
              (.inr fun i a1 a2 => by rw [show mid + 1 - 1 = mid by omega]; simpa using hhi' i (by omega) a2) (by simp [Heap.set])) fun v K5 hv => ?_
            obtain ⟨rfl, e5, h5, kl5⟩ := hv
            rw [Heap.set_set] at kl5
            have h5n : e5.size = n := by rw [h5.1.1]; exact h4n
            have kl6 := kl.set_mono (b := b) (o := rowC T e5 rest)
            rw [Heap.set_set] at kl6
            have o5 : ∀ i, i < mid + 1 → e5[i]! = e4[i]! := fun i h => h5.1.2.1 i (.inl h)
            have hB5 : Go.Sort.Below ltN x mid e5 := by
              rcases hB4 with h0 | h0
              · exact .inl h0
              · exact .inr fun i a1 a2 => by rw [o5 i (by omega), o5 (x - 1) (by omega)]; exact h0 i a1 (by omega)
            simp -implicitDefEqProofs
            exact AGo.again ih (m' := mid - x) (by omega) (HLe.refl _) ⟨x, mid, lim1, decide (q8 ≤ mr), al, e5, rfl, by omega, by omega, by omega, h5n, hlm1, hB5,
              fun e6 h6 => hcont e6 (srt_right (by omega) ⟨hm1, hm2⟩ hP4 hlo' hhi' h5 h6), by simp [t0], by simp [t1], by simp, by simp [t3], by simp, by simp, kl5 _ _ (by simp [Heap.set]), kl6.trans kl5⟩
      · have hx0' : ¬ (0 : Int) < (x : Int) := by omega
        refine go_draw 15 f_mixed (by decide +kernel) ?_
        simp -implicitDefEqProofs [t1, hx0, hx0']
        have hpt := Go.Sort.partition_holds ltN swoN e1 x y p hp1 hp2 (by omega)
        have hcp := c_part he1 x y p (by omega) (by omega) hp1 hp2 hl (cap := cap) kb
        obtain ⟨Q, hQ⟩ : ∃ Q, Go.Sort.partition ltN e1 x y p = Q := ⟨_, rfl⟩
        rw [hQ] at hpt hcp
        obtain ⟨mid, al, e4⟩ := Q
        simp only at hpt hcp
        obtain ⟨hm1, hm2, hP4, hlo, hhi⟩ := hpt
        have h4n : e4.size = n := by rw [hP4.1]; exact he1
        have hlo' : ∀ i, x ≤ i → i < mid → e4[i]! < e4[mid]! := fun i a1 a2 => by simpa using hlo i a1 a2
        have hhi' : ∀ i, mid < i → i < y → e4[mid]! ≤ e4[i]! := fun i a1 a2 => by simpa using hhi i a1 a2
        have hB4 := below_perm (by omega) hB1 hP4
        obtain ⟨ml, hml⟩ : ∃ ml, mid - x = ml := ⟨_, rfl⟩
        obtain ⟨mr, hmr⟩ : ∃ mr, y - mid = mr := ⟨_, rfl⟩
        obtain ⟨q8, hq8⟩ : ∃ q8, l / 8 = q8 := ⟨_, rfl⟩
        have z1 : IntKind.i64.wrap ((mid : Int) - (x : Int)) = (ml : Int) := by rw [wrap_i64 (by omega) (by omega)]; omega
        have z2 : IntKind.i64.wrap ((y : Int) - (mid : Int)) = (mr : Int) := by rw [wrap_i64 (by omega) (by omega)]; omega
        have z3 : (l : Int).tdiv 8 = (q8 : Int) := by rw [Int.tdiv_eq_ediv_of_nonneg (by omega)]; omega
        have z4 : IntKind.i64.wrap (q8 : Int) = (q8 : Int) := wrap_i64 (by omega) (by omega)
        have z5 : IntKind.i64.wrap ((mid : Int) + 1) = ((mid + 1 : Nat) : Int) := by rw [wrap_i64 (by omega) (by omega)]; omega
        have kl4 := kl.set_mono (b := b) (o := rowC T e4 rest)
        rw [Heap.set_set] at kl4
        simp -implicitDefEqProofs [t0, t1, t2, t11]
        refine ACall.eq hcp ?_
        by_cases hlr : ml < mr
        · have hlr' : (ml : Int) < (mr : Int) := by omega
          simp -implicitDefEqProofs [t0, t1, t2, t3, t10, z1, z2, z3, z4, hlr, hlr']
          refine ACall.intro (IH (mid - x) (by omega) (K2.set b (rowC T e4 rest)) e4 x mid lim1 (Nat.le_refl _) hm1 (by omega) (by omega) h4n hlm1 (below_sub hB4 (by omega)) (by simp [Heap.set])) fun v K5 hv => ?_
          obtain ⟨rfl, e5, h5, kl5⟩ := hv
          rw [Heap.set_set] at kl5
          have h5n : e5.size = n := by rw [h5.1.1]; exact h4n
          have kl6 := kl.set_mono (b := b) (o := rowC T e5 rest)
          rw [Heap.set_set] at kl6
          have o5 : ∀ i, mid ≤ i → e5[i]! = e4[i]! := fun i h => h5.1.2.1 i (.inr h)
          simp -implicitDefEqProofs [z5]
          exact AGo.again ih (m' := y - (mid + 1)) (by omega) (HLe.refl _) ⟨mid + 1, y, lim1, decide (q8 ≤ ml), al, e5, rfl, by omega, by omega, hyj, h5n, hlm1,
            .inr fun i a1 a2 => by rw [show mid + 1 - 1 = mid by omega, o5 i (by omega), o5 mid (Nat.le_refl _)]; simpa using hhi' i (by omega) a2,
            fun e6 h6 => hcont e6 (srt_left (by omega) ⟨hm1, hm2⟩ hP4 hlo' hhi' h5 h6), by simp [t0], by simp, by simp [t2], by simp [t3], by simp, by simp, kl5 _ _ (by simp [Heap.set]), kl6.trans kl5⟩
        · have hlr' : ¬ (ml : Int) < (mr : Int) := by omega
          simp -implicitDefEqProofs [t0, t1, t2, t3, t10, z1, z2, z3, z4, z5, hlr, hlr']
          refine ACall.intro (IH (y - (mid + 1)) (by omega) (K2.set b (rowC T e4 rest)) e4 (mid + 1) y lim1 (Nat.le_refl _) (by omega) (by omega) (by omega) h4n hlm1
            (.inr fun i a1 a2 => by rw [show mid + 1 - 1 = mid by omega]; simpa using hhi' i (by omega) a2) (by simp [Heap.set])) fun v K5 hv => ?_
          obtain ⟨rfl, e5, h5, kl5⟩ := hv
          rw [Heap.set_set] at kl5
          have h5n : e5.size = n := by rw [h5.1.1]; exact h4n
          have kl6 := kl.set_mono (b := b) (o := rowC T e5 rest)
          rw [Heap.set_set] at kl6
          have o5 : ∀ i, i < mid + 1 → e5[i]! = e4[i]! := fun i h => h5.1.2.1 i (.inl h)
          have hB5 : Go.Sort.Below ltN x mid e5 := by
            rcases hB4 with h0 | h0
            · exact .inl h0
            · exact .inr fun i a1 a2 => by rw [o5 i (by omega), o5 (x - 1) (by omega)]; exact h0 i a1 (by omega)
          simp -implicitDefEqProofs
          exact AGo.again ih (m' := mid - x) (by omega) (HLe.refl _) ⟨x, mid, lim1, decide (q8 ≤ mr), al, e5, rfl, by omega, by omega, by omega, h5n, hlm1, hB5,
            fun e6 h6 => hcont e6 (srt_right (by omega) ⟨hm1, hm2⟩ hP4 hlo' hhi' h5 h6), by simp [t0], by simp [t1], by simp, by simp [t3], by simp, by simp, kl5 _ _ (by simp [Heap.set]), kl6.trans kl5⟩
  · simp -implicitDefEqProofs [r8, r9, hh2, hh2']
    refine atRho fun ρ3 hρ3 => ?_
    have t0 : ρ3 0 = slV b n cap := by rw [hρ3]; simp [r0]
    have t1 : ρ3 1 = zI x := by rw [hρ3]; simp [r1]
    have t2 : ρ3 2 = zI y := by rw [hρ3]; simp [r2]
    have t3 : ρ3 3 = zI lim1 := by rw [hρ3]; simp [r3]
    have t8 : ∃ q : Bool, ρ3 8 = .sc (.bool q) := by rw [hρ3]; simp [r8]
    have t9 : ∃ q : Bool, ρ3 9 = .sc (.bool q) := by rw [hρ3]; simp [r9]
    have t10 : ρ3 10 = zI l := by rw [hρ3]; simp [r10]
    have t11 : ρ3 11 = zI p := by rw [hρ3]; simp
    clear hρ3 r0 r1 r2 r3 r8 r9 r10
    obtain ⟨wb2, t8⟩ := t8
    obtain ⟨wp2, t9⟩ := t9
    have np : p < n := by omega
    have zp : p < e1.size := by omega
    have gp := row_get (rest := rest) zp
    obtain ⟨xp, hxp⟩ : ∃ v, e1[p]! = v := ⟨_, rfl⟩
    rw [hxp] at gp
    by_cases hx0 : 0 < x
    · have hx0' : (0 : Int) < (x : Int) := by omega
      obtain ⟨z, hz⟩ : ∃ z, x - 1 = z := ⟨_, rfl⟩
      have wz : IntKind.i64.wrap ((x : Int) - 1) = (z : Int) := by rw [wrap_i64 (by omega) (by omega)]; omega
      have nz : z < n := by omega
      have zz : z < e1.size := by omega
      have gz := row_get (rest := rest) zz
      obtain ⟨xz, hxz⟩ : ∃ v, e1[z]! = v := ⟨_, rfl⟩
      rw [hxz] at gz
      refine go_draw 15 f_mixed (by decide +kernel) ?_
      simp -implicitDefEqProofs [t0, t1, t11, hx0, hx0', wz, kb, rd_row, gz, gp, nz, np]
      refine AQS.eq (c_less _ _) ?_
      cases hb : ltN xz xp with
      | false =>
        have hlow : ∀ i, x ≤ i → i < y → ltN e1[i]! e1[p]! = false := fun i a1 a2 => by
          rcases hB1 with h0 | h0
          · omega
          · have := h0 i a1 a2
            rw [hz, hxz] at this
            rw [hxp]
            exact swoN.ntrans _ _ _ this hb
        have hpt := Go.Sort.partitionEqual_holds ltN swoN e1 x y p hp1 hp2 (by omega) hlow
        have hcp := c_partEq he1 x y p (by omega) (by omega) hp1 hp2 hl (cap := cap) kb
        obtain ⟨Q, hQ⟩ : ∃ Q, Go.Sort.partitionEqual ltN e1 x y p = Q := ⟨_, rfl⟩
        rw [hQ] at hpt hcp
        obtain ⟨mid, e4⟩ := Q
        simp only at hpt hcp
        obtain ⟨hm1, hm2, hP4, hle, hgt⟩ := hpt
        have h4n : e4.size = n := by rw [hP4.1]; exact he1
        have kl4 := kl.set_mono (b := b) (o := rowC T e4 rest)
        rw [Heap.set_set] at kl4
        rw [hxp] at hle hgt hlow
        simp -implicitDefEqProofs [t0, t1, t2, t11]
        refine ACall.eq hcp ?_
        simp -implicitDefEqProofs
        exact AGo.again ih (m' := y - mid) (by omega) (HLe.refl _) ⟨mid, y, lim1, wb2, wp2, e4, rfl, by omega, by omega, hyj, h4n, hlm1,
          .inr fun i a1 a2 => (by have q1 := hgt i a1 a2; have q2 := hle (mid - 1) (by omega) (by omega); simp at q1 q2 ⊢; omega),
          fun e5 h5 => hcont e5 (srt_eq (w := xp) (by omega) ⟨hm1, hm2⟩ hP4 (fun i a1 a2 => by simpa using hlow i a1 a2) (fun i a1 a2 => by simpa using hle i a1 a2) (fun i a1 a2 => by simpa using hgt i a1 a2) h5),
          by simp [t0], by simp, by simp [t2], by simp [t3], by simp [t8], by simp [t9], by simp [Heap.set], kl4⟩
      | true =>
        have hpt := Go.Sort.partition_holds ltN swoN e1 x y p hp1 hp2 (by omega)
        have hcp := c_part he1 x y p (by omega) (by omega) hp1 hp2 hl (cap := cap) kb
        obtain ⟨Q, hQ⟩ : ∃ Q, Go.Sort.partition ltN e1 x y p = Q := ⟨_, rfl⟩
        rw [hQ] at hpt hcp
        obtain ⟨mid, al, e4⟩ := Q
        simp only at hpt hcp
        obtain ⟨hm1, hm2, hP4, hlo, hhi⟩ := hpt
        have h4n : e4.size = n := by rw [hP4.1]; exact he1
        have hlo' : ∀ i, x ≤ i → i < mid → e4[i]! < e4[mid]! := fun i a1 a2 => by simpa using hlo i a1 a2
        have hhi' : ∀ i, mid < i → i < y → e4[mid]! ≤ e4[i]! := fun i a1 a2 => by simpa using hhi i a1 a2
        have hB4 := below_perm (by omega) hB1 hP4
        obtain ⟨ml, hml⟩ : ∃ ml, mid - x = ml := ⟨_, rfl⟩
        obtain ⟨mr, hmr⟩ : ∃ mr, y - mid = mr := ⟨_, rfl⟩
        obtain ⟨q8, hq8⟩ : ∃ q8, l / 8 = q8 := ⟨_, rfl⟩
        have z1 : IntKind.i64.wrap ((mid : Int) - (x : Int)) = (ml : Int) := by rw [wrap_i64 (by omega) (by omega)]; omega
        have z2 : IntKind.i64.wrap ((y : Int) - (mid : Int)) = (mr : Int) := by rw [wrap_i64 (by omega) (by omega)]; omega
        have z3 : (l : Int).tdiv 8 = (q8 : Int) := by rw [Int.tdiv_eq_ediv_of_nonneg (by omega)]; omega
        have z4 : IntKind.i64.wrap (q8 : Int) = (q8 : Int) := wrap_i64 (by omega) (by omega)
        have z5 : IntKind.i64.wrap ((mid : Int) + 1) = ((mid + 1 : Nat) : Int) := by rw [wrap_i64 (by omega) (by omega)]; omega
        have kl4 := kl.set_mono (b := b) (o := rowC T e4 rest)
        rw [Heap.set_set] at kl4
        simp -implicitDefEqProofs [t0, t1, t2, t11]
        refine ACall.eq hcp ?_
        by_cases hlr : ml < mr
        · have hlr' : (ml : Int) < (mr : Int) := by omega
          simp -implicitDefEqProofs [t0, t1, t2, t3, t10, z1, z2, z3, z4, hlr, hlr']
          refine ACall.intro (IH (mid - x) (by omega) (K2.set b (rowC T e4 rest)) e4 x mid lim1 (Nat.le_refl _) hm1 (by omega) (by omega) h4n hlm1 (below_sub hB4 (by omega)) (by simp [Heap.set])) fun v K5 hv => ?_
          obtain ⟨rfl, e5, h5, kl5⟩ := hv
          rw [Heap.set_set] at kl5
          have h5n : e5.size = n := by rw [h5.1.1]; exact h4n
          have kl6 := kl.set_mono (b := b) (o := rowC T e5 rest)
          rw [Heap.set_set] at kl6
          have o5 : ∀ i, mid ≤ i → e5[i]! = e4[i]! := fun i h => h5.1.2.1 i (.inr h)
          simp -implicitDefEqProofs [z5]
          exact AGo.again ih (m' := y - (mid + 1)) (by omega) (HLe.refl _) ⟨mid + 1, y, lim1, decide (q8 ≤ ml), al, e5, rfl, by omega, by omega, hyj, h5n, hlm1,
            .inr fun i a1 a2 => by rw [show mid + 1 - 1 = mid by omega, o5 i (by omega), o5 mid (Nat.le_refl _)]; simpa using hhi' i (by omega) a2,
            fun e6 h6 => hcont e6 (srt_left (by omega) ⟨hm1, hm2⟩ hP4 hlo' hhi' h5 h6), by simp [t0], by simp, by simp [t2], by simp [t3], by simp, by simp, kl5 _ _ (by simp [Heap.set]), kl6.trans kl5⟩
        · have hlr' : ¬ (ml : Int) < (mr : Int) := by omega
          simp -implicitDefEqProofs [t0, t1, t2, t3, t10, z1, z2, z3, z4, z5, hlr, hlr']
          refine ACall.intro (IH (y - (mid + 1)) (by omega) (K2.set b (rowC T e4 rest)) e4 (mid + 1) y lim1 (Nat.le_refl _) (by omega) (by omega) (by omega) h4n hlm1
            (.inr fun i a1 a2 => by rw [show mid + 1 - 1 = mid by omega]; simpa using hhi' i (by omega) a2) (by simp [Heap.set])) fun v K5 hv => ?_
          obtain ⟨rfl, e5, h5, kl5⟩ := hv
          rw [Heap.set_set] at kl5
          have h5n : e5.size = n := by rw [h5.1.1]; exact h4n
          have kl6 := kl.set_mono (b := b) (o := rowC T e5 rest)
          rw [Heap.set_set] at kl6
          have o5 : ∀ i, i < mid + 1 → e5[i]! = e4[i]! := fun i h => h5.1.2.1 i (.inl h)
          have hB5 : Go.Sort.Below ltN x mid e5 := by
            rcases hB4 with h0 | h0
            · exact .inl h0
            · exact .inr fun i a1 a2 => by rw [o5 i (by omega), o5 (x - 1) (by omega)]; exact h0 i a1 (by omega)
          simp -implicitDefEqProofs
          exact AGo.again ih (m' := mid - x) (by omega) (HLe.refl _) ⟨x, mid, lim1, decide (q8 ≤ mr), al, e5, rfl, by omega, by omega, by omega, h5n, hlm1, hB5,
            fun e6 h6 => hcont e6 (srt_right (by omega) ⟨hm1, hm2⟩ hP4 hlo' hhi' h5 h6), by simp [t0], by simp [t1], by simp, by simp [t3], by simp, by simp, kl5 _ _ (by simp [Heap.set]), kl6.trans kl5⟩
    · have hx0' : ¬ (0 : Int) < (x : Int) := by omega
      refine go_draw 15 f_mixed (by decide +kernel) ?_
      simp -implicitDefEqProofs [t1, hx0, hx0']
      have hpt := Go.Sort.partition_holds ltN swoN e1 x y p hp1 hp2 (by omega)
      have hcp := c_part he1 x y p (by omega) (by omega) hp1 hp2 hl (cap := cap) kb
      obtain ⟨Q, hQ⟩ : ∃ Q, Go.Sort.partition ltN e1 x y p = Q := ⟨_, rfl⟩
      rw [hQ] at hpt hcp
      obtain ⟨mid, al, e4⟩ := Q
      simp only at hpt hcp
      obtain ⟨hm1, hm2, hP4, hlo, hhi⟩ := hpt
      have h4n : e4.size = n := by rw [hP4.1]; exact he1
      have hlo' : ∀ i, x ≤ i → i < mid → e4[i]! < e4[mid]! := fun i a1 a2 => by simpa using hlo i a1 a2
      have hhi' : ∀ i, mid < i → i < y → e4[mid]! ≤ e4[i]! := fun i a1 a2 => by simpa using hhi i a1 a2
      have hB4 := below_perm (by omega) hB1 hP4
      obtain ⟨ml, hml⟩ : ∃ ml, mid - x = ml := ⟨_, rfl⟩
      obtain ⟨mr, hmr⟩ : ∃ mr, y - mid = mr := ⟨_, rfl⟩
      obtain ⟨q8, hq8⟩ : ∃ q8, l / 8 = q8 := ⟨_, rfl⟩
      have z1 : IntKind.i64.wrap ((mid : Int) - (x : Int)) = (ml : Int) := by rw [wrap_i64 (by omega) (by omega)]; omega
      have z2 : IntKind.i64.wrap ((y : Int) - (mid : Int)) = (mr : Int) := by rw [wrap_i64 (by omega) (by omega)]; omega
      have z3 : (l : Int).tdiv 8 = (q8 : Int) := by rw [Int.tdiv_eq_ediv_of_nonneg (by omega)]; omega
      have z4 : IntKind.i64.wrap (q8 : Int) = (q8 : Int) := wrap_i64 (by omega) (by omega)
      have z5 : IntKind.i64.wrap ((mid : Int) + 1) = ((mid + 1 : Nat) : Int) := by rw [wrap_i64 (by omega) (by omega)]; omega
      have kl4 := kl.set_mono (b := b) (o := rowC T e4 rest)
      rw [Heap.set_set] at kl4
      simp -implicitDefEqProofs [t0, t1, t2, t11]
      refine ACall.eq hcp ?_
      by_cases hlr : ml < mr
      · have hlr' : (ml : Int) < (mr : Int) := by omega
        simp -implicitDefEqProofs [t0, t1, t2, t3, t10, z1, z2, z3, z4, hlr, hlr']
        refine ACall.intro (IH (mid - x) (by omega) (K2.set b (rowC T e4 rest)) e4 x mid lim1 (Nat.le_refl _) hm1 (by omega) (by omega) h4n hlm1 (below_sub hB4 (by omega)) (by simp [Heap.set])) fun v K5 hv => ?_
        obtain ⟨rfl, e5, h5, kl5⟩ := hv
        rw [Heap.set_set] at kl5
        have h5n : e5.size = n := by rw [h5.1.1]; exact h4n
        have kl6 := kl.set_mono (b := b) (o := rowC T e5 rest)
        rw [Heap.set_set] at kl6
        have o5 : ∀ i, mid ≤ i → e5[i]! = e4[i]! := fun i h => h5.1.2.1 i (.inr h)
        simp -implicitDefEqProofs [z5]
        exact AGo.again ih (m' := y - (mid + 1)) (by omega) (HLe.refl _) ⟨mid + 1, y, lim1, decide (q8 ≤ ml), al, e5, rfl, by omega, by omega, hyj, h5n, hlm1,
          .inr fun i a1 a2 => by rw [show mid + 1 - 1 = mid by omega, o5 i (by omega), o5 mid (Nat.le_refl _)]; simpa using hhi' i (by omega) a2,
          fun e6 h6 => hcont e6 (srt_left (by omega) ⟨hm1, hm2⟩ hP4 hlo' hhi' h5 h6), by simp [t0], by simp, by simp [t2], by simp [t3], by simp, by simp, kl5 _ _ (by simp [Heap.set]), kl6.trans kl5⟩
      · have hlr' : ¬ (ml : Int) < (mr : Int) := by omega
        simp -implicitDefEqProofs [t0, t1, t2, t3, t10, z1, z2, z3, z4, z5, hlr, hlr']
        refine ACall.intro (IH (y - (mid + 1)) (by omega) (K2.set b (rowC T e4 rest)) e4 (mid + 1) y lim1 (Nat.le_refl _) (by omega) (by omega) (by omega) h4n hlm1
          (.inr fun i a1 a2 => by rw [show mid + 1 - 1 = mid by omega]; simpa using hhi' i (by omega) a2) (by simp [Heap.set])) fun v K5 hv => ?_
        obtain ⟨rfl, e5, h5, kl5⟩ := hv
        rw [Heap.set_set] at kl5
        have h5n : e5.size = n := by rw [h5.1.1]; exact h4n
        have kl6 := kl.set_mono (b := b) (o := rowC T e5 rest)
        rw [Heap.set_set] at kl6
        have o5 : ∀ i, i < mid + 1 → e5[i]! = e4[i]! := fun i h => h5.1.2.1 i (.inl h)
        have hB5 : Go.Sort.Below ltN x mid e5 := by
          rcases hB4 with h0 | h0
          · exact .inl h0
          · exact .inr fun i a1 a2 => by rw [o5 i (by omega), o5 (x - 1) (by omega)]; exact h0 i a1 (by omega)
        simp -implicitDefEqProofs
        exact AGo.again ih (m' := mid - x) (by omega) (HLe.refl _) ⟨x, mid, lim1, decide (q8 ≤ mr), al, e5, rfl, by omega, by omega, by omega, h5n, hlm1, hB5,
          fun e6 h6 => hcont e6 (srt_right (by omega) ⟨hm1, hm2⟩ hP4 hlo' hhi' h5 h6), by simp [t0], by simp [t1], by simp, by simp [t3], by simp, by simp, kl5 _ _ (by simp [Heap.set]), kl6.trans kl5⟩
  · simp -implicitDefEqProofs [r8, r9, hh2, hh2']
    refine atRho fun ρ3 hρ3 => ?_
    have t0 : ρ3 0 = slV b n cap := by rw [hρ3]; simp [r0]
    have t1 : ρ3 1 = zI x := by rw [hρ3]; simp [r1]
    have t2 : ρ3 2 = zI y := by rw [hρ3]; simp [r2]
    have t3 : ρ3 3 = zI lim1 := by rw [hρ3]; simp [r3]
    have t8 : ∃ q : Bool, ρ3 8 = .sc (.bool q) := by rw [hρ3]; simp [r8]
    have t9 : ∃ q : Bool, ρ3 9 = .sc (.bool q) := by rw [hρ3]; simp [r9]
    have t10 : ρ3 10 = zI l := by rw [hρ3]; simp [r10]
    have t11 : ρ3 11 = zI p := by rw [hρ3]; simp
    clear hρ3 r0 r1 r2 r3 r8 r9 r10
    obtain ⟨wb2, t8⟩ := t8
    obtain ⟨wp2, t9⟩ := t9
    have np : p < n := by omega
    have zp : p < e1.size := by omega
    have gp := row_get (rest := rest) zp
    obtain ⟨xp, hxp⟩ : ∃ v, e1[p]! = v := ⟨_, rfl⟩
    rw [hxp] at gp
    by_cases hx0 : 0 < x
    · have hx0' : (0 : Int) < (x : Int) := by omega
      obtain ⟨z, hz⟩ : ∃ z, x - 1 = z := ⟨_, rfl⟩
      have wz : IntKind.i64.wrap ((x : Int) - 1) = (z : Int) := by rw [wrap_i64 (by omega) (by omega)]; omega
      have nz : z < n := by omega
      have zz : z < e1.size := by omega
      have gz := row_get (rest := rest) zz
      obtain ⟨xz, hxz⟩ : ∃ v, e1[z]! = v := ⟨_, rfl⟩
      rw [hxz] at gz
      refine go_draw 15 f_mixed (by decide +kernel) ?_
      simp -implicitDefEqProofs [t0, t1, t11, hx0, hx0', wz, kb, rd_row, gz, gp, nz, np]
      refine AQS.eq (c_less _ _) ?_
      cases hb : ltN xz xp with
      | false =>
        have hlow : ∀ i, x ≤ i → i < y → ltN e1[i]! e1[p]! = false := fun i a1 a2 => by
          rcases hB1 with h0 | h0
          · omega
          · have := h0 i a1 a2
            rw [hz, hxz] at this
            rw [hxp]
            exact swoN.ntrans _ _ _ this hb
        have hpt := Go.Sort.partitionEqual_holds ltN swoN e1 x y p hp1 hp2 (by omega) hlow
        have hcp := c_partEq he1 x y p (by omega) (by omega) hp1 hp2 hl (cap := cap) kb
        obtain ⟨Q, hQ⟩ : ∃ Q, Go.Sort.partitionEqual ltN e1 x y p = Q := ⟨_, rfl⟩
        rw [hQ] at hpt hcp
        obtain ⟨mid, e4⟩ := Q
        simp only at hpt hcp
        obtain ⟨hm1, hm2, hP4, hle, hgt⟩ := hpt
        have h4n : e4.size = n := by rw [hP4.1]; exact he1
        have kl4 := kl.set_mono (b := b) (o := rowC T e4 rest)
        rw [Heap.set_set] at kl4
        rw [hxp] at hle hgt hlow
        simp -implicitDefEqProofs [t0, t1, t2, t11]
        refine ACall.eq hcp ?_
        simp -implicitDefEqProofs
        exact AGo.again ih (m' := y - mid) (by omega) (HLe.refl _) ⟨mid, y, lim1, wb2, wp2, e4, rfl, by omega, by omega, hyj, h4n, hlm1,
          .inr fun i a1 a2 => (by have q1 := hgt i a1 a2; have q2 := hle (mid - 1) (by omega) (by omega); simp at q1 q2 ⊢; omega),
          fun e5 h5 => hcont e5 (srt_eq (w := xp) (by omega) ⟨hm1, hm2⟩ hP4 (fun i a1 a2 => by simpa using hlow i a1 a2) (fun i a1 a2 => by simpa using hle i a1 a2) (fun i a1 a2 => by simpa using hgt i a1 a2) h5),
          by simp [t0], by simp, by simp [t2], by simp [t3], by simp [t8], by simp [t9], by simp [Heap.set], kl4⟩
      | true =>
        have hpt := Go.Sort.partition_holds ltN swoN e1 x y p hp1 hp2 (by omega)
        have hcp := c_part he1 x y p (by omega) (by omega) hp1 hp2 hl (cap := cap) kb
        obtain ⟨Q, hQ⟩ : ∃ Q, Go.Sort.partition ltN e1 x y p = Q := ⟨_, rfl⟩
        rw [hQ] at hpt hcp
        obtain ⟨mid, al, e4⟩ := Q
        simp only at hpt hcp
        obtain ⟨hm1, hm2, hP4, hlo, hhi⟩ := hpt
        have h4n : e4.size = n := by rw [hP4.1]; exact he1
        have hlo' : ∀ i, x ≤ i → i < mid → e4[i]! < e4[mid]! := fun i a1 a2 => by simpa using hlo i a1 a2
        have hhi' : ∀ i, mid < i → i < y → e4[mid]! ≤ e4[i]! := fun i a1 a2 => by simpa using hhi i a1 a2
        have hB4 := below_perm (by omega) hB1 hP4
        obtain ⟨ml, hml⟩ : ∃ ml, mid - x = ml := ⟨_, rfl⟩
        obtain ⟨mr, hmr⟩ : ∃ mr, y - mid = mr := ⟨_, rfl⟩
        obtain ⟨q8, hq8⟩ : ∃ q8, l / 8 = q8 := ⟨_, rfl⟩
        have z1 : IntKind.i64.wrap ((mid : Int) - (x : Int)) = (ml : Int) := by rw [wrap_i64 (by omega) (by omega)]; omega
        have z2 : IntKind.i64.wrap ((y : Int) - (mid : Int)) = (mr : Int) := by rw [wrap_i64 (by omega) (by omega)]; omega
        have z3 : (l : Int).tdiv 8 = (q8 : Int) := by rw [Int.tdiv_eq_ediv_of_nonneg (by omega)]; omega
        have z4 : IntKind.i64.wrap (q8 : Int) = (q8 : Int) := wrap_i64 (by omega) (by omega)
        have z5 : IntKind.i64.wrap ((mid : Int) + 1) = ((mid + 1 : Nat) : Int) := by rw [wrap_i64 (by omega) (by omega)]; omega
        have kl4 := kl.set_mono (b := b) (o := rowC T e4 rest)
        rw [Heap.set_set] at kl4
        simp -implicitDefEqProofs [t0, t1, t2, t11]
        refine ACall.eq hcp ?_
        by_cases hlr : ml < mr
        · have hlr' : (ml : Int) < (mr : Int) := by omega
          simp -implicitDefEqProofs [t0, t1, t2, t3, t10, z1, z2, z3, z4, hlr, hlr']
          refine ACall.intro (IH (mid - x) (by omega) (K2.set b (rowC T e4 rest)) e4 x mid lim1 (Nat.le_refl _) hm1 (by omega) (by omega) h4n hlm1 (below_sub hB4 (by omega)) (by simp [Heap.set])) fun v K5 hv => ?_
          obtain ⟨rfl, e5, h5, kl5⟩ := hv
          rw [Heap.set_set] at kl5
          have h5n : e5.size = n := by rw [h5.1.1]; exact h4n
          have kl6 := kl.set_mono (b := b) (o := rowC T e5 rest)
          rw [Heap.set_set] at kl6
          have o5 : ∀ i, mid ≤ i → e5[i]! = e4[i]! := fun i h => h5.1.2.1 i (.inr h)
          simp -implicitDefEqProofs [z5]
          exact AGo.again ih (m' := y - (mid + 1)) (by omega) (HLe.refl _) ⟨mid + 1, y, lim1, decide (q8 ≤ ml), al, e5, rfl, by omega, by omega, hyj, h5n, hlm1,
            .inr fun i a1 a2 => by rw [show mid + 1 - 1 = mid by omega, o5 i (by omega), o5 mid (Nat.le_refl _)]; simpa using hhi' i (by omega) a2,
            fun e6 h6 => hcont e6 (srt_left (by omega) ⟨hm1, hm2⟩ hP4 hlo' hhi' h5 h6), by simp [t0], by simp, by simp [t2], by simp [t3], by simp, by simp, kl5 _ _ (by simp [Heap.set]), kl6.trans kl5⟩
        · have hlr' : ¬ (ml : Int) < (mr : Int) := by omega
          simp -implicitDefEqProofs [t0, t1, t2, t3, t10, z1, z2, z3, z4, z5, hlr, hlr']
          refine ACall.intro (IH (y - (mid + 1)) (by omega) (K2.set b (rowC T e4 rest)) e4 (mid + 1) y lim1 (Nat.le_refl _) (by omega) (by omega) (by omega) h4n hlm1
            (.inr fun i a1 a2 => by rw [show mid + 1 - 1 = mid by omega]; simpa using hhi' i (by omega) a2) (by simp [Heap.set])) fun v K5 hv => ?_
          obtain ⟨rfl, e5, h5, kl5⟩ := hv
          rw [Heap.set_set] at kl5
          have h5n : e5.size = n := by rw [h5.1.1]; exact h4n
          have kl6 := kl.set_mono (b := b) (o := rowC T e5 rest)
          rw [Heap.set_set] at kl6
          have o5 : ∀ i, i < mid + 1 → e5[i]! = e4[i]! := fun i h => h5.1.2.1 i (.inl h)
          have hB5 : Go.Sort.Below ltN x mid e5 := by
            rcases hB4 with h0 | h0
            · exact .inl h0
            · exact .inr fun i a1 a2 => by rw [o5 i (by omega), o5 (x - 1) (by omega)]; exact h0 i a1 (by omega)
          simp -implicitDefEqProofs
          exact AGo.again ih (m' := mid - x) (by omega) (HLe.refl _) ⟨x, mid, lim1, decide (q8 ≤ mr), al, e5, rfl, by omega, by omega, by omega, h5n, hlm1, hB5,
            fun e6 h6 => hcont e6 (srt_right (by omega) ⟨hm1, hm2⟩ hP4 hlo' hhi' h5 h6), by simp [t0], by simp [t1], by simp, by simp [t3], by simp, by simp, kl5 _ _ (by simp [Heap.set]), kl6.trans kl5⟩
    · have hx0' : ¬ (0 : Int) < (x : Int) := by omega
      refine go_draw 15 f_mixed (by decide +kernel) ?_
      simp -implicitDefEqProofs [t1, hx0, hx0']
      have hpt := Go.Sort.partition_holds ltN swoN e1 x y p hp1 hp2 (by omega)
      have hcp := c_part he1 x y p (by omega) (by omega) hp1 hp2 hl (cap := cap) kb
      obtain ⟨Q, hQ⟩ : ∃ Q, Go.Sort.partition ltN e1 x y p = Q := ⟨_, rfl⟩
      rw [hQ] at hpt hcp
      obtain ⟨mid, al, e4⟩ := Q
      simp only at hpt hcp
      obtain ⟨hm1, hm2, hP4, hlo, hhi⟩ := hpt
      have h4n : e4.size = n := by rw [hP4.1]; exact he1
      have hlo' : ∀ i, x ≤ i → i < mid → e4[i]! < e4[mid]! := fun i a1 a2 => by simpa using hlo i a1 a2
      have hhi' : ∀ i, mid < i → i < y → e4[mid]! ≤ e4[i]! := fun i a1 a2 => by simpa using hhi i a1 a2
      have hB4 := below_perm (by omega) hB1 hP4
      obtain ⟨ml, hml⟩ : ∃ ml, mid - x = ml := ⟨_, rfl⟩
      obtain ⟨mr, hmr⟩ : ∃ mr, y - mid = mr := ⟨_, rfl⟩
      obtain ⟨q8, hq8⟩ : ∃ q8, l / 8 = q8 := ⟨_, rfl⟩
      have z1 : IntKind.i64.wrap ((mid : Int) - (x : Int)) = (ml : Int) := by rw [wrap_i64 (by omega) (by omega)]; omega
      have z2 : IntKind.i64.wrap ((y : Int) - (mid : Int)) = (mr : Int) := by rw [wrap_i64 (by omega) (by omega)]; omega
      have z3 : (l : Int).tdiv 8 = (q8 : Int) := by rw [Int.tdiv_eq_ediv_of_nonneg (by omega)]; omega
      have z4 : IntKind.i64.wrap (q8 : Int) = (q8 : Int) := wrap_i64 (by omega) (by omega)
      have z5 : IntKind.i64.wrap ((mid : Int) + 1) = ((mid + 1 : Nat) : Int) := by rw [wrap_i64 (by omega) (by omega)]; omega
      have kl4 := kl.set_mono (b := b) (o := rowC T e4 rest)
      rw [Heap.set_set] at kl4
      simp -implicitDefEqProofs [t0, t1, t2, t11]
      refine ACall.eq hcp ?_
      by_cases hlr : ml < mr
      · have hlr' : (ml : Int) < (mr : Int) := by omega
        simp -implicitDefEqProofs [t0, t1, t2, t3, t10, z1, z2, z3, z4, hlr, hlr']
        refine ACall.intro (IH (mid - x) (by omega) (K2.set b (rowC T e4 rest)) e4 x mid lim1 (Nat.le_refl _) hm1 (by omega) (by omega) h4n hlm1 (below_sub hB4 (by omega)) (by simp [Heap.set])) fun v K5 hv => ?_
        obtain ⟨rfl, e5, h5, kl5⟩ := hv
        rw [Heap.set_set] at kl5
        have h5n : e5.size = n := by rw [h5.1.1]; exact h4n
        have kl6 := kl.set_mono (b := b) (o := rowC T e5 rest)
        rw [Heap.set_set] at kl6
        have o5 : ∀ i, mid ≤ i → e5[i]! = e4[i]! := fun i h => h5.1.2.1 i (.inr h)
        simp -implicitDefEqProofs [z5]
        exact AGo.again ih (m' := y - (mid + 1)) (by omega) (HLe.refl _) ⟨mid + 1, y, lim1, decide (q8 ≤ ml), al, e5, rfl, by omega, by omega, hyj, h5n, hlm1,
          .inr fun i a1 a2 => by rw [show mid + 1 - 1 = mid by omega, o5 i (by omega), o5 mid (Nat.le_refl _)]; simpa using hhi' i (by omega) a2,
          fun e6 h6 => hcont e6 (srt_left (by omega) ⟨hm1, hm2⟩ hP4 hlo' hhi' h5 h6), by simp [t0], by simp, by simp [t2], by simp [t3], by simp, by simp, kl5 _ _ (by simp [Heap.set]), kl6.trans kl5⟩
      · have hlr' : ¬ (ml : Int) < (mr : Int) := by omega
        simp -implicitDefEqProofs [t0, t1, t2, t3, t10, z1, z2, z3, z4, z5, hlr, hlr']
        refine ACall.intro (IH (y - (mid + 1)) (by omega) (K2.set b (rowC T e4 rest)) e4 (mid + 1) y lim1 (Nat.le_refl _) (by omega) (by omega) (by omega) h4n hlm1
          (.inr fun i a1 a2 => by rw [show mid + 1 - 1 = mid by omega]; simpa using hhi' i (by omega) a2) (by simp [Heap.set])) fun v K5 hv => ?_
        obtain ⟨rfl, e5, h5, kl5⟩ := hv
        rw [Heap.set_set] at kl5
        have h5n : e5.size = n := by rw [h5.1.1]; exact h4n
        have kl6 := kl.set_mono (b := b) (o := rowC T e5 rest)
        rw [Heap.set_set] at kl6
        have o5 : ∀ i, i < mid + 1 → e5[i]! = e4[i]! := fun i h => h5.1.2.1 i (.inl h)
        have hB5 : Go.Sort.Below ltN x mid e5 := by
          rcases hB4 with h0 | h0
          · exact .inl h0
          · exact .inr fun i a1 a2 => by rw [o5 i (by omega), o5 (x - 1) (by omega)]; exact h0 i a1 (by omega)
        simp -implicitDefEqProofs
        exact AGo.again ih (m' := mid - x) (by omega) (HLe.refl _) ⟨x, mid, lim1, decide (q8 ≤ mr), al, e5, rfl, by omega, by omega, by omega, h5n, hlm1, hB5,
          fun e6 h6 => hcont e6 (srt_right (by omega) ⟨hm1, hm2⟩ hP4 hlo' hhi' h5 h6), by simp [t0], by simp [t1], by simp, by simp [t3], by simp, by simp, kl5 _ _ (by simp [Heap.set]), kl6.trans kl5⟩
  · have hh1' : ¬ (hint : Int) = 1 := by omega
    simp -implicitDefEqProofs [r8, r9, hh2, hh2', hh1, hh1']
    refine atRho fun ρ3 hρ3 => ?_
    have t0 : ρ3 0 = slV b n cap := by rw [hρ3]; simp [r0]
    have t1 : ρ3 1 = zI x := by rw [hρ3]; simp [r1]
    have t2 : ρ3 2 = zI y := by rw [hρ3]; simp [r2]
    have t3 : ρ3 3 = zI lim1 := by rw [hρ3]; simp [r3]
    have t8 : ∃ q : Bool, ρ3 8 = .sc (.bool q) := by rw [hρ3]; simp [r8]
    have t9 : ∃ q : Bool, ρ3 9 = .sc (.bool q) := by rw [hρ3]; simp [r9]
    have t10 : ρ3 10 = zI l := by rw [hρ3]; simp [r10]
    have t11 : ρ3 11 = zI p := by rw [hρ3]; simp
    clear hρ3 r0 r1 r2 r3 r8 r9 r10
    obtain ⟨wb2, t8⟩ := t8
    obtain ⟨wp2, t9⟩ := t9
    have np : p < n := by omega
    have zp : p < e1.size := by omega
    have gp := row_get (rest := rest) zp
    obtain ⟨xp, hxp⟩ : ∃ v, e1[p]! = v := ⟨_, rfl⟩
    rw [hxp] at gp
    by_cases hx0 : 0 < x
    · have hx0' : (0 : Int) < (x : Int) := by omega
      obtain ⟨z, hz⟩ : ∃ z, x - 1 = z := ⟨_, rfl⟩
      have wz : IntKind.i64.wrap ((x : Int) - 1) = (z : Int) := by rw [wrap_i64 (by omega) (by omega)]; omega
      have nz : z < n := by omega
      have zz : z < e1.size := by omega
      have gz := row_get (rest := rest) zz
      obtain ⟨xz, hxz⟩ : ∃ v, e1[z]! = v := ⟨_, rfl⟩
      rw [hxz] at gz
      refine go_draw 15 f_mixed (by decide +kernel) ?_
      simp -implicitDefEqProofs [t0, t1, t11, hx0, hx0', wz, kb, rd_row, gz, gp, nz, np]
      refine AQS.eq (c_less _ _) ?_
      cases hb : ltN xz xp with
      | false =>
        have hlow : ∀ i, x ≤ i → i < y → ltN e1[i]! e1[p]! = false := fun i a1 a2 => by
          rcases hB1 with h0 | h0
          · omega
          · have := h0 i a1 a2
            rw [hz, hxz] at this
            rw [hxp]
            exact swoN.ntrans _ _ _ this hb
        have hpt := Go.Sort.partitionEqual_holds ltN swoN e1 x y p hp1 hp2 (by omega) hlow
        have hcp := c_partEq he1 x y p (by omega) (by omega) hp1 hp2 hl (cap := cap) kb
        obtain ⟨Q, hQ⟩ : ∃ Q, Go.Sort.partitionEqual ltN e1 x y p = Q := ⟨_, rfl⟩
        rw [hQ] at hpt hcp
        obtain ⟨mid, e4⟩ := Q
        simp only at hpt hcp
        obtain ⟨hm1, hm2, hP4, hle, hgt⟩ := hpt
        have h4n : e4.size = n := by rw [hP4.1]; exact he1
        have kl4 := kl.set_mono (b := b) (o := rowC T e4 rest)
        rw [Heap.set_set] at kl4
        rw [hxp] at hle hgt hlow
        simp -implicitDefEqProofs [t0, t1, t2, t11]
        refine ACall.eq hcp ?_
        simp -implicitDefEqProofs
        exact AGo.again ih (m' := y - mid) (by omega) (HLe.refl _) ⟨mid, y, lim1, wb2, wp2, e4, rfl, by omega, by omega, hyj, h4n, hlm1,
          .inr fun i a1 a2 => (by have q1 := hgt i a1 a2; have q2 := hle (mid - 1) (by omega) (by omega); simp at q1 q2 ⊢; omega),
          fun e5 h5 => hcont e5 (srt_eq (w := xp) (by omega) ⟨hm1, hm2⟩ hP4 (fun i a1 a2 => by simpa using hlow i a1 a2) (fun i a1 a2 => by simpa using hle i a1 a2) (fun i a1 a2 => by simpa using hgt i a1 a2) h5),
          by simp [t0], by simp, by simp [t2], by simp [t3], by simp [t8], by simp [t9], by simp [Heap.set], kl4⟩
      | true =>
        have hpt := Go.Sort.partition_holds ltN swoN e1 x y p hp1 hp2 (by omega)
        have hcp := c_part he1 x y p (by omega) (by omega) hp1 hp2 hl (cap := cap) kb
        obtain ⟨Q, hQ⟩ : ∃ Q, Go.Sort.partition ltN e1 x y p = Q := ⟨_, rfl⟩
        rw [hQ] at hpt hcp
        obtain ⟨mid, al, e4⟩ := Q
        simp only at hpt hcp
        obtain ⟨hm1, hm2, hP4, hlo, hhi⟩ := hpt
        have h4n : e4.size = n := by rw [hP4.1]; exact he1
        have hlo' : ∀ i, x ≤ i → i < mid → e4[i]! < e4[mid]! := fun i a1 a2 => by simpa using hlo i a1 a2
        have hhi' : ∀ i, mid < i → i < y → e4[mid]! ≤ e4[i]! := fun i a1 a2 => by simpa using hhi i a1 a2
        have hB4 := below_perm (by omega) hB1 hP4
        obtain ⟨ml, hml⟩ : ∃ ml, mid - x = ml := ⟨_, rfl⟩
        obtain ⟨mr, hmr⟩ : ∃ mr, y - mid = mr := ⟨_, rfl⟩
        obtain ⟨q8, hq8⟩ : ∃ q8, l / 8 = q8 := ⟨_, rfl⟩
        have z1 : IntKind.i64.wrap ((mid : Int) - (x : Int)) = (ml : Int) := by rw [wrap_i64 (by omega) (by omega)]; omega
        have z2 : IntKind.i64.wrap ((y : Int) - (mid : Int)) = (mr : Int) := by rw [wrap_i64 (by omega) (by omega)]; omega
        have z3 : (l : Int).tdiv 8 = (q8 : Int) := by rw [Int.tdiv_eq_ediv_of_nonneg (by omega)]; omega
        have z4 : IntKind.i64.wrap (q8 : Int) = (q8 : Int) := wrap_i64 (by omega) (by omega)
        have z5 : IntKind.i64.wrap ((mid : Int) + 1) = ((mid + 1 : Nat) : Int) := by rw [wrap_i64 (by omega) (by omega)]; omega
        have kl4 := kl.set_mono (b := b) (o := rowC T e4 rest)
        rw [Heap.set_set] at kl4
        simp -implicitDefEqProofs [t0, t1, t2, t11]
        refine ACall.eq hcp ?_
        by_cases hlr : ml < mr
        · have hlr' : (ml : Int) < (mr : Int) := by omega
          simp -implicitDefEqProofs [t0, t1, t2, t3, t10, z1, z2, z3, z4, hlr, hlr']
          refine ACall.intro (IH (mid - x) (by omega) (K2.set b (rowC T e4 rest)) e4 x mid lim1 (Nat.le_refl _) hm1 (by omega) (by omega) h4n hlm1 (below_sub hB4 (by omega)) (by simp [Heap.set])) fun v K5 hv => ?_
          obtain ⟨rfl, e5, h5, kl5⟩ := hv
          rw [Heap.set_set] at kl5
          have h5n : e5.size = n := by rw [h5.1.1]; exact h4n
          have kl6 := kl.set_mono (b := b) (o := rowC T e5 rest)
          rw [Heap.set_set] at kl6
          have o5 : ∀ i, mid ≤ i → e5[i]! = e4[i]! := fun i h => h5.1.2.1 i (.inr h)
          simp -implicitDefEqProofs [z5]
          exact AGo.again ih (m' := y - (mid + 1)) (by omega) (HLe.refl _) ⟨mid + 1, y, lim1, decide (q8 ≤ ml), al, e5, rfl, by omega, by omega, hyj, h5n, hlm1,
            .inr fun i a1 a2 => by rw [show mid + 1 - 1 = mid by omega, o5 i (by omega), o5 mid (Nat.le_refl _)]; simpa using hhi' i (by omega) a2,
            fun e6 h6 => hcont e6 (srt_left (by omega) ⟨hm1, hm2⟩ hP4 hlo' hhi' h5 h6), by simp [t0], by simp, by simp [t2], by simp [t3], by simp, by simp, kl5 _ _ (by simp [Heap.set]), kl6.trans kl5⟩
        · have hlr' : ¬ (ml : Int) < (mr : Int) := by omega
          simp -implicitDefEqProofs [t0, t1, t2, t3, t10, z1, z2, z3, z4, z5, hlr, hlr']
          refine ACall.intro (IH (y - (mid + 1)) (by omega) (K2.set b (rowC T e4 rest)) e4 (mid + 1) y lim1 (Nat.le_refl _) (by omega) (by omega) (by omega) h4n hlm1
            (.inr fun i a1 a2 => by rw [show mid + 1 - 1 = mid by omega]; simpa using hhi' i (by omega) a2) (by simp [Heap.set])) fun v K5 hv => ?_
          obtain ⟨rfl, e5, h5, kl5⟩ := hv
          rw [Heap.set_set] at kl5
          have h5n : e5.size = n := by rw [h5.1.1]; exact h4n
          have kl6 := kl.set_mono (b := b) (o := rowC T e5 rest)
          rw [Heap.set_set] at kl6
          have o5 : ∀ i, i < mid + 1 → e5[i]! = e4[i]! := fun i h => h5.1.2.1 i (.inl h)
          have hB5 : Go.Sort.Below ltN x mid e5 := by
            rcases hB4 with h0 | h0
            · exact .inl h0
            · exact .inr fun i a1 a2 => by rw [o5 i (by omega), o5 (x - 1) (by omega)]; exact h0 i a1 (by omega)
          simp -implicitDefEqProofs
          exact AGo.again ih (m' := mid - x) (by omega) (HLe.refl _) ⟨x, mid, lim1, decide (q8 ≤ mr), al, e5, rfl, by omega, by omega, by omega, h5n, hlm1, hB5,
            fun e6 h6 => hcont e6 (srt_right (by omega) ⟨hm1, hm2⟩ hP4 hlo' hhi' h5 h6), by simp [t0], by simp [t1], by simp, by simp [t3], by simp, by simp, kl5 _ _ (by simp [Heap.set]), kl6.trans kl5⟩
    · have hx0' : ¬ (0 : Int) < (x : Int) := by omega
      refine go_draw 15 f_mixed (by decide +kernel) ?_
      simp -implicitDefEqProofs [t1, hx0, hx0']
      have hpt := Go.Sort.partition_holds ltN swoN e1 x y p hp1 hp2 (by omega)
      have hcp := c_part he1 x y p (by omega) (by omega) hp1 hp2 hl (cap := cap) kb
      obtain ⟨Q, hQ⟩ : ∃ Q, Go.Sort.partition ltN e1 x y p = Q := ⟨_, rfl⟩
      rw [hQ] at hpt hcp
      obtain ⟨mid, al, e4⟩ := Q
      simp only at hpt hcp
      obtain ⟨hm1, hm2, hP4, hlo, hhi⟩ := hpt
      have h4n : e4.size = n := by rw [hP4.1]; exact he1
      have hlo' : ∀ i, x ≤ i → i < mid → e4[i]! < e4[mid]! := fun i a1 a2 => by simpa using hlo i a1 a2
      have hhi' : ∀ i, mid < i → i < y → e4[mid]! ≤ e4[i]! := fun i a1 a2 => by simpa using hhi i a1 a2
      have hB4 := below_perm (by omega) hB1 hP4
      obtain ⟨ml, hml⟩ : ∃ ml, mid - x = ml := ⟨_, rfl⟩
      obtain ⟨mr, hmr⟩ : ∃ mr, y - mid = mr := ⟨_, rfl⟩
      obtain ⟨q8, hq8⟩ : ∃ q8, l / 8 = q8 := ⟨_, rfl⟩
      have z1 : IntKind.i64.wrap ((mid : Int) - (x : Int)) = (ml : Int) := by rw [wrap_i64 (by omega) (by omega)]; omega
      have z2 : IntKind.i64.wrap ((y : Int) - (mid : Int)) = (mr : Int) := by rw [wrap_i64 (by omega) (by omega)]; omega
      have z3 : (l : Int).tdiv 8 = (q8 : Int) := by rw [Int.tdiv_eq_ediv_of_nonneg (by omega)]; omega
      have z4 : IntKind.i64.wrap (q8 : Int) = (q8 : Int) := wrap_i64 (by omega) (by omega)
      have z5 : IntKind.i64.wrap ((mid : Int) + 1) = ((mid + 1 : Nat) : Int) := by rw [wrap_i64 (by omega) (by omega)]; omega
      have kl4 := kl.set_mono (b := b) (o := rowC T e4 rest)
      rw [Heap.set_set] at kl4
      simp -implicitDefEqProofs [t0, t1, t2, t11]
      refine ACall.eq hcp ?_
      by_cases hlr : ml < mr
      · have hlr' : (ml : Int) < (mr : Int) := by omega
        simp -implicitDefEqProofs [t0, t1, t2, t3, t10, z1, z2, z3, z4, hlr, hlr']
        refine ACall.intro (IH (mid - x) (by omega) (K2.set b (rowC T e4 rest)) e4 x mid lim1 (Nat.le_refl _) hm1 (by omega) (by omega) h4n hlm1 (below_sub hB4 (by omega)) (by simp [Heap.set])) fun v K5 hv => ?_
        obtain ⟨rfl, e5, h5, kl5⟩ := hv
        rw [Heap.set_set] at kl5
        have h5n : e5.size = n := by rw [h5.1.1]; exact h4n
        have kl6 := kl.set_mono (b := b) (o := rowC T e5 rest)
        rw [Heap.set_set] at kl6
        have o5 : ∀ i, mid ≤ i → e5[i]! = e4[i]! := fun i h => h5.1.2.1 i (.inr h)
        simp -implicitDefEqProofs [z5]
        exact AGo.again ih (m' := y - (mid + 1)) (by omega) (HLe.refl _) ⟨mid + 1, y, lim1, decide (q8 ≤ ml), al, e5, rfl, by omega, by omega, hyj, h5n, hlm1,
          .inr fun i a1 a2 => by rw [show mid + 1 - 1 = mid by omega, o5 i (by omega), o5 mid (Nat.le_refl _)]; simpa using hhi' i (by omega) a2,
          fun e6 h6 => hcont e6 (srt_left (by omega) ⟨hm1, hm2⟩ hP4 hlo' hhi' h5 h6), by simp [t0], by simp, by simp [t2], by simp [t3], by simp, by simp, kl5 _ _ (by simp [Heap.set]), kl6.trans kl5⟩
      · have hlr' : ¬ (ml : Int) < (mr : Int) := by omega
        simp -implicitDefEqProofs [t0, t1, t2, t3, t10, z1, z2, z3, z4, z5, hlr, hlr']
        refine ACall.intro (IH (y - (mid + 1)) (by omega) (K2.set b (rowC T e4 rest)) e4 (mid + 1) y lim1 (Nat.le_refl _) (by omega) (by omega) (by omega) h4n hlm1
          (.inr fun i a1 a2 => by rw [show mid + 1 - 1 = mid by omega]; simpa using hhi' i (by omega) a2) (by simp [Heap.set])) fun v K5 hv => ?_
        obtain ⟨rfl, e5, h5, kl5⟩ := hv
        rw [Heap.set_set] at kl5
        have h5n : e5.size = n := by rw [h5.1.1]; exact h4n
        have kl6 := kl.set_mono (b := b) (o := rowC T e5 rest)
        rw [Heap.set_set] at kl6
        have o5 : ∀ i, i < mid + 1 → e5[i]! = e4[i]! := fun i h => h5.1.2.1 i (.inl h)
        have hB5 : Go.Sort.Below ltN x mid e5 := by
          rcases hB4 with h0 | h0
          · exact .inl h0
          · exact .inr fun i a1 a2 => by rw [o5 i (by omega), o5 (x - 1) (by omega)]; exact h0 i a1 (by omega)
        simp -implicitDefEqProofs
        exact AGo.again ih (m' := mid - x) (by omega) (HLe.refl _) ⟨x, mid, lim1, decide (q8 ≤ mr), al, e5, rfl, by omega, by omega, by omega, h5n, hlm1, hB5,
          fun e6 h6 => hcont e6 (srt_right (by omega) ⟨hm1, hm2⟩ hP4 hlo' hhi' h5 h6), by simp [t0], by simp [t1], by simp, by simp [t3], by simp, by simp, kl5 _ _ (by simp [Heap.set]), kl6.trans kl5⟩
end Go.Proofs.YtlhgpodfhdddkaaGreatDoor
namespace Go.Proofs.YtlhgpodfhdddkaaGreatDoor
open Rg Go Go.RowKit
variable {H : Heap}
theorem len_64 : ∀ l : Fin 50, Lib.bitLen l.val ≤ 64 := by decide
theorem c_sort {b n cap : Nat} {T : TypeId} {rest : List AV} {d : Array Nat} (hn : d.size = n) (h50 : n < 50) (h : H b = some (rowC T d rest)) :
    ACalls Tryz.prog 58 [slV b n cap] H (fun v K => v = .tup [] ∧ ∃ d' : Array Nat, d'.size = n ∧ d'.toList.Perm d.toList ∧ d'.toList.Pairwise (· ≤ ·) ∧ HLe (H.set b (rowC T d' rest)) K) := by
  generalize hR : (fun (v : AV) (K : Heap) => v = .tup [] ∧ ∃ d' : Array Nat, d'.size = n ∧ d'.toList.Perm d.toList ∧ d'.toList.Pairwise (· ≤ ·) ∧ HLe (H.set b (rowC T d' rest)) K) = R
  have w1 : IntKind.u64.wrap (n : Int) = (n : Int) := wrap_u64 (by omega) (by omega)
  have hk := len_64 ⟨n, h50⟩
  simp only at hk
  have hc := c_len (H := H) n (by omega)
  obtain ⟨k, hkk⟩ : ∃ k, Lib.bitLen n = k := ⟨_, rfl⟩
  rw [hkk] at hk hc
  refine ACalls.into Tryz.func58 rfl Tryz.ntmps58 Tryz.results58 (by simp) ?_
  simp -implicitDefEqProofs [w1]
  refine ACall.eq hc ?_
  simp -implicitDefEqProofs
  refine ACall.intro (c_pdq (T := T) (rest := rest) (b := b) (cap := cap) (n := n) (by omega) n H d 0 n k (by omega) (by omega) (Nat.le_refl _) (by omega) hn (by omega) (.inl rfl) h) fun v K hv => ?_
  obtain ⟨rfl, d', hS, kl⟩ := hv
  simp -implicitDefEqProofs
  subst hR
  have hs' : d'.size = n := by rw [hS.1.1]; exact hn
  refine AFin.intro _ _ (wk_refl _) (HWk.refl _) ⟨rfl, d', hs', ?_, ?_, kl⟩
  · have := hS.1.2.2
    have e1 : d'.extract 0 n = d' := by rw [← hs']; exact Array.extract_size
    have e2 : d.extract 0 n = d := by rw [← hn]; exact Array.extract_size
    rw [e1, e2] at this
    exact this
  · rw [List.pairwise_iff_getElem]
    intro i k hi hk2 hik
    have hi' : i < d'.size := by simpa using hi
    have hk' : k < d'.size := by simpa using hk2
    have := hS.2 i k (Nat.zero_le _) hik (by omega)
    rw [getElem!_pos d' i hi', getElem!_pos d' k hk'] at this
    simpa using this
end Go.Proofs.YtlhgpodfhdddkaaGreatDoor
namespace Rg
open Go Go.RowKit
variable {P : Program} {H : Heap}
theorem c_entry {it m ck s : Nat} {seen : List Nat} {es : List (AV × AV × Nat)} {e : AV × AV × Nat} (hI : H it = some (.iter (some m) ck (seen ++ [s]) ck)) (hm : H m = some (.map es ck))
    (he : e ∈ es) (hs : e.2.2 = s) (hu : ∀ e' ∈ es, e'.2.2 = s → e' = e) : AOk P P.funcs.size (pa 10 0 [.sc (.pointer (some ⟨it, 0, none⟩))]) H (.tup [e.1, e.2.1]) H := by
  refine ACalls.prim fun W0 C w vs hi ha ty => ?_
  obtain ⟨x, vs', rfl, hx, ha⟩ := ha.uncons
  obtain rfl := ha.nil_inv
  obtain rfl := hx.sc_inv
  obtain ⟨ens, h1, h2, h3, h4⟩ := map_open hi hm
  obtain ⟨hbi, hI1, hI2⟩ := hi.obj _ _ hI
  have hf : ∃ y ∈ ens, y.born = s ∧ ens.toArray.find? (fun q => q.born == s) = some y := by
    cases hq : ens.toArray.find? (fun q => q.born == s) with
    | none =>
      exfalso
      obtain ⟨i, hi2, hei⟩ := List.getElem_of_mem he
      obtain ⟨y, hy, _, _, hyb⟩ := h2.get (List.getElem?_eq_getElem hi2)
      rw [hei, hs] at hyb
      have hmem : y ∈ ens := List.mem_of_getElem? hy
      rw [List.find?_toArray, List.find?_eq_none] at hq
      have := hq y hmem
      simp [← hyb] at this
    | some y =>
      rw [List.find?_toArray] at hq
      have h5 := List.find?_some hq
      exact ⟨y, List.mem_of_find?_eq_some hq, by simpa using h5, rfl⟩
  obtain ⟨y, hy, hyb, hfind⟩ := hf
  have hrel : Rel C e.1 y.key ∧ Rel C e.2.1 y.val := by
    obtain ⟨i, hi2, hyi⟩ := List.getElem_of_mem hy
    have hlt : i < es.length := by rw [h2.length]; exact hi2
    obtain ⟨y', h5, h6, h7, h8⟩ := h2.get (List.getElem?_eq_getElem hlt)
    rw [List.getElem?_eq_getElem hi2, hyi] at h5
    cases h5
    have hee := hu _ (List.getElem_mem hlt) (by rw [h8, hyb])
    rw [hee] at h6 h7
    exact ⟨h6, h7⟩
  refine ⟨.tuple #[y.key, y.val], w, ?_, _, _, C, ⟨rfl, rfl⟩, CLe.refl C, RelL.tup (vs := []) (us := [y.key, y.val]) (RelL.cons hrel.1 (RelL.cons hrel.2 .nil)) .nil, hi⟩
  simp [primRun, Instr.entry, Sem.run_bind, run_getIter hI1, run_getMap h1, hfind]
end Rg
