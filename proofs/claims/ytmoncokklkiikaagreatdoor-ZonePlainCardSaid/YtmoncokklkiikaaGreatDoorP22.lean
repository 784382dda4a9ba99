/- The last firing up to a moment, as the program looks for it. The first firing behind a moment, as the program looks for it. A row turned round in place. Numbers and texts as bytes: what the program's package pack computes. Numbers and texts as bytes: pack.Take. -/
import Derived.Test.YtmoncokklkiikaaGreatDoorP21
import Derived.Test.YtmoncokklkiikaaGreatDoorP16
import Derived.Test.YtmoncokklkiikaaGreatDoorP09
import Derived.Laws.BitsAllLaws
set_option linter.unusedSimpArgs false
set_option linter.unusedVariables false
set_option linter.unnecessarySimpa false
namespace Go.Proofs.YtmoncokklkiikaaGreatDoor
open Rg Go
variable {H : Heap}
def topB (b n : Nat) : Option Nat := if b % pow2 (n + 1) = 0 then none else some (Nat.log2 (b % pow2 (n + 1)))
def topAV : Option Nat → AV
  | some h => .tup [.sc (.int .i64 (h : Int)), .sc (.bool true)]
  | none => .tup [.sc (.int .i64 (-1)), .sc (.bool false)]
theorem topB_some {b n h : Nat} (he : topB b n = some h) : h ≤ n ∧ b.testBit h = true ∧ ∀ j, h < j → j ≤ n → b.testBit j = false := by
  unfold topB at he
  split at he
  · cases he
  · rename_i h0
    simp only [Option.some.injEq] at he
    have hlt : b % pow2 (n + 1) < 2 ^ (n + 1) := Nat.mod_lt _ (Nat.pos_of_ne_zero (by simp [pow2]))
    have hb : ∀ j, (b % pow2 (n + 1)).testBit j = (decide (j < n + 1) && b.testBit j) := fun j => by unfold pow2; rw [Nat.testBit_mod_two_pow]
    have h1 := Nat.log2_self_le h0
    have h2 := Nat.lt_log2_self (n := b % pow2 (n + 1))
    rw [he] at h1 h2
    have hh : h < n + 1 := (Nat.pow_lt_pow_iff_right (a := 2) (by decide)).1 (Nat.lt_of_le_of_lt h1 hlt)
    refine ⟨by omega, ?_, fun j g1 g2 => ?_⟩
    · have h3 : (b % pow2 (n + 1)).testBit h = true := by
        rw [Nat.testBit_eq_decide_div_mod_eq]
        have : b % pow2 (n + 1) / 2 ^ h = 1 := by
          refine Nat.div_eq_of_lt_le (by simpa using h1) ?_
          rw [Nat.pow_succ] at h2
          omega
        simp [this]
      rw [hb] at h3
      simp only [Bool.and_eq_true] at h3
      exact h3.2
    · have h3 : (b % pow2 (n + 1)).testBit j = false := Nat.testBit_lt_two_pow (Nat.lt_of_lt_of_le h2 (Nat.pow_le_pow_right (by decide) (by omega)))
      rw [hb, decide_eq_true (by omega : j < n + 1), Bool.true_and] at h3
      exact h3
theorem topB_none {b n : Nat} (he : topB b n = none) : ∀ j, j ≤ n → b.testBit j = false := by
  unfold topB at he
  split at he
  · rename_i h0
    intro j hj
    have h1 : (b % pow2 (n + 1)).testBit j = false := by rw [h0]; exact Nat.zero_testBit j
    unfold pow2 at h1
    rw [Nat.testBit_mod_two_pow, decide_eq_true (by omega : j < n + 1), Bool.true_and] at h1
    exact h1
  · cases he
theorem bitLenAux_log : ∀ f x : Nat, x < 2 ^ f → x ≠ 0 → Lib.bitLenAux f x = Nat.log2 x + 1
  | 0, x, h, h0 => by simp at h; omega
  | f + 1, x, h, h0 => by
    unfold Lib.bitLenAux
    rw [if_neg h0]
    by_cases h2 : x < 2
    · obtain rfl : x = 1 := by omega
      have : Lib.bitLenAux f (1 / 2) = 0 := by cases f <;> simp [Lib.bitLenAux]
      rw [this]
      decide
    · rw [bitLenAux_log f (x / 2) (by rw [Nat.pow_succ] at h; omega) (by omega)]
      have := Nat.log2_def x
      rw [if_pos (by omega)] at this
      omega
theorem c_top (f : Fld) (n : Nat) (hf : f.bits < 18446744073709551616) (hn : n ≤ 59) : AOk Tryz.prog 137 [fAV f, .sc (.int .i64 n)] H (topAV (topB f.bits n)) H := by
  refine ACalls.into Tryz.func137 rfl Tryz.ntmps137 Tryz.results137 (by simp) ?_
  simp -implicitDefEqProofs [fAV]
  refine AAlloc.intro fun b hb => ?_
  have hm : min (n + 1) 64 = n + 1 := by omega
  have w1 : IntKind.i64.wrap ((n : Int) + 1) = ((n + 1 : Nat) : Int) := by rw [wrap_i64 (by omega) (by omega)]; push_cast; rfl
  have w2 : IntKind.u64.wrap (2 ^ (n + 1)) = (pow2 (n + 1) : Int) := shl_nat (by omega)
  have n0 : ¬ (n : Int) + 1 < 0 := by omega
  simp -implicitDefEqProofs [w1, hm, w2]
  refine go_draw 8 f_mixed (by decide +kernel) ?_
  obtain ⟨M, hM⟩ : ∃ M, f.bits % pow2 (n + 1) = M := ⟨_, rfl⟩
  have hp : pow2 (n + 1) < 18446744073709551616 := pow2_small (by omega)
  have hp1 : 1 ≤ pow2 (n + 1) := Nat.one_le_two_pow
  have hMl : M < pow2 (n + 1) := by rw [← hM]; exact Nat.mod_lt _ (by omega)
  have w3 : IntKind.u64.wrap ((pow2 (n + 1) : Int) - 1) = ((pow2 (n + 1) - 1 : Nat) : Int) := by
    rw [show ((pow2 (n + 1) : Int) - 1) = ((pow2 (n + 1) - 1 : Nat) : Int) by omega]
    exact wrap_u64 (by omega) (by omega)
  have w4 : bits .and .u64 (f.bits : Int) ((pow2 (n + 1) - 1 : Nat) : Int) = (M : Int) := by
    rw [u64_and_nat _ _ hf (by omega), ← hM]
    unfold pow2
    rw [Nat.and_two_pow_sub_one_eq_mod]
  have w5 : bits .and .u64 (f.bits : Int) (IntKind.u64.wrap ((pow2 (n + 1) : Int) - 1)) = (M : Int) := by rw [w3, w4]
  simp -implicitDefEqProofs [w1, hm, w2, n0, w5]
  refine ACall.eq (c_len64 (M : Int) (by omega) (by omega)) ?_
  have hb2 : M < 18446744073709551616 := by omega
  unfold topB
  rw [hM]
  by_cases h0 : M = 0
  · subst h0
    have w7 : IntKind.i64.wrap (((Lib.bitLen 0 : Nat) : Int) - 1) = -1 := by decide +kernel
    simp -implicitDefEqProofs [topAV, w7]
    exact HWk.new hb (HWk.refl _)
  · have h1 : Lib.bitLen M = M.log2 + 1 := by exact bitLenAux_log 64 M (by omega) h0
    have h2 : M.log2 < 64 := (Nat.log2_lt h0).2 (by omega)
    have w6 : IntKind.i64.wrap (((M.log2 + 1 : Nat) : Int) - 1) = (M.log2 : Int) := by rw [wrap_i64 (by omega) (by omega)]; omega
    have w7 : IntKind.i64.wrap (M.log2 : Int) = (M.log2 : Int) := wrap_i64 (by omega) (by omega)
    simp -implicitDefEqProofs [topAV, h0, h1, w6, w7]
    exact HWk.new hb (HWk.refl _)
def badE (x : Ex) (t : Int) : Int := if mayX x = false then 2 else if t < 0 ∨ 13569465600 ≤ t then 50 else 0
theorem c_floor_bad {t : Int} (h : t < 0 ∨ 13569465600 ≤ t) : AOk Tryz.prog 84 [.sc (.int .i64 t)] H (.tup [.sc (.int .i64 0), .sc (.int .i64 50)]) H := by
  refine ACalls.into Tryz.func84 rfl Tryz.ntmps84 Tryz.results84 (by simp) ?_
  simp -implicitDefEqProofs
  refine ACall.eq (c_is_s t) ?_
  have e : (decide (0 ≤ t) && decide (t < 13569465600)) = false := by simp; omega
  simp -implicitDefEqProofs [e]
theorem c_floor {t : Nat} (h : t < 13569465600) : AOk Tryz.prog 84 [.sc (.int .i64 t)] H (.tup [.sc (.int .i64 ((t / 60 * 60 : Nat) : Int)), .sc (.int .i64 0)]) H := by
  obtain ⟨q, hq⟩ : ∃ q, t % 60 = q := ⟨_, rfl⟩
  obtain ⟨z, hz⟩ : ∃ z, t / 60 * 60 = z := ⟨_, rfl⟩
  rw [hz]
  refine ACalls.into Tryz.func84 rfl Tryz.ntmps84 Tryz.results84 (by simp) ?_
  simp -implicitDefEqProofs
  refine ACall.eq (c_is_s t) ?_
  have e : (t : Int) < 13569465600 := by omega
  have w1 : (t : Int).tmod 60 = (q : Int) := wmod (b := 60) hq
  have w2 : IntKind.i64.wrap ((t : Int) - (q : Int)) = (z : Int) := wsub (by omega) (by omega) (by omega)
  simp -implicitDefEqProofs [e, w1, w2]
theorem c_nmay (x : Ex) (hx : x.ok) (t : Int) : AOk Tryz.prog 103 [exAV x, .sc (.int .i64 t)] H (.sc (.int .i64 (badE x t))) H := by
  refine ACalls.into Tryz.func103 rfl Tryz.ntmps103 Tryz.results103 (by simp) ?_
  simp -implicitDefEqProofs
  refine AAlloc.intro fun b2 h2 => ?_
  have hW : ∀ o, HWk H (H.set b2 o) := fun o => HWk.new h2 (HWk.refl _)
  simp -implicitDefEqProofs
  refine ACall.eq (c_cronMay x hx) ?_
  unfold badE
  cases hm : mayX x with
  | false =>
    simp -implicitDefEqProofs
    exact hW _
  | true =>
    simp -implicitDefEqProofs
    by_cases h : t < 0 ∨ 13569465600 ≤ t
    · rw [if_pos h]
      refine ACall.eq (c_floor_bad h) ?_
      simp -implicitDefEqProofs
      exact hW _
    · rw [if_neg h]
      obtain ⟨u, rfl⟩ := Int.eq_ofNat_of_zero_le (a := t) (by omega)
      refine ACall.eq (c_floor (t := u) (by omega)) ?_
      simp -implicitDefEqProofs
      exact hW _
theorem c_nfits (x : Ex) (hx : x.ok) {n : Nat} (hn : n < 157054) : AOk Tryz.prog 136 [exAV x, .sc (.int .i64 n)] H (.sc (.bool (mayX x && dayB x n))) H := by
  refine ACalls.into Tryz.func136 rfl Tryz.ntmps136 Tryz.results136 (by simp) ?_
  simp -implicitDefEqProofs
  refine AAlloc.intro fun b2 h2 => ?_
  obtain ⟨t, ht⟩ : ∃ t, n * 86400 = t := ⟨_, rfl⟩
  have w1 : IntKind.i64.wrap ((n : Int) * 86400) = (t : Int) := wmul (b := 86400) ht (by omega)
  have hdn := day_n x hn
  rw [ht] at hdn
  simp -implicitDefEqProofs [w1]
  refine ACall.eq (c_split_s (t := t) (by omega)) ?_
  simp -implicitDefEqProofs
  refine AAlloc.intro fun b5 h5 => ?_
  have n52 : b5 ≠ b2 := by intro e; subst e; simp [Heap.set] at h5
  have n25 := n52.symm
  have e5 : H b5 = none := (HLe.set_fresh h2).none h5
  simp -implicitDefEqProofs [n25]
  refine ACall.eq (c_dayFits x hx (clk t)) ?_
  rw [hdn]
  simp -implicitDefEqProofs
  exact HWk.new e5 (HWk.new h2 (HWk.refl _))
def outAV (r : Option Nat) : AV := .tup [.sc (.int .i64 (optN r : Int)), .sc (.int .i64 (errN r : Int))]
theorem c_last_bad {x : Ex} (hx : x.ok) {t : Int} (h : badE x t ≠ 0) : AOk Tryz.prog 72 [exAV x, .sc (.int .i64 t)] H (.tup [.sc (.int .i64 0), .sc (.int .i64 (badE x t))]) H := by
  refine ACalls.into Tryz.func72 rfl Tryz.ntmps72 Tryz.results72 (by simp) ?_
  simp -implicitDefEqProofs
  refine AAlloc.intro fun b2 h2 => ?_
  simp -implicitDefEqProofs
  refine ACall.eq (c_nmay x hx t) ?_
  generalize badE x t = e at *
  simp -implicitDefEqProofs [h]
  exact HWk.new h2 (HWk.refl _)
set_option maxHeartbeats 2000000 in
theorem c_last {x : Ex} (hx : x.ok) (hm : mayX x = true) {t : Nat} (ht : t < 13569465600) {r : Option Nat} (hr : IsLast x t r) : AOk Tryz.prog 72 [exAV x, .sc (.int .i64 t)] H (outAV r) H := by
  obtain ⟨D0, hD0⟩ : ∃ d, t / 86400 = d := ⟨_, rfl⟩
  obtain ⟨m0, hm0⟩ : ∃ d, t % 86400 = d := ⟨_, rfl⟩
  obtain ⟨m1, hm1⟩ : ∃ d, m0 / 60 = d := ⟨_, rfl⟩
  have hO := outL_init (x := x) ht
  rw [hD0, hm0, hm1] at hO
  have w1 : IntKind.i64.wrap ((t : Int) / 86400) = (D0 : Int) := wdiv (b := 86400) hD0 (by omega)
  have w2 : (t : Int).tmod 86400 = (m0 : Int) := wmod (b := 86400) hm0
  have w3 : IntKind.i64.wrap ((m0 : Int) / 60) = (m1 : Int) := wdiv (b := 60) hm1 (by omega)
  have e0 : badE x (t : Int) = 0 := by unfold badE; rw [if_neg (by simp [hm]), if_neg (by omega)]
  refine ACalls.into Tryz.func72 rfl Tryz.ntmps72 Tryz.results72 (by simp) ?_
  simp -implicitDefEqProofs
  refine AAlloc.intro fun b2 h2 => ?_
  simp -implicitDefEqProofs
  generalize hK : Heap.set _ b2 _ = K0
  have k2 : K0 b2 = some (.cells (exC x) 42) := by rw [← hK]; simp [Heap.set]
  have kW : HWk H K0 := by rw [← hK]; exact HWk.new h2 (HWk.refl _)
  clear hK
  refine ACall.eq (c_nmay x hx t) ?_
  rw [e0]
  simp -implicitDefEqProofs [w1, w2, w3]
  refine AGo.rounds (fun m ρ K => ∃ (D mm : Nat) (d : Int), m = D ∧ d = (D : Int) - 1 ∧ OutL x t D mm ∧ ρ 2 = .sc (.pointer (some ⟨b2, 0, none⟩)) ∧ ρ 7 = .sc (.int .i64 d) ∧ ρ 8 = .sc (.int .i64 mm) ∧ K b2 = some (.cells (exC x) 42) ∧ HWk H K) ?_ (m := D0 + 1) (HLe.refl _)
    ⟨D0 + 1, m1, D0, rfl, by omega, hO, by simp, by simp, by simp, k2, kW⟩
  rintro m ρ K ih ⟨D, mm, d, hmD, hd, hO, r2, r7, r8, k2, kW⟩
  subst hmD
  rcases m with _ | n
  · obtain rfl : d = -1 := by omega
    obtain rfl := last_one hr (outL_end hO)
    simp -implicitDefEqProofs [r7, outAV, optN, errN]
    exact kW
  · obtain rfl : d = (n : Int) := by omega
    have hn : n < 157054 := by have := hO.2.1; omega
    have hmm : mm ≤ 1439 := hO.1
    have hoM := fun h => outL_month (n := n) ht hO h
    have hcm := civ_month hn
    simp -implicitDefEqProofs [r7]
    refine ACall.eq (c_of hn) ?_
    generalize civ n = cv at *
    obtain ⟨Y, M, Dd⟩ := cv
    simp only at hcm hoM
    simp -implicitDefEqProofs
    refine AAlloc.intro fun b9 h9 => ?_
    have n29 : b2 ≠ b9 := by intro e; subst e; rw [k2] at h9; cases h9
    have n92 := n29.symm
    simp -implicitDefEqProofs [r2, n29, n92, k2]
    generalize hK : Heap.set K b9 _ = K1
    have k21 : K1 b2 = some (.cells (exC x) 42) := by rw [← hK]; simp [Heap.set, n29, k2]
    have k9 : K1 b9 = some (.cells [.sc (.int .i64 Y), .sc (.int .i64 M), .sc (.int .i64 Dd)] 46) := by rw [← hK]; simp [Heap.set]
    have kW1 : HWk H K1 := by rw [← hK]; exact HWk.new (kW.none h9) kW
    clear hK
    refine ACall.eq (c_has x.d M hx.d) ?_
    cases hM : hasB x.d.bits M with
    | false =>
      obtain ⟨q1, hq1⟩ : ∃ q, Dd - 1 = q := ⟨_, rfl⟩
      obtain ⟨q2, hq2⟩ : ∃ q, n - q1 = q := ⟨_, rfl⟩
      have w4 : IntKind.i64.wrap ((Dd : Int) - 1) = (q1 : Int) := wsub (b := 1) hq1 (by omega) (by omega)
      have w5 : IntKind.i64.wrap ((n : Int) - (q1 : Int)) = (q2 : Int) := wsub hq2 (by omega) (by omega)
      have w6 : IntKind.i64.wrap ((q2 : Int) - 1) = (q2 : Int) - 1 := wrap_i64 (by omega) (by omega)
      have hO' := hoM hM
      rw [show n + 1 - Dd = q2 by omega] at hO'
      simp -implicitDefEqProofs [r7, k9, w4, w5, w6]
      exact AGo.again ih (m' := q2) (by omega) (HLe.refl _) ⟨q2, 1439, _, rfl, rfl, hO', by simp [r2], by simp, by simp, k21, kW1⟩
    | true =>
      have w7 : IntKind.i64.wrap ((n : Int) - 1) = (n : Int) - 1 := wrap_i64 (by omega) (by omega)
      simp -implicitDefEqProofs [r2, r7, k21]
      refine ACall.eq (c_nfits x hx hn) ?_
      rw [hm]
      cases hdb : dayB x n with
      | false =>
        simp -implicitDefEqProofs [r7, w7]
        exact AGo.again ih (m' := n) (by omega) (HLe.refl _) ⟨n, 1439, _, rfl, rfl, outL_day ht hO hdb, by simp [r2], by simp, by simp, k21, kW1⟩
      | true =>
        obtain ⟨hh, hhh⟩ : ∃ q, mm / 60 = q := ⟨_, rfl⟩
        have w8 : IntKind.i64.wrap ((mm : Int) / 60) = (hh : Int) := wdiv (b := 60) hhh (by omega)
        have hI := inL_init hO hdb
        rw [hhh] at hI
        simp -implicitDefEqProofs [r8, w8]
        refine AGo.rounds (fun m ρ K => ∃ (HH m2 : Nat) (h : Int), m = HH ∧ h = (HH : Int) - 1 ∧ InL x t n HH (m2 % 60) ∧ m2 ≤ 1439 ∧ ρ 2 = .sc (.pointer (some ⟨b2, 0, none⟩)) ∧ ρ 7 = .sc (.int .i64 n) ∧ ρ 8 = .sc (.int .i64 m2) ∧ ρ 11 = .sc (.int .i64 h) ∧ K = K1) ?_ (m := hh + 1) (HLe.refl _)
          ⟨hh + 1, mm, hh, rfl, by omega, hI, hmm, by simp [r2], by simp [r7], by simp [r8], by simp, rfl⟩
        clear hI hmm hO r2 r7 r8 hoM
        rintro m' ρ' K ih2 ⟨HH, m2, hv, hmH, hhv, hI, hm2, r2, r7, r8, r11, rfl⟩
        subst hmH
        rcases m' with _ | h
        · obtain rfl : hv = -1 := by omega
          simp -implicitDefEqProofs [r11, r7, w7]
          exact AGo.again ih (m' := n) (by omega) (HLe.refl _) ⟨n, 1439, _, rfl, rfl, inL_end hI, by simp [r2], by simp, by simp, k21, kW1⟩
        · obtain rfl : hv = (h : Int) := by omega
          have hh24 : h ≤ 23 := by have := hI.2.1; omega
          simp -implicitDefEqProofs [r11, r2, k21]
          refine ACall.eq (c_top x.b h hx.b (by omega)) ?_
          cases htb : topB x.b.bits h with
          | none =>
            have hno := topB_none htb
            simp -implicitDefEqProofs [topAV, r7, w7]
            exact AGo.again ih (m' := n) (by omega) (HLe.refl _) ⟨n, 1439, _, rfl, rfl, inL_none ht hI (fun j hj => by rw [has_bit (by omega)]; exact hno j hj), by simp [r2], by simp, by simp, k21, kW1⟩
          | some h' =>
            obtain ⟨g1, g2, g3⟩ := topB_some htb
            have g2' : hasB x.b.bits (h' : Int) = true := by rw [has_bit (by omega)]; exact g2
            simp -implicitDefEqProofs [topAV, r11]
            refine ABr.join (fun ρ K' => K' = K ∧ ∃ m3 : Nat, m3 ≤ 1439 ∧ InL x t n (h' + 1) (m3 % 60) ∧ ρ 2 = .sc (.pointer (some ⟨b2, 0, none⟩)) ∧ ρ 7 = .sc (.int .i64 n) ∧ ρ 8 = .sc (.int .i64 m3) ∧ ρ 11 = .sc (.int .i64 h')) (fun k' hk' => ?_) ?_
            · by_cases hlt : h' < h
              · have hlt' : (h' : Int) < (h : Int) := by omega
                simp -implicitDefEqProofs [hlt, hlt']
                exact hk' _ _ ⟨rfl, 59, by omega, inL_down ht hI hlt (fun j j1 j2 => by rw [has_bit (by omega)]; exact g3 j j1 j2), by simp [r2], by simp [r7], by simp, by simp⟩
              · obtain rfl : h' = h := by omega
                simp -implicitDefEqProofs
                exact hk' _ _ ⟨rfl, m2, hm2, hI, by simp [r2], by simp [r7], by simp [r8], by simp [r11]⟩
            · clear r2 r7 r8 r11
              rintro ρ2 K' ⟨rfl, m3, hm3, hI3, r2, r7, r8, r11⟩
              obtain ⟨m4, hm4⟩ : ∃ q, m3 % 60 = q := ⟨_, rfl⟩
              have w9 : (m3 : Int).tmod 60 = (m4 : Int) := wmod (b := 60) hm4
              rw [hm4] at hI3
              have hm59 : m4 ≤ 59 := hI3.1
              simp -implicitDefEqProofs [r2, r8, k21, w9]
              refine ACall.eq (c_top x.a m4 hx.a hm59) ?_
              cases hta : topB x.a.bits m4 with
              | none =>
                have hno := topB_none hta
                have w10 : IntKind.i64.wrap ((h' : Int) - 1) = (h' : Int) - 1 := wrap_i64 (by omega) (by omega)
                simp -implicitDefEqProofs [topAV, r11, w10]
                exact AGo.again ih2 (m' := h') (by omega) (HLe.refl _) ⟨h', 59, _, rfl, rfl, inL_min ht hI3 (fun j hj => by rw [has_bit (by omega)]; exact hno j hj), by omega, by simp [r2], by simp [r7], by simp, by simp, rfl⟩
              | some m5 =>
                obtain ⟨f1, f2, f3⟩ := topB_some hta
                have f2' : hasB x.a.bits (m5 : Int) = true := by rw [has_bit (by omega)]; exact f2
                obtain rfl := last_one hr (inL_found ht hm hI3 g2' f2' f1 (fun j j1 j2 => by rw [has_bit (by omega)]; exact f3 j j1 j2))
                obtain ⟨P1, hP1⟩ : ∃ q, n * 86400 = q := ⟨_, rfl⟩
                obtain ⟨P2, hP2⟩ : ∃ q, h' * 3600 = q := ⟨_, rfl⟩
                obtain ⟨P3, hP3⟩ : ∃ q, P1 + P2 = q := ⟨_, rfl⟩
                obtain ⟨P4, hP4⟩ : ∃ q, m5 * 60 = q := ⟨_, rfl⟩
                obtain ⟨P5, hP5⟩ : ∃ q, P3 + P4 = q := ⟨_, rfl⟩
                have v1 : IntKind.i64.wrap ((n : Int) * 86400) = (P1 : Int) := wmul (b := 86400) hP1 (by omega)
                have v2 : IntKind.i64.wrap ((h' : Int) * 3600) = (P2 : Int) := wmul (b := 3600) hP2 (by omega)
                have v3 : IntKind.i64.wrap ((P1 : Int) + (P2 : Int)) = (P3 : Int) := wadd hP3 (by omega)
                have v4 : IntKind.i64.wrap ((m5 : Int) * 60) = (P4 : Int) := wmul (b := 60) hP4 (by omega)
                have v5 : IntKind.i64.wrap ((P3 : Int) + (P4 : Int)) = (P5 : Int) := wadd hP5 (by omega)
                rw [hP1, hP2, hP3, hP4, hP5]
                simp -implicitDefEqProofs [topAV, r7, r11, v1, v2, v3, v4, v5, outAV, optN, errN]
                exact kW1
end Go.Proofs.YtmoncokklkiikaaGreatDoor
namespace Go.Proofs.YtmoncokklkiikaaGreatDoor
open Rg Go Go.RowKit
variable {W0 w : World} {C : Com} {H : Heap}
def GlobT (H : Heap) : Prop := ∃ us, H 0 = some (.ro us) ∧ ∀ j, j < Lib.deBruijn64tab.length → us[j]? = some (.int .u8 (Lib.deBruijn64tab.getD j 0))
theorem GlobT.wk {H K : Heap} (h : GlobT H) (hk : HLe H K) : GlobT K := by
  obtain ⟨us, h1, h2⟩ := h
  exact ⟨us, hk _ _ h1, h2⟩
theorem GlobT.new {H : Heap} {b : Nat} {o : AObj} (h : GlobT H) (hb : H b = none) : GlobT (H.set b o) := h.wk (HLe.set_fresh hb)
theorem GlobT.tab (h : GlobT H) (hi : Inv W0 C H w) : TabAt 0 Lib.deBruijn64tab w := by
  obtain ⟨u, h1, g1⟩ := h
  exact fun j hj => hi.ro h1 (g1 j hj)
theorem c_ctz64T (hG : GlobT H) (x : Nat) (hx : x < 18446744073709551616) : AOk Tryz.prog 191 [.sc (.int .u64 x)] H (.sc (.int .i64 (Lib.ctz 64 x))) H :=
  AOk.kit (vs := [.int .u64 x]) (r := .int .i64 (Lib.ctz 64 x)) fun W0 C w hi => (Any7.bits_TrailingZeros64 Tryz.lays7x29 x hx w (fun _ => hG.tab hi)).mono fun e w' ⟨h1, h2⟩ => ⟨h1, h2 ▸ Below.refl _ _⟩
theorem c_firstT (hG : GlobT H) (f : Fld) (n : Int) (hf : f.bits < 18446744073709551616) : AOk Tryz.prog 152 [fAV f, .sc (.int .i64 n)] H (optAV (firstB f.bits n)) H := by
  rw [firstB_eq]
  have hmax : (if 0 < n then n else 0) = (n.toNat : Int) := by split <;> omega
  generalize n.toNat = m at *
  refine ACalls.into Tryz.func152 rfl Tryz.ntmps152 Tryz.results152 (by simp) ?_
  simp -implicitDefEqProofs [fAV]
  refine AAlloc.intro fun b hb => ?_
  by_cases h1 : 63 < m
  · have h1' : (63 : Int) < m := by omega
    simp -implicitDefEqProofs [hmax, h1, h1', optAV]
    exact HWk.new hb (HWk.refl _)
  · have h1' : ¬ (63 : Int) < m := by omega
    have hm : min m 64 = m := by omega
    have hsh := shr_lt m hf
    by_cases h2 : shr f.bits m = 0
    · simp -implicitDefEqProofs [hmax, h1, h1', hm, shr_nat, h2, optAV]
      exact HWk.new hb (HWk.refl _)
    · simp -implicitDefEqProofs [hmax, h1, h1', hm, shr_nat, h2]
      refine ACall.eq (c_ctz64T (hG.new hb) _ hsh) ?_
      have hc := ctz_le _ hsh
      have hw : IntKind.i64.wrap ((m : Int) + (Lib.ctz 64 (shr f.bits m) : Nat)) = ((m + Lib.ctz 64 (shr f.bits m) : Nat) : Int) := by rw [wrap_i64 (by omega) (by omega)]; push_cast; rfl
      simp -implicitDefEqProofs [hw, optAV]
      exact HWk.new hb (HWk.refl _)
def fromAV : Option Nat → AV
  | some n => .tup [.sc (.int .i64 (n : Int)), .sc (.bool true)]
  | none => .tup [.sc (.int .i64 0), .sc (.bool false)]
set_option maxHeartbeats 2000000 in
theorem c_from (hG : GlobT H) {x : Ex} (hx : x.ok) (hm : mayX x = true) {t T : Nat} (ht : t < 13569465600) (hT : t / 60 * 60 + 60 = T) {r : Option Nat} (hr : IsNext x t r) : AOk Tryz.prog 104 [exAV x, .sc (.int .i64 T)] H (fromAV r) H := by
  obtain ⟨n0, hn0⟩ : ∃ d, T / 86400 = d := ⟨_, rfl⟩
  obtain ⟨m0, hm0⟩ : ∃ d, T % 86400 = d := ⟨_, rfl⟩
  obtain ⟨m1, hm1⟩ : ∃ d, m0 / 60 = d := ⟨_, rfl⟩
  have hO := outN_init (x := x) ht
  rw [hT, hn0, hm0, hm1] at hO
  have hT2 : T < 13569465661 := by omega
  clear hT
  obtain ⟨hba, hbb⟩ := bits_ok hx hm
  have w1 : IntKind.i64.wrap ((T : Int) / 86400) = (n0 : Int) := wdiv (b := 86400) hn0 (by omega)
  have w2 : (T : Int).tmod 86400 = (m0 : Int) := wmod (b := 86400) hm0
  have w3 : IntKind.i64.wrap ((m0 : Int) / 60) = (m1 : Int) := wdiv (b := 60) hm1 (by omega)
  refine ACalls.into Tryz.func104 rfl Tryz.ntmps104 Tryz.results104 (by simp) ?_
  simp -implicitDefEqProofs
  refine AAlloc.intro fun b2 h2 => ?_
  simp -implicitDefEqProofs
  generalize hK : Heap.set _ b2 _ = K0
  have k2 : K0 b2 = some (.cells (exC x) 42) := by rw [← hK]; simp [Heap.set]
  have kG : GlobT K0 := by rw [← hK]; exact hG.new h2
  have kW : HWk H K0 := by rw [← hK]; exact HWk.new h2 (HWk.refl _)
  clear hK
  simp -implicitDefEqProofs [w1, w2, w3]
  refine AGo.rounds (fun m ρ K => ∃ (n mm : Nat), m = 157054 - n ∧ OutN x t n mm ∧ ρ 2 = .sc (.pointer (some ⟨b2, 0, none⟩)) ∧ ρ 6 = .sc (.int .i64 n) ∧ ρ 7 = .sc (.int .i64 mm) ∧ K b2 = some (.cells (exC x) 42) ∧ GlobT K ∧ HWk H K) ?_ (m := 157054 - n0) (HLe.refl _)
    ⟨n0, m1, rfl, hO, by simp, by simp, by simp, k2, kG, kW⟩
  clear kG kW k2 hO
  rintro m ρ K ih ⟨n, mm, rfl, hO, r2, r6, r7, k2, kG, kW⟩
  by_cases hn : n < 157054
  · have hnI : (n : Int) < 157054 := by omega
    have hmm : mm ≤ 1439 := hO.1
    have hoM := fun h => outN_month hO hn h
    have hcm := civ_month hn
    simp -implicitDefEqProofs [r6, hn, hnI]
    refine ACall.eq (c_of hn) ?_
    generalize civ n = cv at *
    obtain ⟨Y, M, Dd⟩ := cv
    simp only at hcm hoM
    simp -implicitDefEqProofs
    refine AAlloc.intro fun b9 h9 => ?_
    have n29 : b2 ≠ b9 := by intro e; subst e; rw [k2] at h9; cases h9
    have n92 := n29.symm
    simp -implicitDefEqProofs [r2, n29, n92, k2]
    generalize hK : Heap.set K b9 _ = K1
    have k21 : K1 b2 = some (.cells (exC x) 42) := by rw [← hK]; simp [Heap.set, n29, k2]
    have k9 : K1 b9 = some (.cells [.sc (.int .i64 Y), .sc (.int .i64 M), .sc (.int .i64 Dd)] 46) := by rw [← hK]; simp [Heap.set]
    have kG1 : GlobT K1 := by rw [← hK]; exact kG.new h9
    have kW1 : HWk H K1 := by rw [← hK]; exact HWk.new (kW.none h9) kW
    clear hK
    obtain ⟨nn, hnn⟩ : ∃ q, n + 1 = q := ⟨_, rfl⟩
    have w7 : IntKind.i64.wrap ((n : Int) + 1) = (nn : Int) := wadd (b := 1) hnn (by omega)
    refine ACall.eq (c_has x.d M hx.d) ?_
    cases hM : hasB x.d.bits M with
    | false =>
      have hlong : longI (Y : Int) (M : Int) = (mLong Y M : Int) := long_nat Y (by omega) (by omega)
      have hO' := hoM hM
      generalize mLong Y M = L at *
      obtain ⟨q1, hq1⟩ : ∃ q, L - Dd = q := ⟨_, rfl⟩
      obtain ⟨q2, hq2⟩ : ∃ q, n + q1 = q := ⟨_, rfl⟩
      obtain ⟨q3, hq3⟩ : ∃ q, q2 + 1 = q := ⟨_, rfl⟩
      have w4 : IntKind.i64.wrap ((L : Int) - (Dd : Int)) = (q1 : Int) := wsub hq1 (by omega) (by omega)
      have w5 : IntKind.i64.wrap ((n : Int) + (q1 : Int)) = (q2 : Int) := wadd hq2 (by omega)
      have w6 : IntKind.i64.wrap ((q2 : Int) + 1) = (q3 : Int) := wadd (b := 1) hq3 (by omega)
      rw [hq1, hq2, hq3] at hO'
      simp -implicitDefEqProofs
      refine go_draw 11 f_mixed (by decide +kernel) ?_
      simp -implicitDefEqProofs [r6, k9]
      refine AQS.eq (c_long (Y : Int) (M : Int)) ?_
      rw [hlong]
      simp -implicitDefEqProofs [r6, k9, w4, w5, w6]
      exact AGo.again ih (m' := 157054 - q3) (by omega) (HLe.refl _) ⟨q3, 0, rfl, hO', by simp [r2], by simp, by simp, k21, kG1, kW1⟩
    | true =>
      simp -implicitDefEqProofs [r2, r6, k21]
      refine ACall.eq (c_nfits x hx hn) ?_
      rw [hm]
      cases hdb : dayB x n with
      | false =>
        have hO' := outN_day hO hn hdb
        rw [hnn] at hO'
        simp -implicitDefEqProofs [r6, w7]
        exact AGo.again ih (m' := 157054 - nn) (by omega) (HLe.refl _) ⟨nn, 0, rfl, hO', by simp [r2], by simp, by simp, k21, kG1, kW1⟩
      | true =>
        obtain ⟨hh, hhh⟩ : ∃ q, mm / 60 = q := ⟨_, rfl⟩
        have w8 : IntKind.i64.wrap ((mm : Int) / 60) = (hh : Int) := wdiv (b := 60) hhh (by omega)
        have hI := inN_init hO hn hdb
        rw [hhh] at hI
        simp -implicitDefEqProofs [r7, w8]
        refine AGo.rounds (fun m ρ K => ∃ (h m2 : Nat), m = 25 - h ∧ InN x t n h (m2 % 60) ∧ m2 ≤ 1439 ∧ ρ 2 = .sc (.pointer (some ⟨b2, 0, none⟩)) ∧ ρ 6 = .sc (.int .i64 n) ∧ ρ 7 = .sc (.int .i64 m2) ∧ ρ 10 = .sc (.int .i64 h) ∧ K = K1) ?_ (m := 25 - hh) (HLe.refl _)
          ⟨hh, mm, rfl, hI, hmm, by simp [r2], by simp [r6], by simp [r7], by simp, rfl⟩
        clear hI hmm hO r2 r6 r7 hoM
        rintro m' ρ' K ih2 ⟨h, m2, rfl, hI, hm2, r2, r6, r7, r10, rfl⟩
        simp -implicitDefEqProofs [r10, r2, k21]
        refine ACall.eq (c_firstT kG1 x.b h hx.b) ?_
        cases htb : firstB x.b.bits (h : Int) with
        | none =>
          have hno := firstB_none hx.b htb
          have hO' := inN_none hI (fun j hj => by
            by_cases j64 : j ≤ 63
            · rw [has_bit j64]; exact hno j (by simpa using hj)
            · unfold hasB; rw [decide_eq_false (by omega : ¬ (j : Int) ≤ 63)]; simp)
          rw [hnn] at hO'
          simp -implicitDefEqProofs [optAV, r6, w7]
          exact AGo.again ih (m' := 157054 - nn) (by omega) (HLe.refl _) ⟨nn, 0, rfl, hO', by simp [r2], by simp, by simp, k21, kG1, kW1⟩
        | some h' =>
          obtain ⟨g1, g0, g2, g3⟩ := firstB_some hx.b htb
          simp only [Int.toNat_natCast] at g1 g3
          have g4 := hbb h' g2
          have g2' : hasB x.b.bits (h' : Int) = true := by rw [has_bit g0]; exact g2
          simp -implicitDefEqProofs [optAV, r10]
          refine ABr.join (fun ρ K' => K' = K ∧ ∃ m3 : Nat, m3 ≤ 1439 ∧ InN x t n h' (m3 % 60) ∧ ρ 2 = .sc (.pointer (some ⟨b2, 0, none⟩)) ∧ ρ 6 = .sc (.int .i64 n) ∧ ρ 7 = .sc (.int .i64 m3) ∧ ρ 10 = .sc (.int .i64 h')) (fun k' hk' => ?_) ?_
          · by_cases hlt : h < h'
            · have hlt' : (h : Int) < (h' : Int) := by omega
              simp -implicitDefEqProofs [hlt, hlt']
              exact hk' _ _ ⟨rfl, 0, by omega, inN_up hI hlt (by omega) (fun j j1 j2 => by rw [has_bit (by omega)]; exact g3 j j1 j2), by simp [r2], by simp [r6], by simp, by simp⟩
            · obtain rfl : h' = h := by omega
              simp -implicitDefEqProofs
              exact hk' _ _ ⟨rfl, m2, hm2, hI, by simp [r2], by simp [r6], by simp [r7], by simp [r10]⟩
          · clear r2 r6 r7 r10
            rintro ρ2 K' ⟨rfl, m3, hm3, hI3, r2, r6, r7, r10⟩
            obtain ⟨m4, hm4⟩ : ∃ q, m3 % 60 = q := ⟨_, rfl⟩
            have w9 : (m3 : Int).tmod 60 = (m4 : Int) := wmod (b := 60) hm4
            rw [hm4] at hI3
            have hm59 : m4 ≤ 59 := hI3.1
            simp -implicitDefEqProofs [r2, r7, k21, w9]
            refine ACall.eq (c_firstT kG1 x.a m4 hx.a) ?_
            cases hta : firstB x.a.bits (m4 : Int) with
            | none =>
              have hno := firstB_none hx.a hta
              obtain ⟨h2, hh2⟩ : ∃ q, h' + 1 = q := ⟨_, rfl⟩
              have w10 : IntKind.i64.wrap ((h' : Int) + 1) = (h2 : Int) := wadd (b := 1) hh2 (by omega)
              have hI' := inN_min hI3 (by omega) (fun j hj => by
                by_cases j64 : j ≤ 63
                · rw [has_bit j64]; exact hno j (by simpa using hj)
                · unfold hasB; rw [decide_eq_false (by omega : ¬ (j : Int) ≤ 63)]; simp)
              rw [hh2] at hI'
              simp -implicitDefEqProofs [optAV, r10, w10]
              exact AGo.again ih2 (m' := 25 - h2) (by omega) (HLe.refl _) ⟨h2, 0, rfl, hI', by omega, by simp [r2], by simp [r6], by simp, by simp, rfl⟩
            | some m5 =>
              obtain ⟨f1, f0, f2, f3⟩ := firstB_some hx.a hta
              simp only [Int.toNat_natCast] at f1 f3
              have f4 := hba m5 f2
              have f2' : hasB x.a.bits (m5 : Int) = true := by rw [has_bit f0]; exact f2
              obtain rfl := next_one hr (inN_found hm hI3 (by omega) g2' f2' f1 (by omega) (fun j j1 j2 => by rw [has_bit (by omega)]; exact f3 j j1 j2))
              obtain ⟨P1, hP1⟩ : ∃ q, n * 86400 = q := ⟨_, rfl⟩
              obtain ⟨P2, hP2⟩ : ∃ q, h' * 3600 = q := ⟨_, rfl⟩
              obtain ⟨P3, hP3⟩ : ∃ q, P1 + P2 = q := ⟨_, rfl⟩
              obtain ⟨P4, hP4⟩ : ∃ q, m5 * 60 = q := ⟨_, rfl⟩
              obtain ⟨P5, hP5⟩ : ∃ q, P3 + P4 = q := ⟨_, rfl⟩
              have v1 : IntKind.i64.wrap ((n : Int) * 86400) = (P1 : Int) := wmul (b := 86400) hP1 (by omega)
              have v2 : IntKind.i64.wrap ((h' : Int) * 3600) = (P2 : Int) := wmul (b := 3600) hP2 (by omega)
              have v3 : IntKind.i64.wrap ((P1 : Int) + (P2 : Int)) = (P3 : Int) := wadd hP3 (by omega)
              have v4 : IntKind.i64.wrap ((m5 : Int) * 60) = (P4 : Int) := wmul (b := 60) hP4 (by omega)
              have v5 : IntKind.i64.wrap ((P3 : Int) + (P4 : Int)) = (P5 : Int) := wadd hP5 (by omega)
              rw [hP1, hP2, hP3, hP4, hP5]
              simp -implicitDefEqProofs [optAV, r6, r10, v1, v2, v3, v4, v5, fromAV]
              exact kW1
  · obtain rfl : n = 157054 := by have := hO.2.1; omega
    obtain rfl := next_one hr (outN_end hO)
    simp -implicitDefEqProofs [r6, fromAV]
    exact kW
theorem c_after_bad {x : Ex} (hx : x.ok) {t : Int} (h : badE x t ≠ 0) : AOk Tryz.prog 32 [exAV x, .sc (.int .i64 t)] H (.tup [.sc (.int .i64 0), .sc (.int .i64 (badE x t))]) H := by
  refine ACalls.into Tryz.func32 rfl Tryz.ntmps32 Tryz.results32 (by simp) ?_
  simp -implicitDefEqProofs
  refine AAlloc.intro fun b2 h2 => ?_
  simp -implicitDefEqProofs
  refine ACall.eq (c_nmay x hx t) ?_
  generalize badE x t = e at *
  simp -implicitDefEqProofs [h]
  exact HWk.new h2 (HWk.refl _)
theorem badE_ok {x : Ex} (hm : mayX x = true) {t : Nat} (ht : t < 13569465600) : badE x (t : Int) = 0 := by
  unfold badE
  rw [if_neg (by simp [hm]), if_neg (by omega)]
theorem c_after (hG : GlobT H) {x : Ex} (hx : x.ok) (hm : mayX x = true) {t : Nat} (ht : t < 13569465600) {r : Option Nat} (hr : IsNext x t r) : AOk Tryz.prog 32 [exAV x, .sc (.int .i64 t)] H (outAV r) H := by
  obtain ⟨q, hq⟩ : ∃ q, t % 60 = q := ⟨_, rfl⟩
  obtain ⟨z, hz⟩ : ∃ q, t / 60 * 60 = q := ⟨_, rfl⟩
  obtain ⟨T, hT⟩ : ∃ q, z + 60 = q := ⟨_, rfl⟩
  have w1 : (t : Int).tmod 60 = (q : Int) := wmod (b := 60) hq
  have w2 : IntKind.i64.wrap ((t : Int) - (q : Int)) = (z : Int) := wsub (by omega) (by omega) (by omega)
  have w3 : IntKind.i64.wrap ((z : Int) + 60) = (T : Int) := wadd (b := 60) hT (by omega)
  have hf := fun (K : Heap) (kG : GlobT K) => c_from kG hx hm ht (T := T) (by omega) hr
  refine ACalls.into Tryz.func32 rfl Tryz.ntmps32 Tryz.results32 (by simp) ?_
  simp -implicitDefEqProofs
  refine AAlloc.intro fun b2 h2 => ?_
  have kG := fun o => hG.new (o := o) h2
  simp -implicitDefEqProofs
  refine ACall.eq (c_nmay x hx t) ?_
  rw [badE_ok hm ht]
  simp -implicitDefEqProofs [w1, w2, w3]
  refine ACall.eq (hf _ (kG _)) ?_
  cases r with
  | none =>
    simp -implicitDefEqProofs [fromAV, outAV, optN, errN]
    exact HWk.new h2 (HWk.refl _)
  | some n =>
    simp -implicitDefEqProofs [fromAV, outAV, optN, errN]
    exact HWk.new h2 (HWk.refl _)
end Go.Proofs.YtmoncokklkiikaaGreatDoor
namespace Go.Proofs.YtmoncokklkiikaaGreatDoor
open Rg Go
theorem i64_lies (z : Int) : (i64 z).lies = true := rfl
theorem i64_cells (z : Int) : (i64 z).cells = [i64 z] := rfl
variable {H : Heap}
def Turned (L M : List Int) (i : Nat) : Prop :=
  M.length = L.length ∧ ∀ k, k < L.length → M[k]? = if k < i ∨ L.length ≤ k + i then L[L.length - 1 - k]? else L[k]?
theorem Turned.zero (L : List Int) : Turned L L 0 := ⟨rfl, fun k hk => by rw [if_neg (by omega)]⟩
theorem Turned.step {L M : List Int} {i j : Nat} (h : Turned L M i) (hij : i < j) (hj : i + j + 1 = L.length) {x y : Int} (hx : M[i]? = some x) (hy : M[j]? = some y) : Turned L ((M.set i y).set j x) (i + 1) := by
  refine ⟨by simp [h.1], fun k hk => ?_⟩
  have hM := h.1
  have hi := h.2 i (by omega)
  have hj' := h.2 j (by omega)
  rw [if_neg (by omega), hx] at hi
  rw [if_neg (by omega), hy] at hj'
  by_cases k1 : k = j
  · subst k1
    rw [List.getElem?_set_self (by simp; omega), if_pos (by omega), show L.length - 1 - k = i by omega, hi]
  · rw [List.getElem?_set_ne (by omega)]
    by_cases k2 : k = i
    · subst k2
      rw [List.getElem?_set_self (by omega), if_pos (by omega), show L.length - 1 - k = j by omega, hj']
    · rw [List.getElem?_set_ne (by omega), h.2 k hk]
      by_cases k3 : k < i ∨ L.length ≤ k + i
      · rw [if_pos k3, if_pos (by omega)]
      · rw [if_neg k3, if_neg (by omega)]
theorem Turned.fin {L M : List Int} {i : Nat} (h : Turned L M i) (hi : L.length ≤ 2 * i + 1) : M = L.reverse := by
  apply List.ext_getElem?
  intro k
  by_cases hk : k < L.length
  · rw [h.2 k hk, List.getElem?_reverse hk]
    by_cases h2 : k < i ∨ L.length ≤ k + i
    · rw [if_pos h2]
    · rw [if_neg h2, show L.length - 1 - k = k by omega]
  · rw [List.getElem?_eq_none (by rw [h.1]; omega), List.getElem?_eq_none (by simp; omega)]
set_option maxHeartbeats 1000000 in
theorem c_reverse_nil : AOk Tryz.prog 85 [.sc (.slice none 0 0)] H (.tup []) H := by
  have hw : IntKind.i64.wrap (-1) = -1 := by decide
  refine ACalls.into Tryz.func85 rfl Tryz.ntmps85 Tryz.results85 (by simp) ?_
  simp -implicitDefEqProofs [hw]
  refine AGo.rounds (fun _ ρ K => ρ 2 = .sc (.int .i64 0) ∧ ρ 3 = .sc (.int .i64 (-1)) ∧ K = H) ?_ (m := 0) (HLe.refl _) ⟨by simp, by simp, rfl⟩
  rintro m ρ K _ ⟨r2, r3, rfl⟩
  simp -implicitDefEqProofs [r2, r3]
set_option maxHeartbeats 2000000 in
theorem c_reverse {g : Nat} {L : List Int} {zs : List AV} {cap : Nat} (hg : H g = some (.cells (L.map i64 ++ zs) 2)) (hL : L.length ≤ 1000000) :
    AOk Tryz.prog 85 [.sc (.slice (some ⟨g, 0, none⟩) L.length cap)] H (.tup []) (H.set g (.cells (L.reverse.map i64 ++ zs) 2)) := by
  obtain ⟨N, hN⟩ : ∃ N, L.length = N := ⟨_, rfl⟩
  have hw : IntKind.i64.wrap ((N : Int) - 1) = (N : Int) - 1 := wrap_i64 (by omega) (by omega)
  rw [hN]
  refine ACalls.into Tryz.func85 rfl Tryz.ntmps85 Tryz.results85 (by simp) ?_
  simp -implicitDefEqProofs [hw]
  refine AGo.rounds (fun m ρ K => ∃ (i : Nat) (M : List Int), m = N - i ∧ 2 * i ≤ N ∧ Turned L M i ∧ ρ 0 = .sc (.slice (some ⟨g, 0, none⟩) N cap) ∧ ρ 2 = .sc (.int .i64 i) ∧ ρ 3 = .sc (.int .i64 ((N : Int) - 1 - i)) ∧ K = H.set g (.cells (M.map i64 ++ zs) 2)) ?_ (m := N) (HLe.refl _)
    ⟨0, L, by omega, by omega, Turned.zero L, by simp, by simp, by simp, by funext c; simp only [Heap.set]; split <;> simp_all⟩
  rintro m ρ K ih ⟨i, M, rfl, hi, hT, r0, r2, r3, rfl⟩
  have hM := hT.1
  by_cases hlt : (i : Int) < (N : Int) - 1 - i
  · obtain ⟨j, hj⟩ : ∃ j, i + j + 1 = N := ⟨N - 1 - i, by omega⟩
    have ej : (N : Int) - 1 - i = (j : Int) := by omega
    rw [ej] at hlt r3
    have hij : i < j := by omega
    have hjn : j < N := by omega
    have hin : i < N := by omega
    obtain ⟨x, hx⟩ : ∃ x, M[i]? = some x := ⟨M[i]'(by omega), List.getElem?_eq_getElem _⟩
    obtain ⟨y, hy⟩ : ∃ y, M[j]? = some y := ⟨M[j]'(by omega), List.getElem?_eq_getElem _⟩
    have cx : (M.map i64 ++ zs)[i]? = some (i64 x) := by rw [List.getElem?_append_left (by simp; omega), List.getElem?_map, hx]; rfl
    have cy : (M.map i64 ++ zs)[j]? = some (i64 y) := by rw [List.getElem?_append_left (by simp; omega), List.getElem?_map, hy]; rfl
    have e2 : ((M.map i64).set i (i64 y) ++ zs).set j (i64 x) = ((M.map i64).set i (i64 y)).set j (i64 x) ++ zs := List.set_append_left _ _ (by simp; omega)
    have l1 : i + 1 ≤ M.length + zs.length := by omega
    have l2 : j + 1 ≤ M.length + zs.length := by omega
    have w1 : IntKind.i64.wrap ((i : Int) + 1) = ((i + 1 : Nat) : Int) := wadd (b := 1) rfl (by omega)
    have w2 : IntKind.i64.wrap ((j : Int) - 1) = (j : Int) - 1 := wrap_i64 (by omega) (by omega)
    simp -implicitDefEqProofs [r2, r3, hlt]
    refine go_draw3 [0, 1, 2, 3, 4, 5, 6, 8, 9, 10] _ f_mixed (by decide +kernel) HC.nothing ?_
    simp -implicitDefEqProofs []
    repeat (refine aq3_op ?_; simp -implicitDefEqProofs [r0, r2, r3, hin, hjn])
    refine AWK.two 7 11 (by decide +kernel) ?_ ?_
    · refine AWE.op rfl ?_
      simp -implicitDefEqProofs [cy]
      refine AWK.one 11 (by decide +kernel) ?_
      refine AWE.op rfl ?_
      simp -implicitDefEqProofs [cx]
      refine AWK.one 12 (by decide +kernel) ?_
      refine AWE.op rfl ?_
      simp -implicitDefEqProofs [hin]
      refine AWK.one 13 (by decide +kernel) ?_
      refine AWE.op rfl ?_
      simp -implicitDefEqProofs [l1, i64_lies, i64_cells]
      refine AWS.store (by exact if_pos rfl) (HC.setn HC.nothing rfl) ?_
      refine AWK.one 14 (by decide +kernel) ?_
      refine AWE.op rfl ?_
      simp -implicitDefEqProofs [hjn]
      refine AWK.one 15 (by decide +kernel) ?_
      refine AWE.op rfl ?_
      simp -implicitDefEqProofs [l2, i64_lies, i64_cells]
      refine AWS.store (by exact if_pos rfl) (HC.setn HC.nothing rfl) ?_
      refine AWK.fin (by decide +kernel) ?_
      simp -implicitDefEqProofs [r2, r3, w1, w2]
      refine AGo.again ih (m' := N - (i + 1)) (by omega) (HLe.refl _) ?_
      exact ⟨i + 1, (M.set i y).set j x, rfl, by omega, hT.step hij (by omega) hx hy, by simp [r0], by simp, by simp; omega, by rw [List.map_set, List.map_set, List.set_append_left _ _ (by simp; omega : i < (M.map i64).length), e2]⟩
    · refine AWE.op rfl ?_
      simp -implicitDefEqProofs [cx]
      refine AWK.one 7 (by decide +kernel) ?_
      refine AWE.op rfl ?_
      simp -implicitDefEqProofs [cy]
      refine AWK.one 12 (by decide +kernel) ?_
      refine AWE.op rfl ?_
      simp -implicitDefEqProofs [hin]
      refine AWK.one 13 (by decide +kernel) ?_
      refine AWE.op rfl ?_
      simp -implicitDefEqProofs [l1, i64_lies, i64_cells]
      refine AWS.store (by exact if_pos rfl) (HC.setn HC.nothing rfl) ?_
      refine AWK.one 14 (by decide +kernel) ?_
      refine AWE.op rfl ?_
      simp -implicitDefEqProofs [hjn]
      refine AWK.one 15 (by decide +kernel) ?_
      refine AWE.op rfl ?_
      simp -implicitDefEqProofs [l2, i64_lies, i64_cells]
      refine AWS.store (by exact if_pos rfl) (HC.setn HC.nothing rfl) ?_
      refine AWK.fin (by decide +kernel) ?_
      simp -implicitDefEqProofs [r2, r3, w1, w2]
      refine AGo.again ih (m' := N - (i + 1)) (by omega) (HLe.refl _) ?_
      exact ⟨i + 1, (M.set i y).set j x, rfl, by omega, hT.step hij (by omega) hx hy, by simp [r0], by simp, by simp; omega, by rw [List.map_set, List.map_set, List.set_append_left _ _ (by simp; omega : i < (M.map i64).length), e2]⟩
  · simp -implicitDefEqProofs [r2, r3, hlt]
    rw [hT.fin (by omega), List.map_reverse]
    exact HWk.refl _
theorem c_reverseR {H0 : Heap} {L : List Int} {v : AV} (hR : RawRow H0 2 (L.map i64) v H) (hL : L.length ≤ 1000000) :
    ACalls Tryz.prog 85 [v] H (fun _ K => RawRow H0 2 (L.reverse.map i64) v K) := by
  obtain ⟨hle, ⟨h1, rfl⟩ | ⟨g, zs, hg, rfl, hK, hm⟩⟩ := hR
  · refine ACalls.mono (c_reverse_nil (H := H)) fun r K ⟨e1, e2⟩ => ?_
    obtain rfl : L = [] := by simpa using h1
    subst e2
    exact RawRow.none.le hle
  · have hc := c_reverse (cap := (L.map i64).length + zs.length) hK hL
    rw [List.length_map] at hc ⊢
    refine ACalls.mono hc fun r K ⟨e1, e2⟩ => ?_
    subst e2
    refine ⟨HLe.set_new hle hg, .inr ⟨g, zs, hg, by simp, by simp [Heap.set], by simpa using hm⟩⟩
end Go.Proofs.YtmoncokklkiikaaGreatDoor
namespace Go.Proofs.YtmoncokklkiikaaGreatDoor
open Rg Go
variable {H : Heap}
abbrev u8s (l : List UInt8) : List AV := l.map fun c : UInt8 => .sc (.int .u8 (c.toNat : Int))
theorem u8s_app (a b : List UInt8) : u8s (a ++ b) = u8s a ++ u8s b := by simp
theorem u8s_one (a : List UInt8) : ∀ x ∈ u8s a, x.cells = [x] := fun x hx => by obtain ⟨c, _, rfl⟩ := List.mem_map.1 hx; rfl
theorem szs_u8s (a : List UInt8) : szs 1 (u8s a) = true := by simp [szs, AV.cells]
def putK : Nat → Nat → List UInt8
  | 0, n => [UInt8.ofNat n]
  | f + 1, n => if n < 128 then [UInt8.ofNat n] else UInt8.ofNat (n % 128 + 128) :: putK f (n / 128)
def putB (n : Nat) : List UInt8 := putK 9 n
theorem putK_len : ∀ f n, (putK f n).length ≤ f + 1
  | 0, n => by simp [putK]
  | f + 1, n => by
    unfold putK
    split
    · simp
    · have := putK_len f (n / 128)
      simp; omega
theorem putB_len (n : Nat) : (putB n).length ≤ 10 := putK_len 9 n
theorem putK_pos : ∀ f n, 0 < (putK f n).length
  | 0, n => by simp [putK]
  | f + 1, n => by unfold putK; split <;> simp
def takeGo : List UInt8 → Nat → Nat → Option (Nat × Nat)
  | [], _, _ => none
  | x :: r, i, acc => if (i = 9 ∧ 1 < x.toNat) ∨ (0 < i ∧ x.toNat = 0) then none else
    if x.toNat < 128 then some (acc + x.toNat % 128 * 128 ^ i, i + 1) else takeGo r (i + 1) (acc + x.toNat % 128 * 128 ^ i)
def takeK (b : List UInt8) (a : Nat) : Nat × Nat × Nat :=
  match takeGo (b.drop a) 0 0 with
  | some (n, k) => (n, a + k, 0)
  | none => (0, 0, 4)
theorem take_put : ∀ (f n i acc : Nat) (post : List UInt8), i + f = 9 → n < 2 * 128 ^ f → (i = 0 ∨ 0 < n) → takeGo (putK f n ++ post) i acc = some (acc + n * 128 ^ i, i + (putK f n).length)
  | 0, n, i, acc, post, hi, hn, h0 => by
    have e : (UInt8.ofNat n).toNat = n := by simp; omega
    simp only [putK, List.cons_append, takeGo, e]
    rw [if_neg (by omega), if_pos (by omega), Nat.mod_eq_of_lt (by omega)]
    rfl
  | f + 1, n, i, acc, post, hi, hn, h0 => by
    unfold putK
    by_cases h : n < 128
    · have e : (UInt8.ofNat n).toNat = n := by simp; omega
      rw [if_pos h]
      simp only [List.cons_append, takeGo, e]
      rw [if_neg (by omega), if_pos (by omega), Nat.mod_eq_of_lt (by omega)]
      rfl
    · have e : (UInt8.ofNat (n % 128 + 128)).toNat = n % 128 + 128 := by simp; omega
      rw [if_neg h]
      simp only [List.cons_append, takeGo, e]
      rw [if_neg (by omega), if_neg (by omega), take_put f (n / 128) (i + 1) _ post (by omega) (by rw [Nat.pow_succ] at hn; omega) (by omega)]
      have e2 : (n % 128 + 128) % 128 = n % 128 := by omega
      rw [e2, Nat.pow_succ]
      simp only [List.length_cons, Option.some.injEq, Prod.mk.injEq]
      refine ⟨?_, by omega⟩
      have h1 : n % 128 * 128 ^ i + n / 128 * (128 ^ i * 128) = n * 128 ^ i := by
        have := Nat.mod_add_div n 128
        calc n % 128 * 128 ^ i + n / 128 * (128 ^ i * 128) = (n % 128 + 128 * (n / 128)) * 128 ^ i := by
              rw [Nat.add_mul]
              congr 1
              rw [Nat.mul_comm (128 ^ i) 128, ← Nat.mul_assoc, Nat.mul_comm (n / 128) 128]
          _ = n * 128 ^ i := by rw [this]
      omega
theorem takeK_put (pre post : List UInt8) (n : Nat) (h : n < 18446744073709551616) : takeK (pre ++ putB n ++ post) pre.length = (n, pre.length + (putB n).length, 0) := by
  unfold takeK putB
  rw [List.append_assoc, List.drop_left, take_put 9 n 0 0 post rfl (by omega) (.inl rfl)]
  simp
theorem takeGo_le : ∀ (l : List UInt8) (i acc n k : Nat), takeGo l i acc = some (n, k) → k ≤ i + l.length ∧ i < k
  | [], i, acc, n, k, h => by simp [takeGo] at h
  | x :: r, i, acc, n, k, h => by
    simp only [takeGo] at h
    split at h
    · cases h
    · split at h
      · cases h
        simp
      · have := takeGo_le r _ _ _ _ h
        simp; omega
theorem takeK_le (b : List UInt8) (a : Nat) (ha : a ≤ b.length) : (takeK b a).2.1 ≤ b.length := by
  unfold takeK
  split
  · rename_i n k h
    have := (takeGo_le _ _ _ _ _ h).1
    simp at this ⊢
    omega
  · simp
theorem takeGo_lt : ∀ (l : List UInt8) (i acc n k : Nat), i ≤ 9 → acc < 128 ^ i → takeGo l i acc = some (n, k) → n < 18446744073709551616
  | [], i, acc, n, k, _, _, h => by simp [takeGo] at h
  | x :: r, i, acc, n, k, hi, ha, h => by
    simp only [takeGo] at h
    split at h
    · cases h
    · rename_i hc
      have hx := x.toNat_lt
      by_cases h9 : i = 9
      · subst h9
        rw [if_pos (by omega)] at h
        cases h
        have : x.toNat % 128 ≤ 1 := by omega
        have h2 : x.toNat % 128 * 128 ^ 9 ≤ 1 * 128 ^ 9 := Nat.mul_le_mul_right _ this
        omega
      · have h1 : x.toNat % 128 * 128 ^ i ≤ 127 * 128 ^ i := Nat.mul_le_mul_right _ (by omega)
        have hs : acc + x.toNat % 128 * 128 ^ i < 128 ^ (i + 1) := by rw [Nat.pow_succ]; omega
        split at h
        · cases h
          have : 128 ^ (i + 1) ≤ 128 ^ 9 := Nat.pow_le_pow_right (by decide) (by omega)
          omega
        · exact takeGo_lt r (i + 1) _ _ _ (by omega) hs h
theorem takeK_lt (b : List UInt8) (a : Nat) : (takeK b a).1 < 18446744073709551616 := by
  unfold takeK
  split
  · rename_i n k h
    exact takeGo_lt _ _ _ _ _ (by omega) (by simp) h
  · simp
abbrev tkAV (p : Nat × Nat × Nat) : AV := .tup [.sc (.int .u64 (p.1 : Nat)), .sc (.int .i64 (p.2.1 : Nat)), .sc (.int .i64 (p.2.2 : Nat))]
theorem u8_or128 : ∀ m, m < 256 → m ||| 128 = m % 128 + 128 := by decide +kernel
set_option maxHeartbeats 1000000 in
theorem c_packPut (n : Nat) (hn : n < 18446744073709551616) : AOk Tryz.prog 74 [.sc (.int .u64 (n : Int))] H (.sl (u8s (putB n)) .no) H := by
  refine ACalls.into Tryz.func74 rfl Tryz.ntmps74 Tryz.results74 (by simp) ?_
  simp -implicitDefEqProofs
  refine AGo.rounds (fun m ρ K => ∃ (f k : Nat) (out : List UInt8) (t : Tok), m = f ∧ out ++ putK f k = putB n ∧ k < 2 * 128 ^ f ∧ f + out.length = 9 ∧ ρ 0 = .sc (.int .u64 (k : Int)) ∧ ρ 3 = .sl (u8s out) t ∧ Grows H (u8s out) 1 5 t K) ?_ (m := 9) (HLe.refl _)
    ⟨9, n, [], .nil, rfl, rfl, by omega, rfl, by simp, by simp, Grows.zero⟩
  rintro m ρ K ih ⟨f, k, out, t, rfl, hp, hk, hl, r0, r3, hg⟩
  have hwk := IntKind.wrap_u8' (k : Int)
  by_cases h : k < 128
  · have e : putK m k = [UInt8.ofNat k] := by unfold putK; split <;> simp_all
    have h' : ¬ (128 : Int) ≤ (k : Int) := by omega
    have hw : IntKind.u8.wrap (k : Int) = (k : Int) := by rw [hwk]; omega
    have e2 : (UInt8.ofNat k).toNat = k := by simp; omega
    rw [e] at hp
    simp -implicitDefEqProofs [r0, r3, h, h', hw]
    refine AApp.grows el_26 hg (HLe.refl _) (by simp) (szs_u8s _) (by simp [szs, AV.cells]) (by simp; omega) (by simp [maxLen]; omega) fun t' K' Hn hg' hl' => ?_
    simp -implicitDefEqProofs
    rw [← hp, u8s_app]
    refine ⟨?_, ((hg'.le).trans hl').wk⟩
    simp [e2]
  · have hf : ∃ f, m = f + 1 := by
      cases m with
      | zero => simp at hk; omega
      | succ f => exact ⟨f, rfl⟩
    obtain ⟨f, rfl⟩ := hf
    have e : putK (f + 1) k = UInt8.ofNat (k % 128 + 128) :: putK f (k / 128) := by conv => lhs; unfold putK; rw [if_neg h]
    have h' : (128 : Int) ≤ (k : Int) := by omega
    have e2 : (UInt8.ofNat (k % 128 + 128)).toNat = k % 128 + 128 := by simp; omega
    have hw : IntKind.u8.wrap (k : Int) = ((k % 256 : Nat) : Int) := by rw [hwk]; omega
    have hor0 : bits .or .u8 ((k % 256 : Nat) : Int) 128 = ((k % 128 + 128 : Nat) : Int) := by
      have := u8_or_nat (k % 256) 128 (by omega) (by omega)
      rw [u8_or128 _ (by omega)] at this
      rw [show ((128 : Nat) : Int) = 128 from rfl] at this
      rw [this]
      congr 2
      omega
    have hor : bits .or .u8 ((k : Int) % 256) 128 = (k : Int) % 128 + 128 := by
      rw [show ((k : Int) % 256) = ((k % 256 : Nat) : Int) by omega, hor0]; omega
    have hsh : Int.fdiv (k : Int) 128 = ((k / 128 : Nat) : Int) := by rw [Int.fdiv_eq_ediv_of_nonneg _ (by omega)]; omega
    simp -implicitDefEqProofs [r0, r3, h, h', hw, hor]
    refine AApp.grows el_26 hg (HLe.refl _) (by simp) (szs_u8s _) (by simp [szs, AV.cells]) (by simp; omega) (by simp [maxLen]; omega) fun t' K' Hn hg' hl' => ?_
    simp -implicitDefEqProofs [r0, hsh, hor]
    refine AGo.again ih (m' := f) (by omega) hl' ?_
    refine ⟨f, k / 128, out ++ [UInt8.ofNat (k % 128 + 128)], t', rfl, ?_, by rw [Nat.pow_succ] at hk; omega, by simp; omega, by simp, by simp [e2]; omega, ?_⟩
    · rw [← hp, e]; simp
    · rw [u8s_app]
      simp only [u8s, List.map_cons, List.map_nil, e2]
      rw [show ((k % 128 + 128 : Nat) : Int) = (k : Int) % 128 + 128 by omega]
      exact hg'
end Go.Proofs.YtmoncokklkiikaaGreatDoor
namespace Go.Proofs.YtmoncokklkiikaaGreatDoor
open Rg Go
variable {H : Heap}
theorem getAt {α : Type} {L : List α} {i : Nat} (h : i < L.length) : ∃ e, L[i] = e ∧ L[i]? = some e := ⟨_, rfl, List.getElem?_eq_getElem h⟩
theorem pow7 (i : Nat) : (2 : Nat) ^ (7 * i) = 128 ^ i := by rw [Nat.pow_mul]
theorem and127 (x : Nat) (hx : x < 256) : bits .and .u8 (x : Int) 127 = ((x % 128 : Nat) : Int) := by
  have := u8_and_nat x 127 hx (by omega)
  rw [show ((127 : Nat) : Int) = 127 from rfl] at this
  rw [this]
  congr 1
  exact Nat.and_two_pow_sub_one_eq_mod x 7
theorem or_join {acc y i : Nat} (ha : acc < 128 ^ i) (hs : acc + y * 128 ^ i < 18446744073709551616) : bits .or .u64 (acc : Int) ((y * 128 ^ i : Nat) : Int) = ((acc + y * 128 ^ i : Nat) : Int) := by
  rw [u64_or_nat _ _ (by omega) (by omega), Nat.or_comm, nat_join (7 * i) _ _ (by rw [pow7]; exact Nat.mul_mod_left _ _) (by rw [pow7]; exact ha), Nat.add_comm]
theorem take_sum {x : UInt8} {acc i : Nat} (hi9 : i ≤ 9) (hacc : acc < 128 ^ i) (c1 : ¬ ((i = 9 ∧ 1 < x.toNat) ∨ (0 < i ∧ x.toNat = 0))) : acc + x.toNat % 128 * 128 ^ i < 18446744073709551616 ∧ (x.toNat % 128 * 128 ^ i < 18446744073709551616) ∧ (i ≠ 9 → acc + x.toNat % 128 * 128 ^ i < 128 ^ (i + 1)) := by
  have p0 : 0 < (128 : Nat) ^ i := Nat.pow_pos (by omega)
  by_cases h9 : i = 9
  · subst h9
    have h2 : x.toNat % 128 * 128 ^ 9 ≤ 1 * 128 ^ 9 := Nat.mul_le_mul_right _ (by omega)
    refine ⟨?_, ?_, fun h => absurd rfl h⟩ <;> omega
  · have h1 : x.toNat % 128 * 128 ^ i ≤ 127 * 128 ^ i := Nat.mul_le_mul_right _ (by omega)
    have h2 : acc + x.toNat % 128 * 128 ^ i < 128 ^ (i + 1) := by rw [Nat.pow_succ]; omega
    have h3 : 128 ^ (i + 1) ≤ 128 ^ 9 := Nat.pow_le_pow_right (by decide) (by omega)
    refine ⟨?_, ?_, fun _ => h2⟩ <;> omega
set_option maxHeartbeats 2000000 in
theorem c_packTake (b : List UInt8) (t : Tok) (a : Nat) (ha : a ≤ b.length) (hb : b.length ≤ 1000000) : AOk Tryz.prog 79 [.sl (u8s b) t, .sc (.int .i64 (a : Int))] H (tkAV (takeK b a)) H := by
  have ha' : ¬ (b.length : Int) < (a : Int) := by omega
  have ha2 : (a : Int) ≤ (b.length : Int) := by omega
  obtain ⟨res, hres⟩ : ∃ res, takeK b a = res := ⟨_, rfl⟩
  have hdr : (u8s b).drop a = u8s (b.drop a) := by simp
  obtain ⟨L, hL⟩ : ∃ L, b.drop a = L := ⟨_, rfl⟩
  have hLl : L.length ≤ 1000000 := by rw [← hL]; simp; omega
  have hk : ∀ r, takeGo L 0 0 = r → res = match r with | some (n, k) => (n, a + k, 0) | none => (0, 0, 4) := by
    intro r hr
    rw [← hres]; unfold takeK; rw [hL, hr] <;> rfl
  rw [hres]
  refine ACalls.into Tryz.func79 rfl Tryz.ntmps79 Tryz.results79 (by simp) ?_
  simp -implicitDefEqProofs [ha, ha', ha2, szs_u8s b]
  refine AGo.rounds (fun m ρ K => ∃ (i acc : Nat), m = L.length - i ∧ i ≤ L.length ∧ i ≤ 9 ∧ acc < 128 ^ i ∧ takeGo (L.drop i) i acc = takeGo L 0 0 ∧
    ρ 4 = .sc (.int .u64 (acc : Int)) ∧ ρ 21 = .sc (.int .i64 (i : Int)) ∧ ρ 1 = .sc (.int .i64 (a : Int)) ∧ ρ 19 = .sl (u8s L) .no ∧ ρ 20 = .sc (.int .i64 (L.length : Int)) ∧ K = H) ?_ (m := L.length) (HLe.refl _)
    ⟨0, 0, rfl, by omega, by omega, by simp, rfl, by simp, by simp, by simp, by simp [← hL], by simp [← hL], rfl⟩
  rintro m ρ K ih ⟨i, acc, rfl, hi, hi9, hacc, htk, r4, r21, r1, r19, r20, rfl⟩
  rcases Nat.lt_or_ge i L.length with hlt | hge
  · obtain ⟨x, hej, hx⟩ := getAt hlt
    have hd : L.drop i = x :: L.drop (i + 1) := by rw [List.drop_eq_getElem_cons hlt, hej]
    have hlt' : (i : Int) < (L.length : Int) := by omega
    have hxn := x.toNat_lt
    rw [hd] at htk
    simp only [takeGo] at htk
    by_cases c1 : (i = 9 ∧ 1 < x.toNat) ∨ (0 < i ∧ x.toNat = 0)
    · rw [if_pos c1] at htk
      have := hk _ htk.symm
      subst this
      by_cases h9 : i = 9
      · have h9' : decide ((i : Int) = 9) = true := decide_eq_true (by omega)
        have h9n : decide (i = 9) = true := decide_eq_true h9
        by_cases hx1 : 1 < x.toNat
        · have hx1' : (1 : Int) < (x.toNat : Int) := by omega
          simp -implicitDefEqProofs [r4, r21, r1, r19, r20, hlt, hlt', hej, h9', h9n, hx1, hx1']
        · have hx1' : ¬ (1 : Int) < (x.toNat : Int) := by omega
          have hx0 : x.toNat = 0 := by omega
          have h0 : 0 < i := by omega
          have h0' : (0 : Int) < (i : Int) := by omega
          simp -implicitDefEqProofs [r4, r21, r1, r19, r20, hlt, hlt', hej, h9', h9n, hx0, h0, h0']
      · have h9' : ¬ (i : Int) = 9 := by omega
        have h0 : 0 < i := by omega
        have h0' : (0 : Int) < (i : Int) := by omega
        have hx0 : x.toNat = 0 := by omega
        simp -implicitDefEqProofs [r4, r21, r1, r19, r20, hlt, hlt', hej, h9, h9', h0, h0', hx0]
    · rw [if_neg c1] at htk
      obtain ⟨hs1, hs2, hs3⟩ := take_sum hi9 hacc c1
      have hor := or_join hacc hs1
      have h7 : IntKind.i64.wrap (7 * (i : Int)) = 7 * (i : Int) := wrap_i64 (by omega) (by omega)
      have h7n : ¬ 7 * (i : Int) < 0 := by omega
      have h127 := and127 x.toNat hxn
      obtain ⟨acc', hq⟩ : ∃ q, acc + x.toNat % 128 * 128 ^ i = q := ⟨_, rfl⟩
      have hsh : bits .or .u64 (acc : Int) (IntKind.u64.wrap (IntKind.u64.wrap ((x.toNat : Int) % 128) * 2 ^ min (7 * (i : Int)).toNat 64)) = (acc' : Int) := by
        rw [← hq, ← hor]
        have e1 : min (7 * (i : Int)).toNat 64 = 7 * i := by omega
        have e2 : IntKind.u64.wrap ((x.toNat : Int) % 128) = ((x.toNat % 128 : Nat) : Int) := by rw [wrap_u64 (by omega) (by omega)]; omega
        have e3 : ((x.toNat % 128 : Nat) : Int) * 2 ^ (7 * i) = ((x.toNat % 128 * 128 ^ i : Nat) : Int) := by rw [← pow7]; push_cast; rfl
        rw [e1, e2, e3, wrap_u64 (by omega) (by omega)]
      have hw1 : IntKind.i64.wrap ((i : Int) + 1) = (i : Int) + 1 := wrap_i64 (by omega) (by omega)
      have hwa : IntKind.i64.wrap ((a : Int) + (i : Int)) = (a : Int) + (i : Int) := wrap_i64 (by omega) (by omega)
      have hwb : IntKind.i64.wrap ((a : Int) + (i : Int) + 1) = ((a + (i + 1) : Nat) : Int) := by rw [wrap_i64 (by omega) (by omega)]; omega
      have key : (i = 9 ∧ ¬ 1 < x.toNat ∧ 0 < i ∧ ¬ x.toNat = 0) ∨ (¬ i = 9 ∧ 0 < i ∧ ¬ x.toNat = 0) ∨ (¬ i = 9 ∧ i = 0) := by omega
      rw [hq] at htk hs3
      by_cases h128 : x.toNat < 128
      · have h128' : (x.toNat : Int) < 128 := by omega
        rw [if_pos h128] at htk
        have := hk _ htk.symm
        simp only at this
        subst this
        rcases key with ⟨h9, hx1, h0, hx0⟩ | ⟨h9, h0, hx0⟩ | ⟨h9, h0⟩
        · have h9' : decide ((i : Int) = 9) = true := decide_eq_true (by omega)
          have h9n : decide (i = 9) = true := decide_eq_true h9
          have hx1' : ¬ (1 : Int) < (x.toNat : Int) := by omega
          have h0' : (0 : Int) < (i : Int) := by omega
          have hx0' : ¬ (x.toNat : Int) = 0 := by omega
          simp -implicitDefEqProofs [r4, r21, r1, r19, r20, hlt, hlt', hej, h9', h9n, hx1, hx1', h0, h0', hx0, hx0', h7, h7n, h127, hsh, h128, h128', hwa, hwb]
        · have h9' : ¬ (i : Int) = 9 := by omega
          have h0' : (0 : Int) < (i : Int) := by omega
          have hx0' : ¬ (x.toNat : Int) = 0 := by omega
          simp -implicitDefEqProofs [r4, r21, r1, r19, r20, hlt, hlt', hej, h9, h9', h0, h0', hx0, hx0', h7, h7n, h127, hsh, h128, h128', hwa, hwb]
        · have h9' : ¬ (i : Int) = 9 := by omega
          have h0' : ¬ (0 : Int) < (i : Int) := by omega
          have h0n : ¬ 0 < i := by omega
          simp -implicitDefEqProofs [r4, r21, r1, r19, r20, hlt, hlt', hej, h9, h9', h0n, h0', h7, h7n, h127, hsh, h128, h128', hwa, hwb]
      · have h128' : ¬ (x.toNat : Int) < 128 := by omega
        rw [if_neg h128] at htk
        rcases key with ⟨h9, hx1, h0, hx0⟩ | ⟨h9, h0, hx0⟩ | ⟨h9, h0⟩
        · omega
        · have h9' : ¬ (i : Int) = 9 := by omega
          have h0' : (0 : Int) < (i : Int) := by omega
          have hx0' : ¬ (x.toNat : Int) = 0 := by omega
          simp -implicitDefEqProofs [r4, r21, r1, r19, r20, hlt, hlt', hej, h9, h9', h0, h0', hx0, hx0', h7, h7n, h127, hsh, h128, h128', hw1]
          refine AGo.again ih (m' := L.length - (i + 1)) (by omega) (HLe.refl _) ⟨i + 1, acc', rfl, by omega, by omega, hs3 h9, htk, by simp, by simp, by simp [r1], by simp [r19], by simp [r20], rfl⟩
        · have h9' : ¬ (i : Int) = 9 := by omega
          have h0' : ¬ (0 : Int) < (i : Int) := by omega
          have h0n : ¬ 0 < i := by omega
          simp -implicitDefEqProofs [r4, r21, r1, r19, r20, hlt, hlt', hej, h9, h9', h0n, h0', h7, h7n, h127, hsh, h128, h128', hw1]
          refine AGo.again ih (m' := L.length - (i + 1)) (by omega) (HLe.refl _) ⟨i + 1, acc', rfl, by omega, by omega, hs3 h9, htk, by simp, by simp, by simp [r1], by simp [r19], by simp [r20], rfl⟩
  · have : takeGo L 0 0 = none := by rw [← htk, List.drop_of_length_le hge]; rfl
    have hn : ¬ (i : Int) < (L.length : Int) := by omega
    have hn' : ¬ i < L.length := by omega
    have := hk _ this
    subst this
    simp -implicitDefEqProofs [r4, r21, r1, r19, r20, hn, hn']
end Go.Proofs.YtmoncokklkiikaaGreatDoor
