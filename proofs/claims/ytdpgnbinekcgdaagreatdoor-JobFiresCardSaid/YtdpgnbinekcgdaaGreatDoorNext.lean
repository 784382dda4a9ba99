/- The last firing up to a moment, as the program looks for it. -/
import Derived.Test.YtdpgnbinekcgdaaGreatDoorFireL
namespace Go.Proofs.YtdpgnbinekcgdaaGreatDoor
open Rg Go

variable {H : Heap}

/-- The greatest number of a field up to n. -/
def topB (b n : Nat) : Option Nat := if b % pow2 (n + 1) = 0 then none else some (Nat.log2 (b % pow2 (n + 1)))
def topAV : Option Nat → AV
  | some h => .tup [.sc (.int .i64 (h : Int)), .sc (.bool true)]
  | none => .tup [.sc (.int .i64 (-1)), .sc (.bool false)]
theorem topB_some {b n h : Nat} (he : topB b n = some h) : h ≤ n ∧ b.testBit h = true ∧ ∀ j, h < j → j ≤ n → b.testBit j = false := by
  unfold topB at he
  split at he
  · cases he
  · rename_i h0
    simp only [Option.some.injEq] at he
    have hlt : b % pow2 (n + 1) < 2 ^ (n + 1) := Nat.mod_lt _ (Nat.pos_of_ne_zero (by simp [pow2]))
    have hb : ∀ j, (b % pow2 (n + 1)).testBit j = (decide (j < n + 1) && b.testBit j) := fun j => by unfold pow2; rw [Nat.testBit_mod_two_pow]
    have h1 := Nat.log2_self_le h0
    have h2 := Nat.lt_log2_self (n := b % pow2 (n + 1))
    rw [he] at h1 h2
    have hh : h < n + 1 := (Nat.pow_lt_pow_iff_right (a := 2) (by decide)).1 (Nat.lt_of_le_of_lt h1 hlt)
    refine ⟨by omega, ?_, fun j g1 g2 => ?_⟩
    · have h3 : (b % pow2 (n + 1)).testBit h = true := by
        rw [Nat.testBit_eq_decide_div_mod_eq]
        have : b % pow2 (n + 1) / 2 ^ h = 1 := by
          refine Nat.div_eq_of_lt_le (by simpa using h1) ?_
          rw [Nat.pow_succ] at h2
          omega
        simp [this]
      rw [hb] at h3
      simp only [Bool.and_eq_true] at h3
      exact h3.2
    · have h3 : (b % pow2 (n + 1)).testBit j = false := Nat.testBit_lt_two_pow (Nat.lt_of_lt_of_le h2 (Nat.pow_le_pow_right (by decide) (by omega)))
      rw [hb, decide_eq_true (by omega : j < n + 1), Bool.true_and] at h3
      exact h3
theorem topB_none {b n : Nat} (he : topB b n = none) : ∀ j, j ≤ n → b.testBit j = false := by
  unfold topB at he
  split at he
  · rename_i h0
    intro j hj
    have h1 : (b % pow2 (n + 1)).testBit j = false := by rw [h0]; exact Nat.zero_testBit j
    unfold pow2 at h1
    rw [Nat.testBit_mod_two_pow, decide_eq_true (by omega : j < n + 1), Bool.true_and] at h1
    exact h1
  · cases he
theorem bitLenAux_log : ∀ f x : Nat, x < 2 ^ f → x ≠ 0 → Lib.bitLenAux f x = Nat.log2 x + 1
  | 0, x, h, h0 => by simp at h; omega
  | f + 1, x, h, h0 => by
    unfold Lib.bitLenAux
    rw [if_neg h0]
    by_cases h2 : x < 2
    · obtain rfl : x = 1 := by omega
      have : Lib.bitLenAux f (1 / 2) = 0 := by cases f <;> simp [Lib.bitLenAux]
      rw [this]
      decide
    · rw [bitLenAux_log f (x / 2) (by rw [Nat.pow_succ] at h; omega) (by omega)]
      have := Nat.log2_def x
      rw [if_pos (by omega)] at this
      omega
theorem c_top (f : Fld) (n : Nat) (hf : f.bits < 18446744073709551616) (hn : n ≤ 59) : AOk Tryz.prog 98 [fAV f, .sc (.int .i64 n)] H (topAV (topB f.bits n)) H := by
  refine ACalls.into Tryz.func98 rfl Tryz.ntmps98 Tryz.results98 (by simp) ?_
  simp -implicitDefEqProofs [fAV]
  refine AAlloc.intro fun b hb => ?_
  have hm : min (n + 1) 64 = n + 1 := by omega
  have w1 : IntKind.i64.wrap ((n : Int) + 1) = ((n + 1 : Nat) : Int) := by rw [wrap_i64 (by omega) (by omega)]; push_cast; rfl
  have w2 : IntKind.u64.wrap (2 ^ (n + 1)) = (pow2 (n + 1) : Int) := shl_nat (by omega)
  have n0 : ¬ (n : Int) + 1 < 0 := by omega
  simp -implicitDefEqProofs [w1, hm, w2]
  refine go_draw 8 f_mixed (by decide +kernel) ?_
  obtain ⟨M, hM⟩ : ∃ M, f.bits % pow2 (n + 1) = M := ⟨_, rfl⟩
  have hp : pow2 (n + 1) < 18446744073709551616 := pow2_small (by omega)
  have hp1 : 1 ≤ pow2 (n + 1) := Nat.one_le_two_pow
  have hMl : M < pow2 (n + 1) := by rw [← hM]; exact Nat.mod_lt _ (by omega)
  have w3 : IntKind.u64.wrap ((pow2 (n + 1) : Int) - 1) = ((pow2 (n + 1) - 1 : Nat) : Int) := by
    rw [show ((pow2 (n + 1) : Int) - 1) = ((pow2 (n + 1) - 1 : Nat) : Int) by omega]
    exact wrap_u64 (by omega) (by omega)
  have w4 : bits .and .u64 (f.bits : Int) ((pow2 (n + 1) - 1 : Nat) : Int) = (M : Int) := by
    rw [u64_and_nat _ _ hf (by omega), ← hM]
    unfold pow2
    rw [Nat.and_two_pow_sub_one_eq_mod]
  have w5 : bits .and .u64 (f.bits : Int) (IntKind.u64.wrap ((pow2 (n + 1) : Int) - 1)) = (M : Int) := by rw [w3, w4]
  simp -implicitDefEqProofs [w1, hm, w2, n0, w5]
  refine ACall.eq (c_len64 (M : Int) (by omega) (by omega)) ?_
  have hb2 : M < 18446744073709551616 := by omega
  unfold topB
  rw [hM]
  by_cases h0 : M = 0
  · subst h0
    have w7 : IntKind.i64.wrap (((Lib.bitLen 0 : Nat) : Int) - 1) = -1 := by decide +kernel
    simp -implicitDefEqProofs [topAV, w7]
    exact HWk.new hb (HWk.refl _)
  · have h1 : Lib.bitLen M = M.log2 + 1 := by exact bitLenAux_log 64 M (by omega) h0
    have h2 : M.log2 < 64 := (Nat.log2_lt h0).2 (by omega)
    have w6 : IntKind.i64.wrap (((M.log2 + 1 : Nat) : Int) - 1) = (M.log2 : Int) := by rw [wrap_i64 (by omega) (by omega)]; omega
    have w7 : IntKind.i64.wrap (M.log2 : Int) = (M.log2 : Int) := wrap_i64 (by omega) (by omega)
    simp -implicitDefEqProofs [topAV, h0, h1, w6, w7]
    exact HWk.new hb (HWk.refl _)

/-- What is wrong with an expression, a moment. -/
def badE (x : Ex) (t : Int) : Int := if mayX x = false then 2 else if t < 0 ∨ 13569465600 ≤ t then 50 else 0
theorem c_floor_bad {t : Int} (h : t < 0 ∨ 13569465600 ≤ t) : AOk Tryz.prog 64 [.sc (.int .i64 t)] H (.tup [.sc (.int .i64 0), .sc (.int .i64 50)]) H := by
  refine ACalls.into Tryz.func64 rfl Tryz.ntmps64 Tryz.results64 (by simp) ?_
  simp -implicitDefEqProofs
  refine ACall.eq (c_is_s t) ?_
  have e : (decide (0 ≤ t) && decide (t < 13569465600)) = false := by simp; omega
  simp -implicitDefEqProofs [e]
theorem c_floor {t : Nat} (h : t < 13569465600) : AOk Tryz.prog 64 [.sc (.int .i64 t)] H (.tup [.sc (.int .i64 ((t / 60 * 60 : Nat) : Int)), .sc (.int .i64 0)]) H := by
  obtain ⟨q, hq⟩ : ∃ q, t % 60 = q := ⟨_, rfl⟩
  obtain ⟨z, hz⟩ : ∃ z, t / 60 * 60 = z := ⟨_, rfl⟩
  rw [hz]
  refine ACalls.into Tryz.func64 rfl Tryz.ntmps64 Tryz.results64 (by simp) ?_
  simp -implicitDefEqProofs
  refine ACall.eq (c_is_s t) ?_
  have e : (t : Int) < 13569465600 := by omega
  have w1 : (t : Int).tmod 60 = (q : Int) := wmod (b := 60) hq
  have w2 : IntKind.i64.wrap ((t : Int) - (q : Int)) = (z : Int) := wsub (by omega) (by omega) (by omega)
  simp -implicitDefEqProofs [e, w1, w2]
theorem c_nmay (x : Ex) (hx : x.ok) (t : Int) : AOk Tryz.prog 96 [exAV x, .sc (.int .i64 t)] H (.sc (.int .i64 (badE x t))) H := by
  refine ACalls.into Tryz.func96 rfl Tryz.ntmps96 Tryz.results96 (by simp) ?_
  simp -implicitDefEqProofs
  refine AAlloc.intro fun b2 h2 => ?_
  have hW : ∀ o, HWk H (H.set b2 o) := fun o => HWk.new h2 (HWk.refl _)
  simp -implicitDefEqProofs
  refine ACall.eq (c_cronMay x hx) ?_
  unfold badE
  cases hm : mayX x with
  | false =>
    simp -implicitDefEqProofs
    exact hW _
  | true =>
    simp -implicitDefEqProofs
    by_cases h : t < 0 ∨ 13569465600 ≤ t
    · rw [if_pos h]
      refine ACall.eq (c_floor_bad h) ?_
      simp -implicitDefEqProofs
      exact hW _
    · rw [if_neg h]
      obtain ⟨u, rfl⟩ := Int.eq_ofNat_of_zero_le (a := t) (by omega)
      refine ACall.eq (c_floor (t := u) (by omega)) ?_
      simp -implicitDefEqProofs
      exact hW _
theorem c_nfits (x : Ex) (hx : x.ok) {n : Nat} (hn : n < 157054) : AOk Tryz.prog 97 [exAV x, .sc (.int .i64 n)] H (.sc (.bool (mayX x && dayB x n))) H := by
  refine ACalls.into Tryz.func97 rfl Tryz.ntmps97 Tryz.results97 (by simp) ?_
  simp -implicitDefEqProofs
  refine AAlloc.intro fun b2 h2 => ?_
  obtain ⟨t, ht⟩ : ∃ t, n * 86400 = t := ⟨_, rfl⟩
  have w1 : IntKind.i64.wrap ((n : Int) * 86400) = (t : Int) := wmul (b := 86400) ht (by omega)
  have hdn := day_n x hn
  rw [ht] at hdn
  simp -implicitDefEqProofs [w1]
  refine ACall.eq (c_split_s (t := t) (by omega)) ?_
  simp -implicitDefEqProofs
  refine AAlloc.intro fun b5 h5 => ?_
  have n52 : b5 ≠ b2 := by intro e; subst e; simp [Heap.set] at h5
  have n25 := n52.symm
  have e5 : H b5 = none := (HLe.set_fresh h2).none h5
  simp -implicitDefEqProofs [n25]
  refine ACall.eq (c_dayFits x hx (clk t)) ?_
  rw [hdn]
  simp -implicitDefEqProofs
  exact HWk.new e5 (HWk.new h2 (HWk.refl _))

def outAV (r : Option Nat) : AV := .tup [.sc (.int .i64 (optN r : Int)), .sc (.int .i64 (errN r : Int))]
theorem c_last_bad {x : Ex} (hx : x.ok) {t : Int} (h : badE x t ≠ 0) : AOk Tryz.prog 65 [exAV x, .sc (.int .i64 t)] H (.tup [.sc (.int .i64 0), .sc (.int .i64 (badE x t))]) H := by
  refine ACalls.into Tryz.func65 rfl Tryz.ntmps65 Tryz.results65 (by simp) ?_
  simp -implicitDefEqProofs
  refine AAlloc.intro fun b2 h2 => ?_
  simp -implicitDefEqProofs
  refine ACall.eq (c_nmay x hx t) ?_
  generalize badE x t = e at *
  simp -implicitDefEqProofs [h]
  exact HWk.new h2 (HWk.refl _)
set_option maxHeartbeats 2000000 in
theorem c_last {x : Ex} (hx : x.ok) (hm : mayX x = true) {t : Nat} (ht : t < 13569465600) {r : Option Nat} (hr : IsLast x t r) : AOk Tryz.prog 65 [exAV x, .sc (.int .i64 t)] H (outAV r) H := by
  obtain ⟨D0, hD0⟩ : ∃ d, t / 86400 = d := ⟨_, rfl⟩
  obtain ⟨m0, hm0⟩ : ∃ d, t % 86400 = d := ⟨_, rfl⟩
  obtain ⟨m1, hm1⟩ : ∃ d, m0 / 60 = d := ⟨_, rfl⟩
  have hO := outL_init (x := x) ht
  rw [hD0, hm0, hm1] at hO
  have w1 : IntKind.i64.wrap ((t : Int) / 86400) = (D0 : Int) := wdiv (b := 86400) hD0 (by omega)
  have w2 : (t : Int).tmod 86400 = (m0 : Int) := wmod (b := 86400) hm0
  have w3 : IntKind.i64.wrap ((m0 : Int) / 60) = (m1 : Int) := wdiv (b := 60) hm1 (by omega)
  have e0 : badE x (t : Int) = 0 := by unfold badE; rw [if_neg (by simp [hm]), if_neg (by omega)]
  refine ACalls.into Tryz.func65 rfl Tryz.ntmps65 Tryz.results65 (by simp) ?_
  simp -implicitDefEqProofs
  refine AAlloc.intro fun b2 h2 => ?_
  simp -implicitDefEqProofs
  generalize hK : Heap.set _ b2 _ = K0
  have k2 : K0 b2 = some (.cells (exC x) 37) := by rw [← hK]; simp [Heap.set]
  have kW : HWk H K0 := by rw [← hK]; exact HWk.new h2 (HWk.refl _)
  clear hK
  refine ACall.eq (c_nmay x hx t) ?_
  rw [e0]
  simp -implicitDefEqProofs [w1, w2, w3]
  refine AGo.rounds (fun m ρ K => ∃ (D mm : Nat) (d : Int), m = D ∧ d = (D : Int) - 1 ∧ OutL x t D mm ∧ ρ 2 = .sc (.pointer (some ⟨b2, 0, none⟩)) ∧ ρ 7 = .sc (.int .i64 d) ∧ ρ 8 = .sc (.int .i64 mm) ∧ K b2 = some (.cells (exC x) 37) ∧ HWk H K) ?_ (m := D0 + 1) (HLe.refl _)
    ⟨D0 + 1, m1, D0, rfl, by omega, hO, by simp, by simp, by simp, k2, kW⟩
  rintro m ρ K ih ⟨D, mm, d, hmD, hd, hO, r2, r7, r8, k2, kW⟩
  subst hmD
  rcases m with _ | n
  · obtain rfl : d = -1 := by omega
    obtain rfl := last_one hr (outL_end hO)
    simp -implicitDefEqProofs [r7, outAV, optN, errN]
    exact kW
  · obtain rfl : d = (n : Int) := by omega
    have hn : n < 157054 := by have := hO.2.1; omega
    have hmm : mm ≤ 1439 := hO.1
    have hoM := fun h => outL_month (n := n) ht hO h
    have hcm := civ_month hn
    simp -implicitDefEqProofs [r7]
    refine ACall.eq (c_of hn) ?_
    generalize civ n = cv at *
    obtain ⟨Y, M, Dd⟩ := cv
    simp only at hcm hoM
    simp -implicitDefEqProofs
    refine AAlloc.intro fun b9 h9 => ?_
    have n29 : b2 ≠ b9 := by intro e; subst e; rw [k2] at h9; cases h9
    have n92 := n29.symm
    simp -implicitDefEqProofs [r2, n29, n92, k2]
    generalize hK : Heap.set K b9 _ = K1
    have k21 : K1 b2 = some (.cells (exC x) 37) := by rw [← hK]; simp [Heap.set, n29, k2]
    have k9 : K1 b9 = some (.cells [.sc (.int .i64 Y), .sc (.int .i64 M), .sc (.int .i64 Dd)] 42) := by rw [← hK]; simp [Heap.set]
    have kW1 : HWk H K1 := by rw [← hK]; exact HWk.new (kW.none h9) kW
    clear hK
    refine ACall.eq (c_has x.d M hx.d) ?_
    cases hM : hasB x.d.bits M with
    | false =>
      obtain ⟨q1, hq1⟩ : ∃ q, Dd - 1 = q := ⟨_, rfl⟩
      obtain ⟨q2, hq2⟩ : ∃ q, n - q1 = q := ⟨_, rfl⟩
      have w4 : IntKind.i64.wrap ((Dd : Int) - 1) = (q1 : Int) := wsub (b := 1) hq1 (by omega) (by omega)
      have w5 : IntKind.i64.wrap ((n : Int) - (q1 : Int)) = (q2 : Int) := wsub hq2 (by omega) (by omega)
      have w6 : IntKind.i64.wrap ((q2 : Int) - 1) = (q2 : Int) - 1 := wrap_i64 (by omega) (by omega)
      have hO' := hoM hM
      rw [show n + 1 - Dd = q2 by omega] at hO'
      simp -implicitDefEqProofs [r7, k9, w4, w5, w6]
      exact AGo.again ih (m' := q2) (by omega) (HLe.refl _) ⟨q2, 1439, _, rfl, rfl, hO', by simp [r2], by simp, by simp, k21, kW1⟩
    | true =>
      have w7 : IntKind.i64.wrap ((n : Int) - 1) = (n : Int) - 1 := wrap_i64 (by omega) (by omega)
      simp -implicitDefEqProofs [r2, r7, k21]
      refine ACall.eq (c_nfits x hx hn) ?_
      rw [hm]
      cases hdb : dayB x n with
      | false =>
        simp -implicitDefEqProofs [r7, w7]
        exact AGo.again ih (m' := n) (by omega) (HLe.refl _) ⟨n, 1439, _, rfl, rfl, outL_day ht hO hdb, by simp [r2], by simp, by simp, k21, kW1⟩
      | true =>
        obtain ⟨hh, hhh⟩ : ∃ q, mm / 60 = q := ⟨_, rfl⟩
        have w8 : IntKind.i64.wrap ((mm : Int) / 60) = (hh : Int) := wdiv (b := 60) hhh (by omega)
        have hI := inL_init hO hdb
        rw [hhh] at hI
        simp -implicitDefEqProofs [r8, w8]
        refine AGo.rounds (fun m ρ K => ∃ (HH m2 : Nat) (h : Int), m = HH ∧ h = (HH : Int) - 1 ∧ InL x t n HH (m2 % 60) ∧ m2 ≤ 1439 ∧ ρ 2 = .sc (.pointer (some ⟨b2, 0, none⟩)) ∧ ρ 7 = .sc (.int .i64 n) ∧ ρ 8 = .sc (.int .i64 m2) ∧ ρ 11 = .sc (.int .i64 h) ∧ K = K1) ?_ (m := hh + 1) (HLe.refl _)
          ⟨hh + 1, mm, hh, rfl, by omega, hI, hmm, by simp [r2], by simp [r7], by simp [r8], by simp, rfl⟩
        clear hI hmm hO r2 r7 r8 hoM
        rintro m' ρ' K ih2 ⟨HH, m2, hv, hmH, hhv, hI, hm2, r2, r7, r8, r11, rfl⟩
        subst hmH
        rcases m' with _ | h
        · obtain rfl : hv = -1 := by omega
          simp -implicitDefEqProofs [r11, r7, w7]
          exact AGo.again ih (m' := n) (by omega) (HLe.refl _) ⟨n, 1439, _, rfl, rfl, inL_end hI, by simp [r2], by simp, by simp, k21, kW1⟩
        · obtain rfl : hv = (h : Int) := by omega
          have hh24 : h ≤ 23 := by have := hI.2.1; omega
          simp -implicitDefEqProofs [r11, r2, k21]
          refine ACall.eq (c_top x.b h hx.b (by omega)) ?_
          cases htb : topB x.b.bits h with
          | none =>
            have hno := topB_none htb
            simp -implicitDefEqProofs [topAV, r7, w7]
            exact AGo.again ih (m' := n) (by omega) (HLe.refl _) ⟨n, 1439, _, rfl, rfl, inL_none ht hI (fun j hj => by rw [has_bit (by omega)]; exact hno j hj), by simp [r2], by simp, by simp, k21, kW1⟩
          | some h' =>
            obtain ⟨g1, g2, g3⟩ := topB_some htb
            have g2' : hasB x.b.bits (h' : Int) = true := by rw [has_bit (by omega)]; exact g2
            simp -implicitDefEqProofs [topAV, r11]
            refine ABr.join (fun ρ K' => K' = K ∧ ∃ m3 : Nat, m3 ≤ 1439 ∧ InL x t n (h' + 1) (m3 % 60) ∧ ρ 2 = .sc (.pointer (some ⟨b2, 0, none⟩)) ∧ ρ 7 = .sc (.int .i64 n) ∧ ρ 8 = .sc (.int .i64 m3) ∧ ρ 11 = .sc (.int .i64 h')) (fun k' hk' => ?_) ?_
            · by_cases hlt : h' < h
              · have hlt' : (h' : Int) < (h : Int) := by omega
                simp -implicitDefEqProofs [hlt, hlt']
                exact hk' _ _ ⟨rfl, 59, by omega, inL_down ht hI hlt (fun j j1 j2 => by rw [has_bit (by omega)]; exact g3 j j1 j2), by simp [r2], by simp [r7], by simp, by simp⟩
              · obtain rfl : h' = h := by omega
                simp -implicitDefEqProofs
                exact hk' _ _ ⟨rfl, m2, hm2, hI, by simp [r2], by simp [r7], by simp [r8], by simp [r11]⟩
            · clear r2 r7 r8 r11
              rintro ρ2 K' ⟨rfl, m3, hm3, hI3, r2, r7, r8, r11⟩
              obtain ⟨m4, hm4⟩ : ∃ q, m3 % 60 = q := ⟨_, rfl⟩
              have w9 : (m3 : Int).tmod 60 = (m4 : Int) := wmod (b := 60) hm4
              rw [hm4] at hI3
              have hm59 : m4 ≤ 59 := hI3.1
              simp -implicitDefEqProofs [r2, r8, k21, w9]
              refine ACall.eq (c_top x.a m4 hx.a hm59) ?_
              cases hta : topB x.a.bits m4 with
              | none =>
                have hno := topB_none hta
                have w10 : IntKind.i64.wrap ((h' : Int) - 1) = (h' : Int) - 1 := wrap_i64 (by omega) (by omega)
                simp -implicitDefEqProofs [topAV, r11, w10]
                exact AGo.again ih2 (m' := h') (by omega) (HLe.refl _) ⟨h', 59, _, rfl, rfl, inL_min ht hI3 (fun j hj => by rw [has_bit (by omega)]; exact hno j hj), by omega, by simp [r2], by simp [r7], by simp, by simp, rfl⟩
              | some m5 =>
                obtain ⟨f1, f2, f3⟩ := topB_some hta
                have f2' : hasB x.a.bits (m5 : Int) = true := by rw [has_bit (by omega)]; exact f2
                obtain rfl := last_one hr (inL_found ht hm hI3 g2' f2' f1 (fun j j1 j2 => by rw [has_bit (by omega)]; exact f3 j j1 j2))
                obtain ⟨P1, hP1⟩ : ∃ q, n * 86400 = q := ⟨_, rfl⟩
                obtain ⟨P2, hP2⟩ : ∃ q, h' * 3600 = q := ⟨_, rfl⟩
                obtain ⟨P3, hP3⟩ : ∃ q, P1 + P2 = q := ⟨_, rfl⟩
                obtain ⟨P4, hP4⟩ : ∃ q, m5 * 60 = q := ⟨_, rfl⟩
                obtain ⟨P5, hP5⟩ : ∃ q, P3 + P4 = q := ⟨_, rfl⟩
                have v1 : IntKind.i64.wrap ((n : Int) * 86400) = (P1 : Int) := wmul (b := 86400) hP1 (by omega)
                have v2 : IntKind.i64.wrap ((h' : Int) * 3600) = (P2 : Int) := wmul (b := 3600) hP2 (by omega)
                have v3 : IntKind.i64.wrap ((P1 : Int) + (P2 : Int)) = (P3 : Int) := wadd hP3 (by omega)
                have v4 : IntKind.i64.wrap ((m5 : Int) * 60) = (P4 : Int) := wmul (b := 60) hP4 (by omega)
                have v5 : IntKind.i64.wrap ((P3 : Int) + (P4 : Int)) = (P5 : Int) := wadd hP5 (by omega)
                rw [hP1, hP2, hP3, hP4, hP5]
                simp -implicitDefEqProofs [topAV, r7, r11, v1, v2, v3, v4, v5, outAV, optN, errN]
                exact kW1
end Go.Proofs.YtdpgnbinekcgdaaGreatDoor
