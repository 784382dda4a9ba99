/- The last firing up to a moment, as the program looks for it. The document's fields: what is allowed. The document's fields: a text at each of a byte. The document's fields: kinds, which may be. The document's text of a field is the program's: in plain words. The document's numbers of words are the program's: in plain words. The document's items are the program's: in plain words. -/
import Derived.Test.YtmoncokklkiikaaGreatDoorP16
import Derived.Test.YtmoncokklkiikaaGreatDoorP14
import Derived.Test.YtmoncokklkiikaaGreatDoorP15
import Derived.Lib.MapLaws
import Derived.Lib.TrimAscii
import Derived.Lib.TrimU
set_option linter.unusedSimpArgs false
set_option linter.unusedVariables false
set_option linter.unnecessarySimpa false
namespace Go.Proofs.YtmoncokklkiikaaGreatDoor
open Rg Go
variable {H : Heap}
def topB (b n : Nat) : Option Nat := if b % pow2 (n + 1) = 0 then none else some (Nat.log2 (b % pow2 (n + 1)))
def topAV : Option Nat → AV
  | some h => .tup [.sc (.int .i64 (h : Int)), .sc (.bool true)]
  | none => .tup [.sc (.int .i64 (-1)), .sc (.bool false)]
theorem topB_some {b n h : Nat} (he : topB b n = some h) : h ≤ n ∧ b.testBit h = true ∧ ∀ j, h < j → j ≤ n → b.testBit j = false := by
  unfold topB at he
  split at he
  · cases he
  · rename_i h0
    simp only [Option.some.injEq] at he
    have hlt : b % pow2 (n + 1) < 2 ^ (n + 1) := Nat.mod_lt _ (Nat.pos_of_ne_zero (by simp [pow2]))
    have hb : ∀ j, (b % pow2 (n + 1)).testBit j = (decide (j < n + 1) && b.testBit j) := fun j => by unfold pow2; rw [Nat.testBit_mod_two_pow]
    have h1 := Nat.log2_self_le h0
    have h2 := Nat.lt_log2_self (n := b % pow2 (n + 1))
    rw [he] at h1 h2
    have hh : h < n + 1 := (Nat.pow_lt_pow_iff_right (a := 2) (by decide)).1 (Nat.lt_of_le_of_lt h1 hlt)
    refine ⟨by omega, ?_, fun j g1 g2 => ?_⟩
    · have h3 : (b % pow2 (n + 1)).testBit h = true := by
        rw [Nat.testBit_eq_decide_div_mod_eq]
        have : b % pow2 (n + 1) / 2 ^ h = 1 := by
          refine Nat.div_eq_of_lt_le (by simpa using h1) ?_
          rw [Nat.pow_succ] at h2
          omega
        simp [this]
      rw [hb] at h3
      simp only [Bool.and_eq_true] at h3
      exact h3.2
    · have h3 : (b % pow2 (n + 1)).testBit j = false := Nat.testBit_lt_two_pow (Nat.lt_of_lt_of_le h2 (Nat.pow_le_pow_right (by decide) (by omega)))
      rw [hb, decide_eq_true (by omega : j < n + 1), Bool.true_and] at h3
      exact h3
theorem topB_none {b n : Nat} (he : topB b n = none) : ∀ j, j ≤ n → b.testBit j = false := by
  unfold topB at he
  split at he
  · rename_i h0
    intro j hj
    have h1 : (b % pow2 (n + 1)).testBit j = false := by rw [h0]; exact Nat.zero_testBit j
    unfold pow2 at h1
    rw [Nat.testBit_mod_two_pow, decide_eq_true (by omega : j < n + 1), Bool.true_and] at h1
    exact h1
  · cases he
theorem bitLenAux_log : ∀ f x : Nat, x < 2 ^ f → x ≠ 0 → Lib.bitLenAux f x = Nat.log2 x + 1
  | 0, x, h, h0 => by simp at h; omega
  | f + 1, x, h, h0 => by
    unfold Lib.bitLenAux
    rw [if_neg h0]
    by_cases h2 : x < 2
    · obtain rfl : x = 1 := by omega
      have : Lib.bitLenAux f (1 / 2) = 0 := by cases f <;> simp [Lib.bitLenAux]
      rw [this]
      decide
    · rw [bitLenAux_log f (x / 2) (by rw [Nat.pow_succ] at h; omega) (by omega)]
      have := Nat.log2_def x
      rw [if_pos (by omega)] at this
      omega
theorem c_top (f : Fld) (n : Nat) (hf : f.bits < 18446744073709551616) (hn : n ≤ 59) : AOk Tryz.prog 137 [fAV f, .sc (.int .i64 n)] H (topAV (topB f.bits n)) H := by
  refine ACalls.into Tryz.func137 rfl Tryz.ntmps137 Tryz.results137 (by simp) ?_
  simp -implicitDefEqProofs [fAV]
  refine AAlloc.intro fun b hb => ?_
  have hm : min (n + 1) 64 = n + 1 := by omega
  have w1 : IntKind.i64.wrap ((n : Int) + 1) = ((n + 1 : Nat) : Int) := by rw [wrap_i64 (by omega) (by omega)]; push_cast; rfl
  have w2 : IntKind.u64.wrap (2 ^ (n + 1)) = (pow2 (n + 1) : Int) := shl_nat (by omega)
  have n0 : ¬ (n : Int) + 1 < 0 := by omega
  simp -implicitDefEqProofs [w1, hm, w2]
  refine go_draw 8 f_mixed (by decide +kernel) ?_
  obtain ⟨M, hM⟩ : ∃ M, f.bits % pow2 (n + 1) = M := ⟨_, rfl⟩
  have hp : pow2 (n + 1) < 18446744073709551616 := pow2_small (by omega)
  have hp1 : 1 ≤ pow2 (n + 1) := Nat.one_le_two_pow
  have hMl : M < pow2 (n + 1) := by rw [← hM]; exact Nat.mod_lt _ (by omega)
  have w3 : IntKind.u64.wrap ((pow2 (n + 1) : Int) - 1) = ((pow2 (n + 1) - 1 : Nat) : Int) := by
    rw [show ((pow2 (n + 1) : Int) - 1) = ((pow2 (n + 1) - 1 : Nat) : Int) by omega]
    exact wrap_u64 (by omega) (by omega)
  have w4 : bits .and .u64 (f.bits : Int) ((pow2 (n + 1) - 1 : Nat) : Int) = (M : Int) := by
    rw [u64_and_nat _ _ hf (by omega), ← hM]
    unfold pow2
    rw [Nat.and_two_pow_sub_one_eq_mod]
  have w5 : bits .and .u64 (f.bits : Int) (IntKind.u64.wrap ((pow2 (n + 1) : Int) - 1)) = (M : Int) := by rw [w3, w4]
  simp -implicitDefEqProofs [w1, hm, w2, n0, w5]
  refine ACall.eq (c_len64 (M : Int) (by omega) (by omega)) ?_
  have hb2 : M < 18446744073709551616 := by omega
  unfold topB
  rw [hM]
  by_cases h0 : M = 0
  · subst h0
    have w7 : IntKind.i64.wrap (((Lib.bitLen 0 : Nat) : Int) - 1) = -1 := by decide +kernel
    simp -implicitDefEqProofs [topAV, w7]
    exact HWk.new hb (HWk.refl _)
  · have h1 : Lib.bitLen M = M.log2 + 1 := by exact bitLenAux_log 64 M (by omega) h0
    have h2 : M.log2 < 64 := (Nat.log2_lt h0).2 (by omega)
    have w6 : IntKind.i64.wrap (((M.log2 + 1 : Nat) : Int) - 1) = (M.log2 : Int) := by rw [wrap_i64 (by omega) (by omega)]; omega
    have w7 : IntKind.i64.wrap (M.log2 : Int) = (M.log2 : Int) := wrap_i64 (by omega) (by omega)
    simp -implicitDefEqProofs [topAV, h0, h1, w6, w7]
    exact HWk.new hb (HWk.refl _)
def badE (x : Ex) (t : Int) : Int := if mayX x = false then 2 else if t < 0 ∨ 13569465600 ≤ t then 50 else 0
theorem c_floor_bad {t : Int} (h : t < 0 ∨ 13569465600 ≤ t) : AOk Tryz.prog 84 [.sc (.int .i64 t)] H (.tup [.sc (.int .i64 0), .sc (.int .i64 50)]) H := by
  refine ACalls.into Tryz.func84 rfl Tryz.ntmps84 Tryz.results84 (by simp) ?_
  simp -implicitDefEqProofs
  refine ACall.eq (c_is_s t) ?_
  have e : (decide (0 ≤ t) && decide (t < 13569465600)) = false := by simp; omega
  simp -implicitDefEqProofs [e]
theorem c_floor {t : Nat} (h : t < 13569465600) : AOk Tryz.prog 84 [.sc (.int .i64 t)] H (.tup [.sc (.int .i64 ((t / 60 * 60 : Nat) : Int)), .sc (.int .i64 0)]) H := by
  obtain ⟨q, hq⟩ : ∃ q, t % 60 = q := ⟨_, rfl⟩
  obtain ⟨z, hz⟩ : ∃ z, t / 60 * 60 = z := ⟨_, rfl⟩
  rw [hz]
  refine ACalls.into Tryz.func84 rfl Tryz.ntmps84 Tryz.results84 (by simp) ?_
  simp -implicitDefEqProofs
  refine ACall.eq (c_is_s t) ?_
  have e : (t : Int) < 13569465600 := by omega
  have w1 : (t : Int).tmod 60 = (q : Int) := wmod (b := 60) hq
  have w2 : IntKind.i64.wrap ((t : Int) - (q : Int)) = (z : Int) := wsub (by omega) (by omega) (by omega)
  simp -implicitDefEqProofs [e, w1, w2]
theorem c_nmay (x : Ex) (hx : x.ok) (t : Int) : AOk Tryz.prog 103 [exAV x, .sc (.int .i64 t)] H (.sc (.int .i64 (badE x t))) H := by
  refine ACalls.into Tryz.func103 rfl Tryz.ntmps103 Tryz.results103 (by simp) ?_
  simp -implicitDefEqProofs
  refine AAlloc.intro fun b2 h2 => ?_
  have hW : ∀ o, HWk H (H.set b2 o) := fun o => HWk.new h2 (HWk.refl _)
  simp -implicitDefEqProofs
  refine ACall.eq (c_cronMay x hx) ?_
  unfold badE
  cases hm : mayX x with
  | false =>
    simp -implicitDefEqProofs
    exact hW _
  | true =>
    simp -implicitDefEqProofs
    by_cases h : t < 0 ∨ 13569465600 ≤ t
    · rw [if_pos h]
      refine ACall.eq (c_floor_bad h) ?_
      simp -implicitDefEqProofs
      exact hW _
    · rw [if_neg h]
      obtain ⟨u, rfl⟩ := Int.eq_ofNat_of_zero_le (a := t) (by omega)
      refine ACall.eq (c_floor (t := u) (by omega)) ?_
      simp -implicitDefEqProofs
      exact hW _
theorem c_nfits (x : Ex) (hx : x.ok) {n : Nat} (hn : n < 157054) : AOk Tryz.prog 136 [exAV x, .sc (.int .i64 n)] H (.sc (.bool (mayX x && dayB x n))) H := by
  refine ACalls.into Tryz.func136 rfl Tryz.ntmps136 Tryz.results136 (by simp) ?_
  simp -implicitDefEqProofs
  refine AAlloc.intro fun b2 h2 => ?_
  obtain ⟨t, ht⟩ : ∃ t, n * 86400 = t := ⟨_, rfl⟩
  have w1 : IntKind.i64.wrap ((n : Int) * 86400) = (t : Int) := wmul (b := 86400) ht (by omega)
  have hdn := day_n x hn
  rw [ht] at hdn
  simp -implicitDefEqProofs [w1]
  refine ACall.eq (c_split_s (t := t) (by omega)) ?_
  simp -implicitDefEqProofs
  refine AAlloc.intro fun b5 h5 => ?_
  have n52 : b5 ≠ b2 := by intro e; subst e; simp [Heap.set] at h5
  have n25 := n52.symm
  have e5 : H b5 = none := (HLe.set_fresh h2).none h5
  simp -implicitDefEqProofs [n25]
  refine ACall.eq (c_dayFits x hx (clk t)) ?_
  rw [hdn]
  simp -implicitDefEqProofs
  exact HWk.new e5 (HWk.new h2 (HWk.refl _))
def outAV (r : Option Nat) : AV := .tup [.sc (.int .i64 (optN r : Int)), .sc (.int .i64 (errN r : Int))]
set_option maxHeartbeats 2000000 in
theorem c_last {x : Ex} (hx : x.ok) (hm : mayX x = true) {t : Nat} (ht : t < 13569465600) {r : Option Nat} (hr : IsLast x t r) : AOk Tryz.prog 72 [exAV x, .sc (.int .i64 t)] H (outAV r) H := by
  obtain ⟨D0, hD0⟩ : ∃ d, t / 86400 = d := ⟨_, rfl⟩
  obtain ⟨m0, hm0⟩ : ∃ d, t % 86400 = d := ⟨_, rfl⟩
  obtain ⟨m1, hm1⟩ : ∃ d, m0 / 60 = d := ⟨_, rfl⟩
  have hO := outL_init (x := x) ht
  rw [hD0, hm0, hm1] at hO
  have w1 : IntKind.i64.wrap ((t : Int) / 86400) = (D0 : Int) := wdiv (b := 86400) hD0 (by omega)
  have w2 : (t : Int).tmod 86400 = (m0 : Int) := wmod (b := 86400) hm0
  have w3 : IntKind.i64.wrap ((m0 : Int) / 60) = (m1 : Int) := wdiv (b := 60) hm1 (by omega)
  have e0 : badE x (t : Int) = 0 := by unfold badE; rw [if_neg (by simp [hm]), if_neg (by omega)]
  refine ACalls.into Tryz.func72 rfl Tryz.ntmps72 Tryz.results72 (by simp) ?_
  simp -implicitDefEqProofs
  refine AAlloc.intro fun b2 h2 => ?_
  simp -implicitDefEqProofs
  generalize hK : Heap.set _ b2 _ = K0
  have k2 : K0 b2 = some (.cells (exC x) 42) := by rw [← hK]; simp [Heap.set]
  have kW : HWk H K0 := by rw [← hK]; exact HWk.new h2 (HWk.refl _)
  clear hK
  refine ACall.eq (c_nmay x hx t) ?_
  rw [e0]
  simp -implicitDefEqProofs [w1, w2, w3]
  refine AGo.rounds (fun m ρ K => ∃ (D mm : Nat) (d : Int), m = D ∧ d = (D : Int) - 1 ∧ OutL x t D mm ∧ ρ 2 = .sc (.pointer (some ⟨b2, 0, none⟩)) ∧ ρ 7 = .sc (.int .i64 d) ∧ ρ 8 = .sc (.int .i64 mm) ∧ K b2 = some (.cells (exC x) 42) ∧ HWk H K) ?_ (m := D0 + 1) (HLe.refl _)
    ⟨D0 + 1, m1, D0, rfl, by omega, hO, by simp, by simp, by simp, k2, kW⟩
  rintro m ρ K ih ⟨D, mm, d, hmD, hd, hO, r2, r7, r8, k2, kW⟩
  subst hmD
  rcases m with _ | n
  · obtain rfl : d = -1 := by omega
    obtain rfl := last_one hr (outL_end hO)
    simp -implicitDefEqProofs [r7, outAV, optN, errN]
    exact kW
  · obtain rfl : d = (n : Int) := by omega
    have hn : n < 157054 := by have := hO.2.1; omega
    have hmm : mm ≤ 1439 := hO.1
    have hoM := fun h => outL_month (n := n) ht hO h
    have hcm := civ_month hn
    simp -implicitDefEqProofs [r7]
    refine ACall.eq (c_of hn) ?_
    generalize civ n = cv at *
    obtain ⟨Y, M, Dd⟩ := cv
    simp only at hcm hoM
    simp -implicitDefEqProofs
    refine AAlloc.intro fun b9 h9 => ?_
    have n29 : b2 ≠ b9 := by intro e; subst e; rw [k2] at h9; cases h9
    have n92 := n29.symm
    simp -implicitDefEqProofs [r2, n29, n92, k2]
    generalize hK : Heap.set K b9 _ = K1
    have k21 : K1 b2 = some (.cells (exC x) 42) := by rw [← hK]; simp [Heap.set, n29, k2]
    have k9 : K1 b9 = some (.cells [.sc (.int .i64 Y), .sc (.int .i64 M), .sc (.int .i64 Dd)] 46) := by rw [← hK]; simp [Heap.set]
    have kW1 : HWk H K1 := by rw [← hK]; exact HWk.new (kW.none h9) kW
    clear hK
    refine ACall.eq (c_has x.d M hx.d) ?_
    cases hM : hasB x.d.bits M with
    | false =>
      obtain ⟨q1, hq1⟩ : ∃ q, Dd - 1 = q := ⟨_, rfl⟩
      obtain ⟨q2, hq2⟩ : ∃ q, n - q1 = q := ⟨_, rfl⟩
      have w4 : IntKind.i64.wrap ((Dd : Int) - 1) = (q1 : Int) := wsub (b := 1) hq1 (by omega) (by omega)
      have w5 : IntKind.i64.wrap ((n : Int) - (q1 : Int)) = (q2 : Int) := wsub hq2 (by omega) (by omega)
      have w6 : IntKind.i64.wrap ((q2 : Int) - 1) = (q2 : Int) - 1 := wrap_i64 (by omega) (by omega)
      have hO' := hoM hM
      rw [show n + 1 - Dd = q2 by omega] at hO'
      simp -implicitDefEqProofs [r7, k9, w4, w5, w6]
      exact AGo.again ih (m' := q2) (by omega) (HLe.refl _) ⟨q2, 1439, _, rfl, rfl, hO', by simp [r2], by simp, by simp, k21, kW1⟩
    | true =>
      have w7 : IntKind.i64.wrap ((n : Int) - 1) = (n : Int) - 1 := wrap_i64 (by omega) (by omega)
      simp -implicitDefEqProofs [r2, r7, k21]
      refine ACall.eq (c_nfits x hx hn) ?_
      rw [hm]
      cases hdb : dayB x n with
      | false =>
        simp -implicitDefEqProofs [r7, w7]
        exact AGo.again ih (m' := n) (by omega) (HLe.refl _) ⟨n, 1439, _, rfl, rfl, outL_day ht hO hdb, by simp [r2], by simp, by simp, k21, kW1⟩
      | true =>
        obtain ⟨hh, hhh⟩ : ∃ q, mm / 60 = q := ⟨_, rfl⟩
        have w8 : IntKind.i64.wrap ((mm : Int) / 60) = (hh : Int) := wdiv (b := 60) hhh (by omega)
        have hI := inL_init hO hdb
        rw [hhh] at hI
        simp -implicitDefEqProofs [r8, w8]
        refine AGo.rounds (fun m ρ K => ∃ (HH m2 : Nat) (h : Int), m = HH ∧ h = (HH : Int) - 1 ∧ InL x t n HH (m2 % 60) ∧ m2 ≤ 1439 ∧ ρ 2 = .sc (.pointer (some ⟨b2, 0, none⟩)) ∧ ρ 7 = .sc (.int .i64 n) ∧ ρ 8 = .sc (.int .i64 m2) ∧ ρ 11 = .sc (.int .i64 h) ∧ K = K1) ?_ (m := hh + 1) (HLe.refl _)
          ⟨hh + 1, mm, hh, rfl, by omega, hI, hmm, by simp [r2], by simp [r7], by simp [r8], by simp, rfl⟩
        clear hI hmm hO r2 r7 r8 hoM
        rintro m' ρ' K ih2 ⟨HH, m2, hv, hmH, hhv, hI, hm2, r2, r7, r8, r11, rfl⟩
        subst hmH
        rcases m' with _ | h
        · obtain rfl : hv = -1 := by omega
          simp -implicitDefEqProofs [r11, r7, w7]
          exact AGo.again ih (m' := n) (by omega) (HLe.refl _) ⟨n, 1439, _, rfl, rfl, inL_end hI, by simp [r2], by simp, by simp, k21, kW1⟩
        · obtain rfl : hv = (h : Int) := by omega
          have hh24 : h ≤ 23 := by have := hI.2.1; omega
          simp -implicitDefEqProofs [r11, r2, k21]
          refine ACall.eq (c_top x.b h hx.b (by omega)) ?_
          cases htb : topB x.b.bits h with
          | none =>
            have hno := topB_none htb
            simp -implicitDefEqProofs [topAV, r7, w7]
            exact AGo.again ih (m' := n) (by omega) (HLe.refl _) ⟨n, 1439, _, rfl, rfl, inL_none ht hI (fun j hj => by rw [has_bit (by omega)]; exact hno j hj), by simp [r2], by simp, by simp, k21, kW1⟩
          | some h' =>
            obtain ⟨g1, g2, g3⟩ := topB_some htb
            have g2' : hasB x.b.bits (h' : Int) = true := by rw [has_bit (by omega)]; exact g2
            simp -implicitDefEqProofs [topAV, r11]
            refine ABr.join (fun ρ K' => K' = K ∧ ∃ m3 : Nat, m3 ≤ 1439 ∧ InL x t n (h' + 1) (m3 % 60) ∧ ρ 2 = .sc (.pointer (some ⟨b2, 0, none⟩)) ∧ ρ 7 = .sc (.int .i64 n) ∧ ρ 8 = .sc (.int .i64 m3) ∧ ρ 11 = .sc (.int .i64 h')) (fun k' hk' => ?_) ?_
            · by_cases hlt : h' < h
              · have hlt' : (h' : Int) < (h : Int) := by omega
                simp -implicitDefEqProofs [hlt, hlt']
                exact hk' _ _ ⟨rfl, 59, by omega, inL_down ht hI hlt (fun j j1 j2 => by rw [has_bit (by omega)]; exact g3 j j1 j2), by simp [r2], by simp [r7], by simp, by simp⟩
              · obtain rfl : h' = h := by omega
                simp -implicitDefEqProofs
                exact hk' _ _ ⟨rfl, m2, hm2, hI, by simp [r2], by simp [r7], by simp [r8], by simp [r11]⟩
            · clear r2 r7 r8 r11
              rintro ρ2 K' ⟨rfl, m3, hm3, hI3, r2, r7, r8, r11⟩
              obtain ⟨m4, hm4⟩ : ∃ q, m3 % 60 = q := ⟨_, rfl⟩
              have w9 : (m3 : Int).tmod 60 = (m4 : Int) := wmod (b := 60) hm4
              rw [hm4] at hI3
              have hm59 : m4 ≤ 59 := hI3.1
              simp -implicitDefEqProofs [r2, r8, k21, w9]
              refine ACall.eq (c_top x.a m4 hx.a hm59) ?_
              cases hta : topB x.a.bits m4 with
              | none =>
                have hno := topB_none hta
                have w10 : IntKind.i64.wrap ((h' : Int) - 1) = (h' : Int) - 1 := wrap_i64 (by omega) (by omega)
                simp -implicitDefEqProofs [topAV, r11, w10]
                exact AGo.again ih2 (m' := h') (by omega) (HLe.refl _) ⟨h', 59, _, rfl, rfl, inL_min ht hI3 (fun j hj => by rw [has_bit (by omega)]; exact hno j hj), by omega, by simp [r2], by simp [r7], by simp, by simp, rfl⟩
              | some m5 =>
                obtain ⟨f1, f2, f3⟩ := topB_some hta
                have f2' : hasB x.a.bits (m5 : Int) = true := by rw [has_bit (by omega)]; exact f2
                obtain rfl := last_one hr (inL_found ht hm hI3 g2' f2' f1 (fun j j1 j2 => by rw [has_bit (by omega)]; exact f3 j j1 j2))
                obtain ⟨P1, hP1⟩ : ∃ q, n * 86400 = q := ⟨_, rfl⟩
                obtain ⟨P2, hP2⟩ : ∃ q, h' * 3600 = q := ⟨_, rfl⟩
                obtain ⟨P3, hP3⟩ : ∃ q, P1 + P2 = q := ⟨_, rfl⟩
                obtain ⟨P4, hP4⟩ : ∃ q, m5 * 60 = q := ⟨_, rfl⟩
                obtain ⟨P5, hP5⟩ : ∃ q, P3 + P4 = q := ⟨_, rfl⟩
                have v1 : IntKind.i64.wrap ((n : Int) * 86400) = (P1 : Int) := wmul (b := 86400) hP1 (by omega)
                have v2 : IntKind.i64.wrap ((h' : Int) * 3600) = (P2 : Int) := wmul (b := 3600) hP2 (by omega)
                have v3 : IntKind.i64.wrap ((P1 : Int) + (P2 : Int)) = (P3 : Int) := wadd hP3 (by omega)
                have v4 : IntKind.i64.wrap ((m5 : Int) * 60) = (P4 : Int) := wmul (b := 60) hP4 (by omega)
                have v5 : IntKind.i64.wrap ((P3 : Int) + (P4 : Int)) = (P5 : Int) := wadd hP5 (by omega)
                rw [hP1, hP2, hP3, hP4, hP5]
                simp -implicitDefEqProofs [topAV, r7, r11, v1, v2, v3, v4, v5, outAV, optN, errN]
                exact kW1
end Go.Proofs.YtmoncokklkiikaaGreatDoor
namespace Go.Proofs.YtmoncokklkiikaaGreatDoor
open Rg Go
variable {H : Heap}
theorem shr_succ (b i : Nat) : shr b i / 2 = shr b (i + 1) := by
  unfold shr
  rw [Nat.shiftRight_succ]
theorem shr_half {b i : Nat} (hb : b < 18446744073709551616) : IntKind.u64.wrap ((shr b i : Int) / 2) = (shr b (i + 1) : Int) := by
  have h1 := shr_lt (i + 1) hb
  have e : (shr b i : Int) / 2 = ((shr b i / 2 : Nat) : Int) := by push_cast; rfl
  rw [e, shr_succ]
  exact wrap_u64 (by omega) (by omega)
theorem shr_odd (b i : Nat) : ((shr b i : Int).tmod 2 = 1) = (b.testBit i = true) := by
  have e : (shr b i : Int).tmod 2 = ((shr b i % 2 : Nat) : Int) := rfl
  rw [e, Nat.testBit_eq_decide_div_mod_eq]
  unfold shr
  rw [Nat.shiftRight_eq_div_pow]
  simp only [decide_eq_true_eq]
  apply propext
  omega
theorem c_refHas (f : Fld) (n : Int) (hf : f.bits < 18446744073709551616) : AOk Tryz.prog 113 [fAV f, .sc (.int .i64 n)] H (.sc (.bool (hasB f.bits n))) H := by
  refine ACalls.into Tryz.func113 rfl Tryz.ntmps113 Tryz.results113 (by simp) ?_
  simp -implicitDefEqProofs [fAV]
  refine AAlloc.intro fun b hb => ?_
  by_cases h0 : n < 0
  · have e : hasB f.bits n = false := by simp [hasB]; omega
    simp -implicitDefEqProofs [h0, e]
    exact HWk.new hb (HWk.refl _)
  · by_cases h1 : 63 < n
    · have e : hasB f.bits n = false := by simp [hasB]; omega
      simp -implicitDefEqProofs [h0, h1, e]
      exact HWk.new hb (HWk.refl _)
    · obtain ⟨N, rfl⟩ := Int.eq_ofNat_of_zero_le (a := n) (by omega)
      have hN : N ≤ 63 := by omega
      have e : hasB f.bits (N : Int) = f.bits.testBit N := by simp [hasB]; omega
      rw [e]
      simp -implicitDefEqProofs [h0, h1]
      refine AGo.rounds (fun m ρ K => ∃ i : Nat, i ≤ N ∧ m = N - i ∧ ρ 1 = .sc (.int .i64 N) ∧ ρ 5 = .sc (.int .u64 (shr f.bits i)) ∧ ρ 6 = .sc (.int .i64 i) ∧ HWk H K) ?_ (m := N) (HLe.refl _) ⟨0, by omega, rfl, by simp, by simp [shr], by simp, HWk.new hb (HWk.refl _)⟩
      rintro m ρ K ih ⟨i, hi, rfl, r1, r5, r6, hW⟩
      by_cases hlt : i < N
      · have hlt' : (i : Int) < (N : Int) := by omega
        have hwi : IntKind.i64.wrap ((i : Int) + 1) = ((i + 1 : Nat) : Int) := by rw [wrap_i64 (by omega) (by omega)]; push_cast; rfl
        simp -implicitDefEqProofs [r1, r5, r6, hlt, shr_half hf, hwi]
        exact AGo.again ih (m' := N - (i + 1)) (by omega) (HLe.refl _) ⟨i + 1, by omega, rfl, by simp [r1], by simp, by simp, hW⟩
      · obtain rfl : i = N := by omega
        simp -implicitDefEqProofs [r1, r5, r6, shr_odd]
        exact hW
end Go.Proofs.YtmoncokklkiikaaGreatDoor
namespace Go.Proofs.YtmoncokklkiikaaGreatDoor
open Rg Go
variable {H : Heap}
theorem c_refSplit (s : List UInt8) (c : UInt8) (hs : s.length ≤ 1000000) : AOk Tryz.prog 177 [str s, .sc (.int .u8 c.toNat)] H (.sl (strL (sp c s)) .no) H := by
  refine ACalls.into Tryz.func177 rfl Tryz.ntmps177 Tryz.results177 (by simp) ?_
  simp -implicitDefEqProofs
  refine AGo.rounds (fun m ρ K => ∃ (a i : Nat) (out : List (List UInt8)) (t : Tok), a ≤ i ∧ i ≤ s.length ∧ m = s.length - i ∧ ρ 0 = str s ∧ ρ 1 = .sc (.int .u8 c.toNat) ∧ ρ 5 = .sl (strL out) t ∧ ρ 6 = .sc (.int .i64 a) ∧ ρ 7 = .sc (.int .i64 i) ∧
    out.length ≤ a ∧ out ++ sp c (s.drop a) = sp c s ∧ c ∉ (s.drop a).take (i - a) ∧ Grows H (strL out) 1 9 t K) ?_ (m := s.length) (HLe.refl _)
    ⟨0, 0, [], .nil, by omega, by omega, by omega, by simp, by simp, by simp, by simp, by simp, by simp, by simp, by simp, Grows.zero⟩
  rintro m ρ K ih ⟨a, i, out, t, hai, hi, rfl, r0, r1, r5, r6, r7, hol, hsp, hno, hg⟩
  by_cases hlt : i < s.length
  · have hwi : IntKind.i64.wrap ((i : Int) + 1) = ((i + 1 : Nat) : Int) := by rw [wrap_i64 (by omega) (by omega)]; push_cast; rfl
    have hd : (s.drop a).drop (i - a) = s[i] :: s.drop (i + 1) := by
      rw [List.drop_drop, show a + (i - a) = i by omega, List.drop_eq_getElem_cons hlt]
    have hsplit : s.drop a = (s.drop a).take (i - a) ++ s[i] :: s.drop (i + 1) := by rw [← hd, List.take_append_drop]
    by_cases hc : s[i] = c
    · have hc' : ((s[i]).toNat : Int) = (c.toNat : Int) := by rw [hc]
      have hai' : (a : Int) ≤ (i : Int) := by omega
      have hi' : (i : Int) ≤ s.length := by omega
      simp -implicitDefEqProofs [r0, r1, r5, r6, r7, hlt, hc', hai', hi']
      refine AApp.grows el_89 hg (HLe.refl _) (by simp) (szs_strs _) (by simp [szs, AV.cells]) (by simp; omega) (by simp [maxLen]; omega) fun t' K' Hn hg' hl' => ?_
      simp -implicitDefEqProofs [r7, hwi]
      have hcur : (s.drop a).take (i - a) = (s.take i).drop a := by rw [List.drop_take]
      refine AGo.again ih (m' := s.length - (i + 1)) (by omega) hl' ⟨i + 1, i + 1, out ++ [(s.take i).drop a], t', by omega, by omega, rfl, by simp [r0], by simp [r1], by simp, by simp, by simp, by simp; omega, ?_, by simp, by simpa using hg'⟩
      rw [← hsp, hsplit, hc, sp_app, sp_not hno, hcur]
      simp
    · have hc' : ¬ ((s[i]).toNat : Int) = (c.toNat : Int) := by
        intro h; apply hc; apply UInt8.toNat_inj.1; omega
      simp -implicitDefEqProofs [r0, r1, r7, hlt, hc', hwi]
      refine AGo.again ih (m' := s.length - (i + 1)) (by omega) (HLe.refl _) ⟨a, i + 1, out, t, by omega, by omega, rfl, by simp [r0], by simp [r1], by simp [r5], by simp [r6], by simp, hol, hsp, ?_, hg⟩
      rw [show i + 1 - a = (i - a) + 1 by omega, List.take_add_one]
      have he : (s.drop a)[i - a]? = some s[i] := by rw [List.getElem?_drop, show a + (i - a) = i by omega, List.getElem?_eq_getElem hlt]
      rw [he]
      simp only [Option.toList_some, List.mem_append, List.mem_singleton, not_or]
      exact ⟨hno, fun h => hc h.symm⟩
  · obtain rfl : i = s.length := by omega
    have hai' : (a : Int) ≤ s.length := by omega
    simp -implicitDefEqProofs [r0, r5, r6, r7, hai']
    refine AApp.grows el_89 hg (HLe.refl _) (by simp) (szs_strs _) (by simp [szs, AV.cells]) (by simp; omega) (by simp [maxLen]; omega) fun t' K' Hn hg' hl' => ?_
    have hno' : c ∉ s.drop a := by rw [List.take_of_length_le (by simp)] at hno; exact hno
    rw [← hsp, sp_not hno']
    simp -implicitDefEqProofs
    exact ((hg'.le).trans hl').wk
end Go.Proofs.YtmoncokklkiikaaGreatDoor
namespace Go.Proofs.YtmoncokklkiikaaGreatDoor
open Rg Go
variable {H : Heap}
theorem c_refLow {k : Int} (hk : isK k = true) : AOk Tryz.prog 149 [.sc (.int .i64 k)] H (.sc (.int .i64 (lowK k))) H := by
  refine ACalls.into Tryz.func149 rfl Tryz.ntmps149 Tryz.results149 (by simp) ?_
  rcases isK_cases hk with rfl | rfl | rfl | rfl | rfl <;> simp -implicitDefEqProofs [lowK]
theorem c_refHigh {k : Int} (hk : isK k = true) : AOk Tryz.prog 150 [.sc (.int .i64 k)] H (.sc (.int .i64 (mostK k))) H := by
  refine ACalls.into Tryz.func150 rfl Tryz.ntmps150 Tryz.results150 (by simp) ?_
  rcases isK_cases hk with rfl | rfl | rfl | rfl | rfl <;> simp -implicitDefEqProofs [mostK]
end Go.Proofs.YtmoncokklkiikaaGreatDoor
namespace Go.Proofs.YtmoncokklkiikaaGreatDoor
open Rg Go
section
variable {b : Nat} (hb : b < 18446744073709551616)
include hb
end
end Go.Proofs.YtmoncokklkiikaaGreatDoor
namespace Go.Proofs.YtmoncokklkiikaaGreatDoor
open Rg Go
def lowB (b : UInt8) : UInt8 := if 65 ≤ b.toNat ∧ b.toNat ≤ 90 then b + 32 else b
theorem lowB_high {b : UInt8} (h : 128 ≤ b.toNat) : lowB b = b := by unfold lowB; rw [if_neg (by omega)]
theorem lowB_low {b : UInt8} (h : b.toNat < 128) : (lowB b).toNat < 128 ∧ ((lowB b).toNat : Int) = lowR b.toNat := by
  unfold lowB lowR
  by_cases h1 : 65 ≤ b.toNat ∧ b.toNat ≤ 90
  · have e : (b + 32).toNat = b.toNat + 32 := by rw [UInt8.toNat_add]; simp; omega
    rw [if_pos h1, if_pos (by omega), e]
    omega
  · rw [if_neg h1, if_neg (by omega)]
    exact ⟨h, rfl⟩
theorem enc_low {b : UInt8} (h : b.toNat < 128) : Lib.encodeRune (lowR b.toNat) = [lowB b] := by
  obtain ⟨h1, h2⟩ := lowB_low h
  rw [← h2]
  unfold Lib.encodeRune
  rw [Lib.encodeRuneZ_one (by omega) (by omega)]
  simp
theorem mapD_low {b : UInt8} (h : b.toNat < 128) (t : List UInt8) : Lib.mapD lowR (b :: t) = lowB b :: Lib.mapD lowR t := by
  have h2 := (lowB_low h).2
  rw [Lib.mapD_step _ _ (by simp), Lib.decodeL_ascii b t h]
  simp only [List.drop_one, List.tail_cons]
  rw [if_pos (by omega), enc_low h]
  rfl
theorem mapD_high {b : UInt8} (h : 128 ≤ b.toNat) (t : List UInt8) : ∃ x r, Lib.mapD lowR (b :: t) = x :: r ∧ 128 ≤ x.toNat := by
  rw [Lib.mapD_step _ _ (by simp)]
  have hw := Lib.decodeL_width (b :: t)
  by_cases hv : (Lib.decodeL (b :: t)).1 = 65533 ∧ (Lib.decodeL (b :: t)).2 = 1
  · rw [hv.1]
    have e : lowR ((65533 : Nat) : Int) = 65533 := rfl
    rw [e]
    exact ⟨239, _, rfl, by decide⟩
  · have e := Lib.encode_decode (b :: t) (by simp) hv
    obtain ⟨w, hw'⟩ : ∃ w, (Lib.decodeL (b :: t)).2 = w + 1 := ⟨(Lib.decodeL (b :: t)).2 - 1, by omega⟩
    rw [hw', List.take_succ_cons] at e
    have hlow : lowR ((Lib.decodeL (b :: t)).1 : Int) = ((Lib.decodeL (b :: t)).1 : Int) := by
      unfold lowR
      rw [if_neg]
      intro hr
      unfold Lib.encodeRune at e
      rw [Lib.encodeRuneZ_one (by omega) (by omega)] at e
      simp only [List.map_cons, List.map_nil, List.cons.injEq] at e
      have e1 := congrArg UInt8.toNat e.1
      simp at e1
      omega
    rw [hlow, if_pos (by omega), e]
    exact ⟨b, _, rfl, h⟩
theorem mapD_iff : ∀ (s m : List UInt8), (∀ x ∈ m, x.toNat < 128) → (Lib.mapD lowR s = m ↔ s.map lowB = m)
  | [], m, _ => by simp [Lib.mapD_nil]
  | b :: t, m, hm => by
    by_cases h : b.toNat < 128
    · rw [mapD_low h, List.map_cons]
      cases m with
      | nil => simp
      | cons x m => simp only [List.cons.injEq]; rw [mapD_iff t m fun y hy => hm y (by simp [hy])]
    · obtain ⟨x, r, hx, hx2⟩ := mapD_high (b := b) (by omega) t
      rw [hx, List.map_cons, lowB_high (by omega)]
      cases m with
      | nil => simp
      | cons y m =>
        have hy := hm y (by simp)
        constructor
        · intro e; simp at e; rw [← e.1] at hy; omega
        · intro e; simp at e; rw [← e.1] at hy; omega
theorem idxL_low (s : List UInt8) : ∀ (zs : List (List UInt8)) (i : Nat), (∀ z ∈ zs, ∀ x ∈ z, x.toNat < 128) → idxL zs (Lib.mapD lowR s) i = idxL zs (s.map lowB) i
  | [], i, _ => rfl
  | z :: zs, i, h => by
    unfold idxL
    have e : (z = Lib.mapD lowR s) = (z = s.map lowB) := by
      apply propext
      rw [eq_comm, mapD_iff s z (h z (by simp)), eq_comm]
    simp only [e]
    rw [idxL_low s zs (i + 1) fun y hy => h y (by simp [hy])]
theorem idxL_len {n : Nat} {x : List UInt8} (hx : x.length ≠ n) : ∀ (zs : List (List UInt8)) (i : Nat), (∀ z ∈ zs, z.length = n) → idxL zs x i = -1
  | [], i, _ => rfl
  | z :: zs, i, h => by
    unfold idxL
    rw [if_neg (fun e => hx (by rw [← e]; exact h z (by simp))), idxL_len hx zs (i + 1) fun y hy => h y (by simp [hy])]
def refNum (k : Int) (s : List UInt8) : Int := if (numK k s).2 = true then (numK k s).1 else -1
def isD (b : UInt8) : Bool := decide (48 ≤ b.toNat) && decide (b.toNat ≤ 57)
theorem isD_digs (b : UInt8) : digs.contains b = isD b := by
  have h : ∀ n, n < 256 → digs.contains (UInt8.ofNat n) = isD (UInt8.ofNat n) := by decide +kernel
  have := h b.toNat (UInt8.toNat_lt b)
  simpa using this
theorem digitVal_isD {b : UInt8} (h : isD b = true) : Lib.digitVal b = some (b.toNat - 48) := by
  have h0 : ∀ n, n < 256 → isD (UInt8.ofNat n) = true → Lib.digitVal (UInt8.ofNat n) = some ((UInt8.ofNat n).toNat - 48) := by decide +kernel
  have := h0 b.toNat (UInt8.toNat_lt b)
  simpa [h] using this
theorem dig2_iff (s : List UInt8) : dig2 s = (decide (s.length = 1 ∨ s.length = 2) && s.all isD) := by
  unfold dig2
  have h : decide (Lib.trimS s digs = []) = s.all isD := by
    rw [Bool.eq_iff_iff]
    simp only [decide_eq_true_eq, trimS_nil, isD_digs, List.all_eq_true]
  rw [h]
  congr 1
  rw [Bool.eq_iff_iff]
  simp
  omega
def digV (s : List UInt8) : Nat := s.foldl (fun n b => 10 * n + (b.toNat - 48)) 0
theorem refNum_dig {k : Int} {s : List UInt8} (h1 : s.length = 1 ∨ s.length = 2) (h2 : s.all isD = true) : refNum k s = digV s := by
  have hd : dig2 s = true := by rw [dig2_iff, h2]; simp [h1]
  unfold refNum numK
  rw [if_pos hd]
  simp only [if_true]
  have e0 : ∀ {a : UInt8}, isD a = true → (a == 45) = false ∧ (a == 43) = false := fun {a} h => by
    simp [isD] at h
    constructor <;> (apply beq_false_of_ne; rintro rfl; simp at h)
  match s, h1, h2 with
  | [a], _, h2 =>
    simp at h2
    have e := digitVal_isD h2
    simp [Lib.atoi, e0 h2, Lib.decNat, Lib.decFrom, e, digV]
  | [a, b], _, h2 =>
    simp at h2
    have e := digitVal_isD h2.1
    have e' := digitVal_isD h2.2
    simp [Lib.atoi, e0 h2.1, Lib.decNat, Lib.decFrom, e, e', digV]
    omega
  | [], h1, _ => simp at h1
  | a :: b :: c :: r, h1, _ => simp at h1
theorem refNum_name {k : Int} {s : List UInt8} (h : (decide (s.length = 1 ∨ s.length = 2) && s.all isD) = false) : refNum k s = nameK k (s.map lowB) := by
  have hd : dig2 s = false := by rw [dig2_iff, h]
  have e : nameK k (Lib.mapD lowR s) = nameK k (s.map lowB) := by
    unfold nameK
    rw [idxL_low s months 0 (by decide), idxL_low s days 0 (by decide)]
  have hle := nameK_le k (s.map lowB)
  have hnk : numK k s = (nameK k (s.map lowB), decide (0 ≤ nameK k (s.map lowB))) := by
    unfold numK
    rw [if_neg (by simp [hd]), e]
  unfold refNum
  rw [hnk]
  simp only [decide_eq_true_eq]
  split <;> omega
theorem nameK_len {k : Int} {s : List UInt8} (h : s.length ≠ 3) : nameK k s = -1 := by
  unfold nameK
  rw [idxL_len h months 0 (by decide), idxL_len h days 0 (by decide)]
  (repeat' split) <;> first | rfl | omega
theorem nameK_kind {k : Int} (s : List UInt8) (h3 : k ≠ 3) (h4 : k ≠ 4) : nameK k s = -1 := by unfold nameK; rw [if_neg h3, if_neg h4]
end Go.Proofs.YtmoncokklkiikaaGreatDoor
namespace Go.Proofs.YtmoncokklkiikaaGreatDoor
open Rg Go
theorem idxL_mem {y : UInt8} {x : List UInt8} (hx : y ∈ x) : ∀ (zs : List (List UInt8)) (i : Nat), (∀ z ∈ zs, y ∉ z) → idxL zs x i = -1
  | [], i, _ => rfl
  | z :: zs, i, h => by
    unfold idxL
    rw [if_neg (fun e => h z (by simp) (by rw [e]; exact hx)), idxL_mem hx zs (i + 1) fun w hw => h w (by simp [hw])]
theorem refNum_bad {k : Int} {s : List UInt8} {c : UInt8} (hc : c = 45 ∨ c = 47) (h : c ∈ s) : refNum k s = -1 := by
  have hall : s.all isD = false := by
    cases ha : s.all isD with
    | false => rfl
    | true =>
      have := List.all_eq_true.1 ha c h
      rcases hc with rfl | rfl <;> simp [isD] at this
  rw [refNum_name (by rw [hall]; simp)]
  have hm : c ∈ s.map lowB := List.mem_map.2 ⟨c, h, by rcases hc with rfl | rfl <;> decide⟩
  unfold nameK
  rw [idxL_mem hm months 0 (by rcases hc with rfl | rfl <;> decide), idxL_mem hm days 0 (by rcases hc with rfl | rfl <;> decide)]
  (repeat' split) <;> first | rfl | omega
theorem refNum_le (k : Int) (s : List UInt8) : -1 ≤ refNum k s ∧ refNum k s ≤ 99 := by
  have := numK_le k s
  unfold refNum
  split <;> omega
theorem numK_neg {k : Int} {s : List UInt8} : (numK k s).2 = false ↔ refNum k s < 0 := by
  unfold refNum
  cases h : (numK k s).2 with
  | false => simp
  | true =>
    simp only [if_true]
    constructor
    · intro h; cases h
    · intro hn
      exfalso
      unfold numK at h hn
      split at h
      · rename_i hd
        rw [if_pos hd] at hn
        obtain ⟨n, h1, _⟩ := dig2_atoi hd
        rw [h1] at hn
        simp at hn
      · rename_i hd
        rw [if_neg hd] at hn
        simp at h hn
        omega
theorem refNum_of {k : Int} {s : List UInt8} (h : 0 ≤ refNum k s) : (numK k s).2 = true ∧ (numK k s).1 = refNum k s := by
  have h2 : (numK k s).2 = true := by
    cases hc : (numK k s).2 with
    | true => rfl
    | false => have := numK_neg.1 hc; omega
  refine ⟨h2, ?_⟩
  unfold refNum
  rw [if_pos h2]
def rowFrom (step : Nat) (last : Int) : Nat → Nat → List Nat
  | 0, _ => []
  | f + 1, n => if (n : Int) ≤ last then n :: rowFrom step last f (n + step) else []
def refEnd (first last step : Int) : List Nat × Int := if step = 0 ∨ 59 < step then ([], 61) else (rowFrom step.toNat last 200 first.toNat, 0)
def refEnds (k a b step : Int) : List Nat × Int :=
  if a < 0 ∨ b < 0 then ([], 60) else if a < lowK k ∨ highK k < a ∨ highK k < b ∨ b < a then ([], 61) else refEnd a b step
def refBody (k : Int) (body : List UInt8) (two : Bool) (step : Int) : List Nat × Int :=
  if body = [42] then refEnd (lowK k) (mostK k) step else
  match sp 45 body with
  | [a] => if two = true then ([], 60) else refEnds k (refNum k a) (refNum k a) step
  | [a, b] => refEnds k (refNum k a) (refNum k b) step
  | _ => ([], 60)
def refItem (k : Int) (s : List UInt8) : List Nat × Int :=
  match sp 47 s with
  | [a] => refBody k a false 1
  | [a, b] => if refNum 0 b < 0 then ([], 60) else refBody k a true (refNum 0 b)
  | _ => ([], 60)
def orRow (M : Nat) (l : List Nat) (set : Nat) : Nat := l.foldl (fun st n => st ||| pow2 (modN n M)) set
theorem setFrom_row (M step : Nat) (last : Int) : ∀ (f n set : Nat), setFrom M step last f n set = orRow M (rowFrom step last f n) set
  | 0, n, set => rfl
  | f + 1, n, set => by
    unfold setFrom rowFrom
    by_cases h : (n : Int) ≤ last
    · rw [if_pos h, if_pos h, setFrom_row M step last f]; rfl
    · rw [if_neg h, if_neg h]; rfl
def asItem (k : Int) (r : List Nat × Int) : Nat × Int := (orRow (mostK k + 1).toNat r.1 0, r.2)
theorem fin_ref {k first last step : Int} (hle : first ≤ last) (hs : 0 ≤ step) : finK k first last step 0 = asItem k (refEnd first last step) := by
  unfold finK refEnd asItem
  rw [if_neg (by simp)]
  by_cases h : step = 0 ∨ 59 < step
  · rw [if_pos (by omega), if_pos h]; rfl
  · rw [if_neg (by omega), if_neg h, setFrom_row]
theorem fin_err {k first last step e : Int} (h : e ≠ 0) : finK k first last step e = (0, e) := by unfold finK; rw [if_pos h]
theorem ends_ref {k : Int} {a b : List UInt8} {step : Int} (hs : 0 ≤ step) : finK k (numK k a).1 (numK k b).1 step (takeE k b (takeE k a 0)) = asItem k (refEnds k (refNum k a) (refNum k b) step) := by
  unfold refEnds
  by_cases ha : refNum k a < 0
  · rw [if_pos (.inl ha)]
    have e1 : takeE k a 0 = 60 := by unfold takeE; rw [if_pos (numK_neg.2 ha)]
    have e2 : takeE k b 60 = 60 := by unfold takeE; split; rfl; rw [if_neg (by simp)]
    rw [e1, e2, fin_err (by decide)]; rfl
  · obtain ⟨a1, a2⟩ := refNum_of (k := k) (s := a) (by omega)
    by_cases hb : refNum k b < 0
    · rw [if_pos (.inr hb)]
      have e2 : ∀ e, takeE k b e = 60 := fun e => by unfold takeE; rw [if_pos (numK_neg.2 hb)]
      rw [e2, fin_err (by decide)]; rfl
    · obtain ⟨b1, b2⟩ := refNum_of (k := k) (s := b) (by omega)
      rw [if_neg (by omega)]
      have e1 : takeE k a 0 = if refNum k a < lowK k ∨ highK k < refNum k a then 61 else 0 := by
        unfold takeE; rw [if_neg (by simp [a1]), a2]; simp
      have e2 : ∀ e, takeE k b e = if e = 0 ∧ (refNum k b < lowK k ∨ highK k < refNum k b) then 61 else e := fun e => by
        unfold takeE; rw [if_neg (by simp [b1]), b2]
      rw [e1, e2, a2, b2]
      by_cases c1 : refNum k a < lowK k ∨ highK k < refNum k a
      · rw [if_pos c1, if_neg (by omega), fin_err (by decide), if_pos (by omega)]; rfl
      · rw [if_neg c1]
        by_cases c2 : refNum k b < lowK k ∨ highK k < refNum k b
        · rw [if_pos ⟨rfl, c2⟩, fin_err (by decide), if_pos (by omega)]; rfl
        · rw [if_neg (fun h => c2 h.2)]
          by_cases c3 : refNum k b < refNum k a
          · rw [if_pos (by omega)]
            unfold finK asItem
            rw [if_neg (by simp), if_pos (.inl c3)]; rfl
          · rw [if_neg (by omega), fin_ref (by omega) hs]
theorem split_mem {c : UInt8} {s : List UInt8} (h : c ∈ s) : ∃ a b, s = a ++ c :: b ∧ c ∉ a := by
  induction s with
  | nil => cases h
  | cons x s ih =>
    by_cases hx : x = c
    · subst hx; exact ⟨[], s, rfl, by simp⟩
    · obtain ⟨a, b, rfl, h2⟩ := ih (by rcases List.mem_cons.1 h with h | h; exact absurd h.symm hx; exact h)
      exact ⟨x :: a, b, rfl, by simp [h2, Ne.symm hx]⟩
theorem sp_cases (c : UInt8) (s : List UInt8) : (sp c s = [s] ∧ ct c s = (s, [], false)) ∨ (∃ a b, sp c s = [a, b] ∧ ct c s = (a, b, true)) ∨ (∃ a b x y r, sp c s = a :: x :: y :: r ∧ ct c s = (a, b, true) ∧ c ∈ b) := by
  by_cases h : c ∈ s
  · obtain ⟨a, b, rfl, ha⟩ := split_mem h
    right
    rw [sp_app, sp_not ha, ct_app ha]
    by_cases hb : c ∈ b
    · right
      obtain ⟨a2, b2, rfl, ha2⟩ := split_mem hb
      rw [sp_app, sp_not ha2]
      cases he : sp c b2 with
      | nil => exact absurd he (sp_ne c b2)
      | cons y r => exact ⟨a, _, a2, y, r, rfl, rfl, hb⟩
    · left
      rw [sp_not hb]
      exact ⟨a, b, rfl, rfl⟩
  · exact .inl ⟨sp_not h, ct_not h⟩
theorem body_ref {k : Int} (hk : isK k = true) (body : List UInt8) (two : Bool) {step : Int} (hs : 0 ≤ step) : bodyK k body two step = asItem k (refBody k body two step) := by
  have hb := bounds_le hk
  unfold bodyK refBody
  by_cases h : body = [42]
  · rw [if_pos h, if_pos h, fin_ref (by omega) hs]
  · rw [if_neg h, if_neg h, cut_ct]
    rcases sp_cases 45 body with ⟨h1, h2⟩ | ⟨a, b, h1, h2⟩ | ⟨a, b, x, y, r, h1, h2, h3⟩
    · rw [h1, h2]
      cases two with
      | true => simp [asItem, orRow]
      | false =>
        simp only [Bool.false_eq_true, false_and, if_false]
        have e := ends_ref (k := k) (a := body) (b := body) hs
        have e2 : takeE k body (takeE k body 0) = takeE k body 0 := by
          unfold takeE
          split
          · rfl
          · split
            · rw [if_neg (by simp)]
            · first | rfl | (rename_i h3; rw [if_neg h3])
        rw [e2] at e
        exact e
    · rw [h1, h2]
      simp only [Bool.true_eq_false, and_false, if_false, if_true]
      exact ends_ref hs
    · rw [h1, h2]
      simp only [Bool.true_eq_false, and_false, if_false, if_true]
      rw [ends_ref hs]
      unfold refEnds
      rw [if_pos (.inr (by rw [refNum_bad (.inl rfl) h3]; decide))]
theorem item_ref {k : Int} (hk : isK k = true) (s : List UInt8) : itemK k s = asItem k (refItem k s) := by
  unfold itemK refItem
  rw [cut_ct]
  rcases sp_cases 47 s with ⟨h1, h2⟩ | ⟨a, b, h1, h2⟩ | ⟨a, b, x, y, r, h1, h2, h3⟩
  · rw [h1, h2]
    simp only [Bool.false_eq_true, if_false]
    exact body_ref hk _ _ (by decide)
  · rw [h1, h2]
    simp only [if_true]
    by_cases hn : refNum 0 b < 0
    · rw [if_pos (numK_neg.2 hn), if_pos hn]; rfl
    · obtain ⟨b1, b2⟩ := refNum_of (k := 0) (s := b) (by omega)
      rw [if_neg (by simp [b1]), if_neg hn, b2]
      exact body_ref hk _ _ (by omega)
  · rw [h1, h2]
    simp only [if_true]
    rw [if_pos (numK_neg.2 (by rw [refNum_bad (.inr rfl) h3]; decide))]
    rfl
theorem rowFrom_in {step : Nat} {last : Int} (hs : 0 < step) : ∀ (f n : Nat), ∀ x ∈ rowFrom step last f n, n ≤ x ∧ (x : Int) ≤ last
  | 0, n, x, h => by simp [rowFrom] at h
  | f + 1, n, x, h => by
    unfold rowFrom at h
    split at h
    · rcases List.mem_cons.1 h with rfl | h
      · omega
      · have := rowFrom_in hs f _ x h; omega
    · simp at h
theorem refItem_in {k : Int} (hk : isK k = true) (s : List UInt8) : ∀ x ∈ (refItem k s).1, (x : Int) ≤ highK k := by
  have hb := bounds_le hk
  have hE : ∀ {first last step : Int}, 0 ≤ step → last ≤ highK k → ∀ x ∈ (refEnd first last step).1, (x : Int) ≤ highK k := fun {first last step} hs hl x hx => by
    unfold refEnd at hx
    split at hx
    · simp at hx
    · have := rowFrom_in (by omega) _ _ x hx; omega
  have hEs : ∀ {a b step : Int}, 0 ≤ step → ∀ x ∈ (refEnds k a b step).1, (x : Int) ≤ highK k := fun {a b step} hs x hx => by
    unfold refEnds at hx
    split at hx
    · simp at hx
    · split at hx
      · simp at hx
      · exact hE hs (by omega) x hx
  have hB : ∀ {body : List UInt8} {two : Bool} {step : Int}, 0 ≤ step → ∀ x ∈ (refBody k body two step).1, (x : Int) ≤ highK k := fun {body two step} hs x hx => by
    unfold refBody at hx
    split at hx
    · exact hE hs (by omega) x hx
    · split at hx
      · split at hx
        · simp at hx
        · exact hEs hs x hx
      · exact hEs hs x hx
      · simp at hx
  intro x hx
  unfold refItem at hx
  split at hx
  · exact hB (by decide) x hx
  · split at hx
    · simp at hx
    · exact hB (by omega) x hx
  · simp at hx
end Go.Proofs.YtmoncokklkiikaaGreatDoor
