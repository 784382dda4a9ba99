/- Fields: an item. -/
import Derived.Test.YtdpgnbinekcgdaaGreatDoorFieldN
namespace Go.Proofs.YtdpgnbinekcgdaaGreatDoor
open Rg Go

variable {H : Heap}

theorem c_take (hG : Glob H) {bk be bl bh : Nat} {k e : Int} (hk : H bk = some (.cells [.sc (.int .i64 k)] 3)) (he : H be = some (.cells [.sc (.int .i64 e)] 26))
    (hl : H bl = some (.cells [.sc (.int .i64 (lowK k))] 3)) (hh : H bh = some (.cells [.sc (.int .i64 (highK k))] 3)) (w : List UInt8) (hw : w.length ≤ 1000000) :
    AOk Tryz.prog 83 [str w, .sc (.pointer (some ⟨bk, 0, none⟩)), .sc (.pointer (some ⟨be, 0, none⟩)), .sc (.pointer (some ⟨bl, 0, none⟩)), .sc (.pointer (some ⟨bh, 0, none⟩))] H
      (.sc (.int .i64 (numK k w).1)) (H.set be (.cells [.sc (.int .i64 (takeE k w e))] 26)) := by
  refine ACalls.into Tryz.func83 rfl Tryz.ntmps83 Tryz.results83 (by simp) ?_
  simp -implicitDefEqProofs [hk]
  refine ACall.eq (c_number hG k w hw) ?_
  unfold takeE
  cases hp : numK k w with
  | mk n ok =>
    cases ok with
    | false => simp -implicitDefEqProofs [he]
    | true =>
      by_cases h0 : e = 0
      · by_cases h1 : n < lowK k
        · simp -implicitDefEqProofs [he, hl, hh, h0, h1]
        · by_cases h2 : highK k < n
          · simp -implicitDefEqProofs [he, hl, hh, h0, h1, h2]
          · simp -implicitDefEqProofs [he, hl, hh, h0, h1, h2]
            exact HWk.at_ he (by simp [h0]) (HWk.refl _)
      · simp -implicitDefEqProofs [he, hl, hh, h0]
        exact HWk.at_ he (by simp) (HWk.refl _)
theorem cut_len (s p : List UInt8) : (Lib.cut s p).1.length ≤ s.length ∧ (Lib.cut s p).2.1.length ≤ s.length := by
  unfold Lib.cut
  split
  · simp; omega
  · simp

theorem c_item (hG : Glob H) {k : Int} (hk : isK k = true) (s : List UInt8) (hs : s.length ≤ 1000000) :
    AOk Tryz.prog 45 [.sc (.int .i64 k), str s] H (.tup [.sc (.int .u64 (itemK k s).1), .sc (.int .i64 (itemK k s).2)]) H := by
  unfold itemK
  have hlen := cut_len s [47]
  generalize hc : Lib.cut s [47] = c at *
  obtain ⟨body, by_, st⟩ := c
  simp only at hlen ⊢
  obtain ⟨M, hM, hM7, hM60⟩ := mostK_nat hk
  have hbd := bounds_le hk
  generalize hres : (if st = true then _ else _ : Nat × Int) = res
  refine ACalls.into Tryz.func45 rfl Tryz.ntmps45 Tryz.results45 (by simp) ?_
  simp -implicitDefEqProofs
  refine AAlloc.intro fun b2 h2 => ?_
  simp -implicitDefEqProofs
  refine ACall.eq (c_bounds hk) ?_
  simp -implicitDefEqProofs
  refine AAlloc.intro fun b6 h6 => ?_
  have n62 : b6 ≠ b2 := by intro e; subst e; simp [Heap.set] at h6
  have n26 := n62.symm
  simp -implicitDefEqProofs
  refine AAlloc.intro fun b7 h7 => ?_
  have n72 : b7 ≠ b2 := by intro e; subst e; simp [Heap.set, n26] at h7
  have n76 : b7 ≠ b6 := by intro e; subst e; simp [Heap.set] at h7
  have n27 := n72.symm
  have n67 := n76.symm
  simp -implicitDefEqProofs [n67, n76]
  refine AAlloc.intro fun b9 h9 => ?_
  have n92 : b9 ≠ b2 := by intro e; subst e; simp [Heap.set, n27, n26] at h9
  have n96 : b9 ≠ b6 := by intro e; subst e; simp [Heap.set, n67] at h9
  have n97 : b9 ≠ b7 := by intro e; subst e; simp [Heap.set] at h9
  simp -implicitDefEqProofs
  have e9 : H b9 = none := by simpa [Heap.set, n92, n96, n97] using h9
  have kH : ∀ o2 o6 o7 o6' o7' o9, HWk H ((((((H.set b2 o2).set b6 o6).set b7 o7).set b6 o6').set b7 o7').set b9 o9) := fun o2 o6 o7 o6' o7' o9 => by
    have e6 : H b6 = none := (HLe.set_fresh h2).none h6
    have e7 : H b7 = none := (HLe.set_fresh h2).none ((HLe.set_fresh h6).none h7)
    exact HWk.new e9 (HWk.new e7 (HWk.new e6 (HWk.new e7 (HWk.new e6 (HWk.new h2 (HWk.refl _))))))
  have gH : ∀ o2 o6 o7 o6' o7' o9, Glob ((((((H.set b2 o2).set b6 o6).set b7 o7).set b6 o6').set b7 o7').set b9 o9) := fun o2 o6 o7 o6' o7' o9 => by
    have e6 : H b6 = none := (HLe.set_fresh h2).none h6
    have e7 : H b7 = none := (HLe.set_fresh h2).none ((HLe.set_fresh h6).none h7)
    refine hG.mono fun c us e => ?_
    have c2 : c ≠ b2 := by rintro rfl; rw [h2] at e; cases e
    have c6 : c ≠ b6 := by rintro rfl; rw [e6] at e; cases e
    have c7 : c ≠ b7 := by rintro rfl; rw [e7] at e; cases e
    have c9 : c ≠ b9 := by rintro rfl; rw [e9] at e; cases e
    simp [Heap.set, c2, c6, c7, c9, e]
  generalize hK : Heap.set _ b9 _ = K
  have k2 : K b2 = some (.cells [.sc (.int .i64 k)] 3) := by rw [← hK]; simp [Heap.set, n27, n26, n92.symm]
  have k6 : K b6 = some (.cells [.sc (.int .i64 (lowK k))] 3) := by rw [← hK]; simp [Heap.set, n67, n96.symm]
  have k7 : K b7 = some (.cells [.sc (.int .i64 (highK k))] 3) := by rw [← hK]; simp [Heap.set, n97.symm]
  have k9 : K b9 = some (.cells [.sc (.int .i64 0)] 26) := by rw [← hK]; simp [Heap.set]
  have kG : Glob K := by rw [← hK]; exact gH _ _ _ _ _ _
  have kW : HWk H K := by rw [← hK]; exact kH _ _ _ _ _ _
  clear kH gH hK
  refine ACall.eq (c_cut kG s [47] (by omega)) ?_
  rw [hc]
  simp -implicitDefEqProofs
  refine ABr.join (fun ρ K' => K' = K ∧ ∃ step : Int, ρ 6 = .sc (.pointer (some ⟨b6, 0, none⟩)) ∧ ρ 8 = .sc (.int .i64 (mostK k)) ∧ ρ 9 = .sc (.pointer (some ⟨b9, 0, none⟩)) ∧
    ρ 10 = .sc (.func (.func 83) #[] #[.pointer (some ⟨b2, 0, none⟩), .pointer (some ⟨b9, 0, none⟩), .pointer (some ⟨b6, 0, none⟩), .pointer (some ⟨b7, 0, none⟩)]) ∧
    ρ 11 = str body ∧ ρ 13 = .sc (.bool st) ∧ ρ 14 = .sc (.int .i64 step) ∧ -1 ≤ step ∧ step ≤ 99 ∧ bodyK k body st step = res) (fun k' hk' => ?_) ?_
  · cases st with
    | false =>
      simp -implicitDefEqProofs
      refine hk' _ _ ⟨rfl, 1, by simp, by simp, by simp, by simp, by simp, by simp, by simp, by omega, by omega, by simpa using hres⟩
    | true =>
      simp -implicitDefEqProofs
      refine ACall.eq (c_number kG 0 by_ (by omega)) ?_
      have hn := numK_le 0 by_
      simp only [if_true] at hres
      cases hp : (numK 0 by_).2 with
      | false =>
        rw [hp, if_pos rfl] at hres
        subst hres
        simp -implicitDefEqProofs [hp]
        exact kW
      | true =>
        rw [hp, if_neg (by simp)] at hres
        simp -implicitDefEqProofs [hp]
        refine hk' _ _ ⟨rfl, (numK 0 by_).1, by simp, by simp, by simp, by simp, by simp, by simp, by simp, by omega, by omega, hres⟩
  · rintro ρ K' ⟨rfl, step, h6, h8, h9, h10, h11, h13, h14, hs1, hs2, hr⟩
    simp -implicitDefEqProofs [h6, h8, h9, h10, h11, h13, h14, k6]
    refine ABr.join (fun ρ K' => ∃ first last e : Int, ρ 8 = .sc (.int .i64 (mostK k)) ∧ ρ 9 = .sc (.pointer (some ⟨b9, 0, none⟩)) ∧ ρ 14 = .sc (.int .i64 step) ∧ ρ 17 = .sc (.int .i64 first) ∧ ρ 18 = .sc (.int .i64 last) ∧
      K' b9 = some (.cells [.sc (.int .i64 e)] 26) ∧ HWk H K' ∧ (e = 0 → 0 ≤ first ∧ first ≤ 59 ∧ last ≤ 59) ∧ finK k first last step e = res) (fun k' hk' => ?_) ?_
    · have hn : ∀ e o, (K'.set b9 (.cells [.sc (.int .i64 e)] 26)) b2 = K' b2 ∧ (K'.set b9 (.cells [.sc (.int .i64 e)] 26)) b6 = K' b6 ∧ (K'.set b9 (.cells [.sc (.int .i64 e)] 26)) b7 = K' b7 ∧ (K'.set b9 (.cells [.sc (.int .i64 e)] 26)) b9 = some (.cells [.sc (.int .i64 e)] 26) ∧ Glob (K'.set b9 o) :=
        fun e o => ⟨by simp [Heap.set, n92.symm], by simp [Heap.set, n96.symm], by simp [Heap.set, n97.symm], by simp [Heap.set], kG.set (by simp [k9])⟩
      have hlen2 := cut_len body [45]
      unfold bodyK at hr
      cases hb : (body == [42]) with
      | true =>
        have hb' : body = [42] := by simpa using hb
        rw [if_pos hb'] at hr
        simp -implicitDefEqProofs [hb']
        exact hk' _ _ ⟨lowK k, mostK k, 0, by simp [h8], by simp [h9], by simp [h14], by simp, by simp, k9, kW, fun _ => by omega, hr⟩
      | false =>
        have hb' : body ≠ [42] := by simpa using hb
        rw [if_neg hb'] at hr
        simp -implicitDefEqProofs [hb, h11]
        refine ACall.eq (c_cut kG body [45] (by omega)) ?_
        generalize Lib.cut body [45] = c at hr hlen2
        obtain ⟨a, b, rg⟩ := c
        simp only at hr hlen2
        have ha := c_take kG k2 k9 k6 k7 a (by omega)
        have na := numK_le k a
        obtain ⟨g2, g6, g7, g9, gG⟩ := hn (takeE k a 0) (.cells [.sc (.int .i64 (takeE k a 0))] 26)
        cases rg with
        | false =>
          cases st with
          | true =>
            simp only [and_self, if_true] at hr
            subst hr
            simp -implicitDefEqProofs [h13]
            exact kW
          | false =>
            simp only [Bool.false_eq_true, false_and, if_false] at hr
            simp -implicitDefEqProofs [h13, h10]
            refine ACall.eq ha ?_
            simp -implicitDefEqProofs
            refine hk' _ _ ⟨_, _, _, by simp [h8], by simp [h9], by simp [h14], by simp, by simp, g9, HWk.new e9 kW, fun h0 => ?_, hr⟩
            obtain ⟨_, _, t1, t2⟩ := takeE_zero h0
            omega
        | true =>
          simp only [Bool.true_eq_false, and_false, if_false, if_true] at hr
          have hbb := c_take gG (g2.trans k2) g9 (g6.trans k6) (g7.trans k7) b (by omega)
          have nb := fun h0 => (takeE_zero (k := k) (w := b) (e := takeE k a 0) h0)
          have fin : takeE k b (takeE k a 0) = 0 → 0 ≤ (numK k a).1 ∧ (numK k a).1 ≤ 59 ∧ (numK k b).1 ≤ 59 := fun h0 => by
            obtain ⟨h0, _, t1, t2⟩ := takeE_zero h0
            obtain ⟨_, _, t3, t4⟩ := takeE_zero h0
            omega
          cases st <;> simp -implicitDefEqProofs [h13, h10] <;> refine ACall.eq ha ?_ <;> simp -implicitDefEqProofs [h10] <;> refine ACall.eq hbb ?_ <;> simp -implicitDefEqProofs <;>
            exact hk' _ _ ⟨_, _, _, by simp [h8], by simp [h9], by simp [h14], by simp, by simp, by simp [Heap.set], HWk.new e9 kW, fin, hr⟩
    · rintro ρ K' ⟨first, last, e, h8, h9, h14, h17, h18, k9, kW, hfl, hr⟩
      simp -implicitDefEqProofs [h8, h9, h14, h17, h18, k9]
      unfold finK at hr
      by_cases he : e = 0
      · obtain ⟨f0, f1, f2⟩ := hfl he
        rw [if_neg (by simp [he])] at hr
        by_cases hlf : last < first
        · rw [if_pos (.inl hlf)] at hr
          subst hr
          simp -implicitDefEqProofs [he, h14, h17, h18, hlf]
          exact kW
        · by_cases hs3 : step < 1
          · rw [if_pos (.inr (.inl hs3))] at hr
            subst hr
            simp -implicitDefEqProofs [he, h14, h17, h18, hlf, hs3]
            exact kW
          · by_cases hs4 : 59 < step
            · rw [if_pos (.inr (.inr hs4))] at hr
              subst hr
              simp -implicitDefEqProofs [he, h14, h17, h18, hlf, hs3, hs4]
              exact kW
            · rw [if_neg (by omega)] at hr
              simp -implicitDefEqProofs [he, h14, h17, h18, hlf, hs3, hs4]
              obtain ⟨n0, rfl⟩ := Int.eq_ofNat_of_zero_le f0
              obtain ⟨sN, rfl⟩ := Int.eq_ofNat_of_zero_le (a := step) (by omega)
              rw [hM] at hr
              simp only [Int.toNat_natCast] at hr
              have hwM : IntKind.i64.wrap (mostK k + 1) = (M : Int) := by rw [hM]; exact wrap_i64 (by omega) (by omega)
              have hM0 : M ≠ 0 := by omega
              refine AGo.rounds (fun m ρ K => ∃ n set : Nat, last < (n : Int) + m ∧ n ≤ 118 ∧ set < 18446744073709551616 ∧ ρ 8 = .sc (.int .i64 (mostK k)) ∧ ρ 14 = .sc (.int .i64 sN) ∧ ρ 18 = .sc (.int .i64 last) ∧
                ρ 22 = .sc (.int .u64 set) ∧ ρ 23 = .sc (.int .i64 n) ∧ (setFrom M sN last m n set, (0 : Int)) = res ∧ K = K') ?_ (m := 200) (HLe.refl _) ⟨n0, 0, by omega, by omega, by decide, by simp [h8], by simp [h14], by simp [h18], by simp, by simp, hr, rfl⟩
              rintro m ρ K ih ⟨n, set, hlt, hn, hset, h8, h14, h18, h22, h23, hgo, rfl⟩
              by_cases hle : (n : Int) ≤ last
              · obtain ⟨m', rfl⟩ : ∃ m', m = m' + 1 := ⟨m - 1, by omega⟩
                simp only [setFrom, if_pos hle] at hgo
                have hr64 : modN n M < 64 := by have := modN_lt n (m := M) (by omega); omega
                have hmin : min (modN n M) 64 = modN n M := by omega
                have hor := u64_or_nat set (pow2 (modN n M)) hset (pow2_small hr64)
                have hw2 : IntKind.i64.wrap ((n : Int) + (sN : Int)) = ((n + sN : Nat) : Int) := by rw [wrap_i64 (by omega) (by omega)]; push_cast; rfl
                simp -implicitDefEqProofs [h8, h14, h18, h22, h23, hle, hwM, hM0, tmod_nat, hmin, shl_nat hr64, hor, hw2]
                exact AGo.again ih (m' := m') (by omega) (HLe.refl _) ⟨n + sN, set ||| pow2 (modN n M), by push_cast at *; omega, by omega, or_small hset (pow2_small hr64), by simp [h8], by simp [h14], by simp [h18], by simp, by simp, hgo, rfl⟩
              · have hgo' : (set, (0 : Int)) = res := by
                  cases m with
                  | zero => exact hgo
                  | succ m => simpa only [setFrom, if_neg hle] using hgo
                subst hgo'
                simp -implicitDefEqProofs [h8, h14, h18, h22, h23, hle]
                exact kW
      · rw [if_pos he] at hr
        subst hr
        simp -implicitDefEqProofs [he]
        refine go_draw 3 f_mixed (by decide +kernel) ?_
        simp -implicitDefEqProofs [h9, k9]
        exact kW
end Go.Proofs.YtdpgnbinekcgdaaGreatDoor
