/- Fields: a field's text. -/
import Derived.Test.YtdpgnbinekcgdaaGreatDoorFieldP
namespace Go.Proofs.YtdpgnbinekcgdaaGreatDoor
open Rg Go

variable {H : Heap}

theorem szs_strs (l : List (List UInt8)) : szs 1 (strL l) = true := by
  simp [szs, AV.cells]

theorem c_text (hG : Glob H) (k : Int) (f : Fld) (hf : f.bits < 18446744073709551616) : AOk Tryz.prog 19 [.sc (.int .i64 k), fAV f] H (str (textK k f)) H := by
  unfold textK
  refine ACalls.into Tryz.func19 rfl Tryz.ntmps19 Tryz.results19 (by simp) ?_
  simp -implicitDefEqProofs [fAV]
  refine AAlloc.intro fun b3 h3 => ?_
  simp -implicitDefEqProofs
  refine ACall.eq (c_may k f hf) ?_
  cases hm : mayB k f.bits with
  | false =>
    simp -implicitDefEqProofs
    exact HWk.new h3 (HWk.refl _)
  | true =>
    have hk : isK k = true := by simp [mayB] at hm; exact hm.1.1
    simp -implicitDefEqProofs
    have hcase : (f.star = true ∧ f.bits = allK k) ∨ (f.star = true ∧ f.bits ≠ allK k) ∨ f.star = false := by
      cases f.star <;> simp
      exact Decidable.em _
    rcases hcase with ⟨h1, h2⟩ | ⟨h1, h2⟩ | h1
    · refine go_draw 9 f_mixed (by decide +kernel) ?_
      simp -implicitDefEqProofs [h1]
      refine AQS.eq (c_all hk) ?_
      have h2' : (f.bits : Int) = (allK k : Int) := by rw [h2]
      simp -implicitDefEqProofs [h1, h2]
      exact HWk.new h3 (HWk.refl _)
    · have h2' : ¬ (f.bits : Int) = (allK k : Int) := by omega
      refine go_draw 9 f_mixed (by decide +kernel) ?_
      simp -implicitDefEqProofs [h1]
      refine AQS.eq (c_all hk) ?_
      simp -implicitDefEqProofs [h2, h2']
      generalize hK : Heap.set _ b3 _ = K0
      have k3 : K0 b3 = some (.cells [.sc (.int .u64 f.bits), .sc (.bool f.star)] 25) := by rw [← hK]; simp [Heap.set, h1]
      have kG : Glob K0 := by rw [← hK]; exact hG.set (by simp [h3])
      have kW : HWk H K0 := by rw [← hK]; exact HWk.new h3 (HWk.refl _)
      clear hK
      generalize hres : Lib.join (pieces f.bits 66 0) [44] = res
      refine AGo.rounds (fun m ρ K => ∃ (a : Nat) (out : List (List UInt8)) (t : Tok), 65 ≤ a + m ∧ a ≤ 64 ∧ ρ 3 = .sc (.pointer (some ⟨b3, 0, none⟩)) ∧ ρ 5 = .sl (strL out) t ∧ ρ 6 = .sc (.int .i64 a) ∧ out.length ≤ a ∧ (∀ x ∈ out, x.length ≤ 5) ∧
        Lib.join (out ++ pieces f.bits m a) [44] = res ∧ Grows K0 (strL out) 1 9 t K) ?_ (m := 66) (HLe.refl _) ⟨0, [], .nil, by omega, by omega, by simp, by simp, by simp, by simp, by simp, hres, Grows.zero⟩
      rintro m ρ K ih ⟨a, out, t, hm', ha, r3, r5, r6, hol, ho5, hgo, hgr⟩
      have kk : K b3 = some (.cells [.sc (.int .u64 f.bits), .sc (.bool f.star)] 25) := hgr.le _ _ k3
      have kGK : Glob K := kG.le hgr.le
      simp -implicitDefEqProofs [r3, r6, kk]
      refine ACall.eq (c_first kGK f a hf) ?_
      cases hfb : firstB f.bits a with
      | none =>
        have hj : Lib.join out [44] = res := by
          cases m with
          | zero => simpa [pieces] using hgo
          | succ m => simpa [pieces, hfb] using hgo
        have hjl := join_le ho5 44
        simp -implicitDefEqProofs [optAV, r5]
        refine ACall.eq (c_join out t [44] (by omega) (by omega)) ?_
        rw [hj]
        simp -implicitDefEqProofs
        exact HWk.trans kW (hgr.le).wk
      | some n =>
        obtain ⟨n1, n2, n3, n4⟩ := firstB_some hf hfb
        simp only [Int.toNat_natCast] at n1 n4
        obtain ⟨m', rfl⟩ : ∃ m', m = m' + 1 := ⟨m - 1, by omega⟩
        simp only [pieces, hfb] at hgo
        obtain ⟨e1, e2⟩ := runEnd_le f.bits 64 n n2
        simp -implicitDefEqProofs [optAV]
        generalize hE : runEnd f.bits 64 n = E at hgo e1 e2
        refine AGo.rounds (fun m2 ρ2 K2 => ∃ e : Nat, 64 ≤ e + m2 ∧ e ≤ 63 ∧ n ≤ e ∧ ρ2 3 = .sc (.pointer (some ⟨b3, 0, none⟩)) ∧ ρ2 5 = .sl (strL out) t ∧ ρ2 7 = .sc (.int .i64 n) ∧ ρ2 9 = .sc (.int .i64 e) ∧ runEnd f.bits m2 e = E ∧ K2 = K) ?_ (m := 64) (HLe.refl _)
          ⟨n, by omega, n2, Nat.le_refl _, by simp [r3], by simp [r5], by simp, by simp, hE, rfl⟩
        rintro m2 ρ2 K2 ih2 ⟨e, g1, g2, g3, q3, q5, q7, q9, hre, rfl⟩
        have hwe : IntKind.i64.wrap ((e : Int) + 1) = ((e + 1 : Nat) : Int) := by rw [wrap_i64 (by omega) (by omega)]; push_cast; rfl
        have hcast : ((e + 1 : Nat) : Int) = (e : Int) + 1 := by push_cast; rfl
        simp -implicitDefEqProofs [q3, q9, kk, hwe]
        refine ACall.eq (c_has f _ hf) ?_
        cases hh : hasB f.bits ((e : Int) + 1) with
        | true =>
          have he1 : e + 1 ≤ 63 := by simp [hasB] at hh; omega
          obtain ⟨m3, rfl⟩ : ∃ m3, m2 = m3 + 1 := ⟨m2 - 1, by omega⟩
          simp only [runEnd, hcast, hh, if_true] at hre
          simp -implicitDefEqProofs [q9, hwe]
          exact AGo.again ih2 (m' := m3) (by omega) (HLe.refl _) ⟨e + 1, by omega, he1, by omega, by simp [q3], by simp [q5], by simp [q7], by simp, hre, rfl⟩
        | false =>
          have hre' : e = E := by
            cases m2 with
            | zero => exact hre
            | succ m3 => simpa only [runEnd, hcast, hh, Bool.false_eq_true, if_false] using hre
          subst hre'
          have hwn : IntKind.i64.wrap ((n : Int) + 2) = ((n + 2 : Nat) : Int) := by rw [wrap_i64 (by omega) (by omega)]; push_cast; rfl
          by_cases hne : n + 2 ≤ e
          · have hne' : ((n : Int) + 2) ≤ (e : Int) := by omega
            rw [if_pos hne] at hgo
            simp -implicitDefEqProofs [q3, q5, q7, q9, hwe, hwn, hne']
            refine ACall.eq (c_itoa n (by omega)) ?_
            have d1 := dec_length (i := n) (by omega)
            have d2 := dec_length (i := e) (by omega)
            have s1 : (Lib.decDigits n).length + 1 ≤ 9223372036854775807 := by omega
            simp -implicitDefEqProofs [s1, q9]
            refine ACall.eq (c_itoa e (by omega)) ?_
            have s2 : (Lib.decDigits n).length + 1 + (Lib.decDigits e).length ≤ 9223372036854775807 := by omega
            simp -implicitDefEqProofs [s2]
            refine AApp.grows el_69 hgr (HLe.refl _) (by simp) (szs_strs _) (by simp [szs, AV.cells]) (by simp; omega) (by simp [maxLen]; omega) fun t' K' Hn hg' hl' => ?_
            simp -implicitDefEqProofs
            refine AGo.again ih (m' := m') (by omega) hl' ⟨e + 1, out ++ [Lib.decDigits n ++ [45] ++ Lib.decDigits e], t', by omega, by omega, by simp [q3], by simp, by simp, by simp; omega, ?_, by rw [List.append_assoc]; exact hgo, by simpa using hg'⟩
            intro x hx
            rcases List.mem_append.1 hx with hx | hx
            · exact ho5 x hx
            · simp at hx; subst hx; simp; omega
          · have hne' : ¬ ((n : Int) + 2) ≤ (e : Int) := by omega
            rw [if_neg hne] at hgo
            simp -implicitDefEqProofs [q3, q5, q7, q9, hwe, hwn, hne']
            rw [← List.append_assoc] at hgo
            generalize hO : out ++ List.map Lib.decDigits (List.range' n (e + 1 - n)) = O at hgo
            refine AGo.rounds (fun m4 ρ4 K4 => ∃ (i : Nat) (out' : List (List UInt8)) (t' : Tok), i ≤ e + 1 ∧ m4 = e + 1 - i ∧ n ≤ i ∧ ρ4 3 = .sc (.pointer (some ⟨b3, 0, none⟩)) ∧ ρ4 5 = .sl (strL out') t' ∧ ρ4 6 = .sc (.int .i64 ((e : Int) + 1)) ∧ ρ4 7 = .sc (.int .i64 i) ∧ ρ4 9 = .sc (.int .i64 e) ∧
              out'.length ≤ i ∧ (∀ x ∈ out', x.length ≤ 5) ∧ out' ++ List.map Lib.decDigits (List.range' i (e + 1 - i)) = O ∧ Grows K0 (strL out') 1 9 t' K4) ?_ (m := e + 1 - n) (HLe.refl _)
              ⟨n, out, t, by omega, rfl, Nat.le_refl _, by simp [q3], by simp [q5], by simp, by simp [q7], by simp [q9], by omega, ho5, hO, hgr⟩
            rintro m4 ρ4 K4 ih4 ⟨i, out', t', i1, rfl, i2, p3, p5, p6, p7, p9, ol', o5', hO', hgr'⟩
            by_cases hi : i ≤ e
            · have hi' : (i : Int) ≤ (e : Int) := by omega
              have hwi : IntKind.i64.wrap ((i : Int) + 1) = ((i + 1 : Nat) : Int) := by rw [wrap_i64 (by omega) (by omega)]; push_cast; rfl
              have hx : e + 1 - i = (e + 1 - (i + 1)) + 1 := by omega
              rw [hx, List.range'_succ, List.map_cons] at hO'
              have d1 := dec_length (i := i) (by omega)
              simp -implicitDefEqProofs [p3, p5, p7, p9, hi']
              refine ACall.eq (c_itoa i (by omega)) ?_
              simp -implicitDefEqProofs
              refine AApp.grows el_69 hgr' (HLe.refl _) (by simp) (szs_strs _) (by simp [szs, AV.cells]) (by simp; omega) (by simp [maxLen]; omega) fun t2 K' Hn hg' hl' => ?_
              simp -implicitDefEqProofs [p7, hwi]
              refine AGo.again ih4 (m' := e + 1 - (i + 1)) (by omega) hl' ⟨i + 1, out' ++ [Lib.decDigits i], t2, by omega, rfl, by omega, by simp [p3], by simp, by simp [p6], by simp, by simp [p9], by simp; omega, ?_, by rw [List.append_assoc]; exact hO', by simpa using hg'⟩
              intro x hx
              rcases List.mem_append.1 hx with hx | hx
              · exact o5' x hx
              · simp at hx; subst hx; omega
            · have hi' : ¬ (i : Int) ≤ (e : Int) := by omega
              have hO2 : out' = O := by rw [show e + 1 - i = 0 by omega] at hO'; simpa using hO'
              subst hO2
              simp -implicitDefEqProofs [p3, p5, p7, p9, hi']
              exact AGo.again ih (m' := m') (by omega) (HLe.refl _) ⟨e + 1, out', t', by omega, by omega, by simp [p3], by simp [p5], by simp [p6], by omega, o5', hgo, hgr'⟩
    · refine go_draw 9 f_mixed (by decide +kernel) ?_
      simp -implicitDefEqProofs [h1]
      generalize hK : Heap.set _ b3 _ = K0
      have k3 : K0 b3 = some (.cells [.sc (.int .u64 f.bits), .sc (.bool f.star)] 25) := by rw [← hK]; simp [Heap.set, h1]
      have kG : Glob K0 := by rw [← hK]; exact hG.set (by simp [h3])
      have kW : HWk H K0 := by rw [← hK]; exact HWk.new h3 (HWk.refl _)
      clear hK
      generalize hres : Lib.join (pieces f.bits 66 0) [44] = res
      refine AGo.rounds (fun m ρ K => ∃ (a : Nat) (out : List (List UInt8)) (t : Tok), 65 ≤ a + m ∧ a ≤ 64 ∧ ρ 3 = .sc (.pointer (some ⟨b3, 0, none⟩)) ∧ ρ 5 = .sl (strL out) t ∧ ρ 6 = .sc (.int .i64 a) ∧ out.length ≤ a ∧ (∀ x ∈ out, x.length ≤ 5) ∧
        Lib.join (out ++ pieces f.bits m a) [44] = res ∧ Grows K0 (strL out) 1 9 t K) ?_ (m := 66) (HLe.refl _) ⟨0, [], .nil, by omega, by omega, by simp, by simp, by simp, by simp, by simp, hres, Grows.zero⟩
      rintro m ρ K ih ⟨a, out, t, hm', ha, r3, r5, r6, hol, ho5, hgo, hgr⟩
      have kk : K b3 = some (.cells [.sc (.int .u64 f.bits), .sc (.bool f.star)] 25) := hgr.le _ _ k3
      have kGK : Glob K := kG.le hgr.le
      simp -implicitDefEqProofs [r3, r6, kk]
      refine ACall.eq (c_first kGK f a hf) ?_
      cases hfb : firstB f.bits a with
      | none =>
        have hj : Lib.join out [44] = res := by
          cases m with
          | zero => simpa [pieces] using hgo
          | succ m => simpa [pieces, hfb] using hgo
        have hjl := join_le ho5 44
        simp -implicitDefEqProofs [optAV, r5]
        refine ACall.eq (c_join out t [44] (by omega) (by omega)) ?_
        rw [hj]
        simp -implicitDefEqProofs
        exact HWk.trans kW (hgr.le).wk
      | some n =>
        obtain ⟨n1, n2, n3, n4⟩ := firstB_some hf hfb
        simp only [Int.toNat_natCast] at n1 n4
        obtain ⟨m', rfl⟩ : ∃ m', m = m' + 1 := ⟨m - 1, by omega⟩
        simp only [pieces, hfb] at hgo
        obtain ⟨e1, e2⟩ := runEnd_le f.bits 64 n n2
        simp -implicitDefEqProofs [optAV]
        generalize hE : runEnd f.bits 64 n = E at hgo e1 e2
        refine AGo.rounds (fun m2 ρ2 K2 => ∃ e : Nat, 64 ≤ e + m2 ∧ e ≤ 63 ∧ n ≤ e ∧ ρ2 3 = .sc (.pointer (some ⟨b3, 0, none⟩)) ∧ ρ2 5 = .sl (strL out) t ∧ ρ2 7 = .sc (.int .i64 n) ∧ ρ2 9 = .sc (.int .i64 e) ∧ runEnd f.bits m2 e = E ∧ K2 = K) ?_ (m := 64) (HLe.refl _)
          ⟨n, by omega, n2, Nat.le_refl _, by simp [r3], by simp [r5], by simp, by simp, hE, rfl⟩
        rintro m2 ρ2 K2 ih2 ⟨e, g1, g2, g3, q3, q5, q7, q9, hre, rfl⟩
        have hwe : IntKind.i64.wrap ((e : Int) + 1) = ((e + 1 : Nat) : Int) := by rw [wrap_i64 (by omega) (by omega)]; push_cast; rfl
        have hcast : ((e + 1 : Nat) : Int) = (e : Int) + 1 := by push_cast; rfl
        simp -implicitDefEqProofs [q3, q9, kk, hwe]
        refine ACall.eq (c_has f _ hf) ?_
        cases hh : hasB f.bits ((e : Int) + 1) with
        | true =>
          have he1 : e + 1 ≤ 63 := by simp [hasB] at hh; omega
          obtain ⟨m3, rfl⟩ : ∃ m3, m2 = m3 + 1 := ⟨m2 - 1, by omega⟩
          simp only [runEnd, hcast, hh, if_true] at hre
          simp -implicitDefEqProofs [q9, hwe]
          exact AGo.again ih2 (m' := m3) (by omega) (HLe.refl _) ⟨e + 1, by omega, he1, by omega, by simp [q3], by simp [q5], by simp [q7], by simp, hre, rfl⟩
        | false =>
          have hre' : e = E := by
            cases m2 with
            | zero => exact hre
            | succ m3 => simpa only [runEnd, hcast, hh, Bool.false_eq_true, if_false] using hre
          subst hre'
          have hwn : IntKind.i64.wrap ((n : Int) + 2) = ((n + 2 : Nat) : Int) := by rw [wrap_i64 (by omega) (by omega)]; push_cast; rfl
          by_cases hne : n + 2 ≤ e
          · have hne' : ((n : Int) + 2) ≤ (e : Int) := by omega
            rw [if_pos hne] at hgo
            simp -implicitDefEqProofs [q3, q5, q7, q9, hwe, hwn, hne']
            refine ACall.eq (c_itoa n (by omega)) ?_
            have d1 := dec_length (i := n) (by omega)
            have d2 := dec_length (i := e) (by omega)
            have s1 : (Lib.decDigits n).length + 1 ≤ 9223372036854775807 := by omega
            simp -implicitDefEqProofs [s1, q9]
            refine ACall.eq (c_itoa e (by omega)) ?_
            have s2 : (Lib.decDigits n).length + 1 + (Lib.decDigits e).length ≤ 9223372036854775807 := by omega
            simp -implicitDefEqProofs [s2]
            refine AApp.grows el_69 hgr (HLe.refl _) (by simp) (szs_strs _) (by simp [szs, AV.cells]) (by simp; omega) (by simp [maxLen]; omega) fun t' K' Hn hg' hl' => ?_
            simp -implicitDefEqProofs
            refine AGo.again ih (m' := m') (by omega) hl' ⟨e + 1, out ++ [Lib.decDigits n ++ [45] ++ Lib.decDigits e], t', by omega, by omega, by simp [q3], by simp, by simp, by simp; omega, ?_, by rw [List.append_assoc]; exact hgo, by simpa using hg'⟩
            intro x hx
            rcases List.mem_append.1 hx with hx | hx
            · exact ho5 x hx
            · simp at hx; subst hx; simp; omega
          · have hne' : ¬ ((n : Int) + 2) ≤ (e : Int) := by omega
            rw [if_neg hne] at hgo
            simp -implicitDefEqProofs [q3, q5, q7, q9, hwe, hwn, hne']
            rw [← List.append_assoc] at hgo
            generalize hO : out ++ List.map Lib.decDigits (List.range' n (e + 1 - n)) = O at hgo
            refine AGo.rounds (fun m4 ρ4 K4 => ∃ (i : Nat) (out' : List (List UInt8)) (t' : Tok), i ≤ e + 1 ∧ m4 = e + 1 - i ∧ n ≤ i ∧ ρ4 3 = .sc (.pointer (some ⟨b3, 0, none⟩)) ∧ ρ4 5 = .sl (strL out') t' ∧ ρ4 6 = .sc (.int .i64 ((e : Int) + 1)) ∧ ρ4 7 = .sc (.int .i64 i) ∧ ρ4 9 = .sc (.int .i64 e) ∧
              out'.length ≤ i ∧ (∀ x ∈ out', x.length ≤ 5) ∧ out' ++ List.map Lib.decDigits (List.range' i (e + 1 - i)) = O ∧ Grows K0 (strL out') 1 9 t' K4) ?_ (m := e + 1 - n) (HLe.refl _)
              ⟨n, out, t, by omega, rfl, Nat.le_refl _, by simp [q3], by simp [q5], by simp, by simp [q7], by simp [q9], by omega, ho5, hO, hgr⟩
            rintro m4 ρ4 K4 ih4 ⟨i, out', t', i1, rfl, i2, p3, p5, p6, p7, p9, ol', o5', hO', hgr'⟩
            by_cases hi : i ≤ e
            · have hi' : (i : Int) ≤ (e : Int) := by omega
              have hwi : IntKind.i64.wrap ((i : Int) + 1) = ((i + 1 : Nat) : Int) := by rw [wrap_i64 (by omega) (by omega)]; push_cast; rfl
              have hx : e + 1 - i = (e + 1 - (i + 1)) + 1 := by omega
              rw [hx, List.range'_succ, List.map_cons] at hO'
              have d1 := dec_length (i := i) (by omega)
              simp -implicitDefEqProofs [p3, p5, p7, p9, hi']
              refine ACall.eq (c_itoa i (by omega)) ?_
              simp -implicitDefEqProofs
              refine AApp.grows el_69 hgr' (HLe.refl _) (by simp) (szs_strs _) (by simp [szs, AV.cells]) (by simp; omega) (by simp [maxLen]; omega) fun t2 K' Hn hg' hl' => ?_
              simp -implicitDefEqProofs [p7, hwi]
              refine AGo.again ih4 (m' := e + 1 - (i + 1)) (by omega) hl' ⟨i + 1, out' ++ [Lib.decDigits i], t2, by omega, rfl, by omega, by simp [p3], by simp, by simp [p6], by simp, by simp [p9], by simp; omega, ?_, by rw [List.append_assoc]; exact hO', by simpa using hg'⟩
              intro x hx
              rcases List.mem_append.1 hx with hx | hx
              · exact o5' x hx
              · simp at hx; subst hx; omega
            · have hi' : ¬ (i : Int) ≤ (e : Int) := by omega
              have hO2 : out' = O := by rw [show e + 1 - i = 0 by omega] at hO'; simpa using hO'
              subst hO2
              simp -implicitDefEqProofs [p3, p5, p7, p9, hi']
              exact AGo.again ih (m' := m') (by omega) (HLe.refl _) ⟨e + 1, out', t', by omega, by omega, by simp [p3], by simp [p5], by simp [p6], by omega, o5', hgo, hgr'⟩
end Go.Proofs.YtdpgnbinekcgdaaGreatDoor
