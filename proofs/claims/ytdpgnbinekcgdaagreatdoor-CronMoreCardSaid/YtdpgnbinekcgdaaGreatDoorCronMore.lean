/- A text's expression, told as a text and parsed, allows the same; one that allows more fits where it did; of each minute all seconds fit, or none. -/
import Derived.Test.YtdpgnbinekcgdaaGreatDoorMore
namespace Go.Proofs.YtdpgnbinekcgdaaGreatDoor
open Rg Go

variable {H : Heap}

set_option maxHeartbeats 4000000 in
theorem cronMore_ok (hG : Glob H) (s : List UInt8) (hs : s.length ≤ maxLen) (t : Int) (kind : Int) (more : Nat) (hm : more < 18446744073709551616) :
    AOk Tryz.prog 7 [str s, .sc (.int .i64 t), .sc (.int .i64 kind), .sc (.int .u64 more)] H (.sc (.bool true)) H := by
  refine ACalls.into Tryz.func7 rfl Tryz.ntmps7 Tryz.results7 (by simp) ?_
  simp -implicitDefEqProofs
  refine ACall.eq (c_known07 hG) ?_
  simp -implicitDefEqProofs
  refine ACall.eq (c_cronParse hG s hs) ?_
  have hxo := cronK_lt s
  have hxm := cronK_may (s := s)
  generalize cronK s = p at *
  obtain ⟨x, e⟩ := p
  simp only at hxo hxm
  simp -implicitDefEqProofs
  refine AAlloc.intro fun b9 h9 => ?_
  simp -implicitDefEqProofs
  generalize hK : Heap.set _ b9 _ = K1
  have k9 : K1 b9 = some (.cells (exC x) 37) := by rw [← hK]; simp [Heap.set]
  have kG : Glob K1 := by rw [← hK]; exact hG.new h9
  have kW : HWk H K1 := by rw [← hK]; exact HWk.new h9 (HWk.refl _)
  clear hK
  by_cases ht : t < 0 ∨ 13569465600 ≤ t
  · refine ACall.eq (c_split_bad ht) ?_
    simp -implicitDefEqProofs
    refine AAlloc.intro fun b11 h11 => ?_
    have hW2 : ∀ o, HWk H (K1.set b11 o) := fun o => HWk.new (kW.none h11) kW
    by_cases he : e = 0
    · subst he
      simp -implicitDefEqProofs
      exact hW2 _
    · simp -implicitDefEqProofs [he]
      exact hW2 _
  · obtain ⟨u, rfl⟩ := Int.eq_ofNat_of_zero_le (a := t) (by omega)
    have hu : u < 13569465600 := by omega
    have hcs : 0 ≤ (clk u).s ∧ (clk u).s ≤ 59 := by
      show 0 ≤ ((u % 60 : Nat) : Int) ∧ ((u % 60 : Nat) : Int) ≤ 59
      omega
    have hsp := fun K : Heap => c_split_s (H := K) hu
    generalize clk u = c at *
    refine ACall.eq (hsp _) ?_
    simp -implicitDefEqProofs
    refine AAlloc.intro fun b11 h11 => ?_
    have hW2 : ∀ o, HWk H (K1.set b11 o) := fun o => HWk.new (kW.none h11) kW
    by_cases he : e = 0
    · subst he
      have hmx := hxm rfl
      have n911 : b9 ≠ b11 := by intro e; subst e; rw [k9] at h11; cases h11
      have n119 := n911.symm
      simp -implicitDefEqProofs [k9, n911, n119]
      generalize hK : Heap.set K1 b11 _ = K2
      have k92 : K2 b9 = some (.cells (exC x) 37) := by rw [← hK]; simp [Heap.set, n911, k9]
      have k112 : K2 b11 = some (.cells [.sc (.int .i64 c.y), .sc (.int .i64 c.m), .sc (.int .i64 c.d), .sc (.int .i64 c.h), .sc (.int .i64 c.mi), .sc (.int .i64 c.s), .sc (.int .i64 c.w)] 44) := by rw [← hK]; simp [Heap.set]
      have kG2 : Glob K2 := by rw [← hK]; exact kG.new h11
      have kW2 : HWk H K2 := by rw [← hK]; exact hW2 _
      have e11 : H b11 = none := kW.none h11
      clear hK hW2 k9 kG kW h11
      obtain ⟨hlen, hback⟩ := textX_back hxo hmx
      unfold exT at hback
      obtain ⟨s0, hs0⟩ : ∃ z, decide (textK 0 x.a = [42]) = z := ⟨_, rfl⟩
      obtain ⟨s1, hs1⟩ : ∃ z, decide (textK 1 x.b = [42]) = z := ⟨_, rfl⟩
      obtain ⟨s2, hs2⟩ : ∃ z, decide (textK 2 x.c = [42]) = z := ⟨_, rfl⟩
      obtain ⟨s3, hs3⟩ : ∃ z, decide (textK 3 x.d = [42]) = z := ⟨_, rfl⟩
      obtain ⟨s4, hs4⟩ : ∃ z, decide (textK 4 x.e = [42]) = z := ⟨_, rfl⟩
      rw [hs0, hs1, hs2, hs3, hs4] at hback
      refine ACall.eq (c_cronText kG2 x hxo) ?_
      simp -implicitDefEqProofs
      refine ACall.eq (c_cronParse kG2 (textX x) (by omega)) ?_
      rw [hback]
      simp -implicitDefEqProofs
      refine AAlloc.intro fun b13 h13 => ?_
      have n913 : b9 ≠ b13 := by intro e; subst e; rw [k92] at h13; cases h13
      have n139 := n913.symm
      have n1113 : b11 ≠ b13 := by intro e; subst e; rw [k112] at h13; cases h13
      have n1311 := n1113.symm
      simp -implicitDefEqProofs [n913, n139, k92]
      generalize hK : Heap.set K2 b13 _ = K3
      have k93 : K3 b9 = some (.cells (exC x) 37) := by rw [← hK]; simp [Heap.set, n913, k92]
      have k113 : K3 b11 = some (.cells [.sc (.int .i64 c.y), .sc (.int .i64 c.m), .sc (.int .i64 c.d), .sc (.int .i64 c.h), .sc (.int .i64 c.mi), .sc (.int .i64 c.s), .sc (.int .i64 c.w)] 44) := by rw [← hK]; simp [Heap.set, n1113, k112]
      have k133 : K3 b13 = some (.cells [.sc (.int .u64 x.a.bits), .sc (.bool s0), .sc (.int .u64 x.b.bits), .sc (.bool s1), .sc (.int .u64 x.c.bits), .sc (.bool s2), .sc (.int .u64 x.d.bits), .sc (.bool s3), .sc (.int .u64 x.e.bits), .sc (.bool s4)] 37) := by rw [← hK]; simp [Heap.set]
      have kW3 : HWk H K3 := by rw [← hK]; exact HWk.new (kW2.none h13) kW2
      clear hK k92 k112 kG2 kW2 h13 hback hlen hs0 hs1 hs2 hs3 hs4
      refine ACall.eq (c_cronMay x hxo) ?_
      rw [hmx]
      simp -implicitDefEqProofs
      refine AGo.rounds (fun m ρ K => ∃ j : Nat, j ≤ 5 ∧ m = 5 - j ∧ ρ 2 = .sc (.int .i64 kind) ∧ ρ 3 = .sc (.int .u64 more) ∧ ρ 9 = .sc (.pointer (some ⟨b9, 0, none⟩)) ∧ ρ 11 = .sc (.pointer (some ⟨b11, 0, none⟩)) ∧ ρ 13 = .sc (.pointer (some ⟨b13, 0, none⟩)) ∧ ρ 15 = .sc (.int .i64 j) ∧ K = K3) ?_ (m := 5) (HLe.refl _)
        ⟨0, by omega, rfl, by simp, by simp, by simp, by simp, by simp, by simp, rfl⟩
      rintro m ρ K ih ⟨j, hj, rfl, r2, r3, r9, r11, r13, r15, rfl⟩
      have hc5 : j = 0 ∨ j = 1 ∨ j = 2 ∨ j = 3 ∨ j = 4 ∨ j = 5 := by omega
      rcases hc5 with rfl | rfl | rfl | rfl | rfl | rfl
      · simp -implicitDefEqProofs [r9, r13, r15]
        refine go_draw 9 f_mixed (by decide +kernel) ?_
        simp -implicitDefEqProofs [r9, r13, r15, k93, k133, wrap_i64]
        exact AGo.again ih (m' := 4) (by omega) (HLe.refl _) ⟨1, by omega, rfl, by simp [r2], by simp [r3], by simp [r9], by simp [r11], by simp [r13], by simp, rfl⟩
      · simp -implicitDefEqProofs [r9, r13, r15]
        refine go_draw 9 f_mixed (by decide +kernel) ?_
        simp -implicitDefEqProofs [r9, r13, r15, k93, k133, wrap_i64]
        exact AGo.again ih (m' := 3) (by omega) (HLe.refl _) ⟨2, by omega, rfl, by simp [r2], by simp [r3], by simp [r9], by simp [r11], by simp [r13], by simp, rfl⟩
      · simp -implicitDefEqProofs [r9, r13, r15]
        refine go_draw 9 f_mixed (by decide +kernel) ?_
        simp -implicitDefEqProofs [r9, r13, r15, k93, k133, wrap_i64]
        exact AGo.again ih (m' := 2) (by omega) (HLe.refl _) ⟨3, by omega, rfl, by simp [r2], by simp [r3], by simp [r9], by simp [r11], by simp [r13], by simp, rfl⟩
      · simp -implicitDefEqProofs [r9, r13, r15]
        refine go_draw 9 f_mixed (by decide +kernel) ?_
        simp -implicitDefEqProofs [r9, r13, r15, k93, k133, wrap_i64]
        exact AGo.again ih (m' := 1) (by omega) (HLe.refl _) ⟨4, by omega, rfl, by simp [r2], by simp [r3], by simp [r9], by simp [r11], by simp [r13], by simp, rfl⟩
      · simp -implicitDefEqProofs [r9, r13, r15]
        refine go_draw 9 f_mixed (by decide +kernel) ?_
        simp -implicitDefEqProofs [r9, r13, r15, k93, k133, wrap_i64]
        exact AGo.again ih (m' := 0) (by omega) (HLe.refl _) ⟨5, by omega, rfl, by simp [r2], by simp [r3], by simp [r9], by simp [r11], by simp [r13], by simp, rfl⟩
      · simp -implicitDefEqProofs [r9, r11, r15, k93, k113]
        refine ACall.eq (c_fits x hxo c) ?_
        have ws : IntKind.i64.wrap (59 - c.s) = 59 - c.s := wrap_i64 (by omega) (by omega)
        simp -implicitDefEqProofs [r9, r11, k93, k113, ws, n911, n119]
        generalize hK : Heap.set K b11 _ = K4
        have k94 : K4 b9 = some (.cells (exC x) 37) := by rw [← hK]; simp [Heap.set, n911, k93]
        have k114 : K4 b11 = some (.cells [.sc (.int .i64 c.y), .sc (.int .i64 c.m), .sc (.int .i64 c.d), .sc (.int .i64 c.h), .sc (.int .i64 c.mi), .sc (.int .i64 (59 - c.s)), .sc (.int .i64 c.w)] 44) := by rw [← hK]; simp [Heap.set]
        have kW4 : HWk H K4 := by rw [← hK]; exact HWk.new e11 kW3
        clear hK
        refine ACall.eq (c_fits x hxo (secC c)) ?_
        rw [fits_sec]
        cases hfit : fitsX x c with
        | false =>
          simp -implicitDefEqProofs
          by_cases hk : kind < 0 ∨ 4 < kind
          · rcases hk with hk | hk
            · simp -implicitDefEqProofs [r2, hk]
              exact kW4
            · have hk0 : ¬ kind < 0 := by omega
              simp -implicitDefEqProofs [r2, hk, hk0]
              exact kW4
          · have hk5 : kind = 0 ∨ kind = 1 ∨ kind = 2 ∨ kind = 3 ∨ kind = 4 := by omega
            rcases hk5 with rfl | rfl | rfl | rfl | rfl
            · obtain ⟨B, hB⟩ : ∃ B, x.a.bits ||| more = B := ⟨_, rfl⟩
              have hBl : B < 18446744073709551616 := by rw [← hB]; exact or_small hxo.a hm
              have ho : bits .or .u64 (x.a.bits : Int) (more : Int) = (B : Int) := by rw [u64_or_nat _ _ hxo.a hm, hB]
              simp -implicitDefEqProofs [r2, r3, r9, r11, k94]
              refine AAlloc.intro fun b17 h17 => ?_
              have n17 : b9 ≠ b17 := by intro e; subst e; rw [k94] at h17; cases h17
              have n17' : b11 ≠ b17 := by intro e; subst e; rw [k114] at h17; cases h17
              have e17 : H b17 = none := kW4.none h17
              simp -implicitDefEqProofs [r2, r3, r9, r11, ho, n17, n17']
              refine ACall.eq (c_cronMay ⟨⟨B, x.a.star⟩, x.b, x.c, x.d, x.e⟩ ⟨hBl, hxo.b, hxo.c, hxo.d, hxo.e⟩) ?_
              cases hmz : mayX ⟨⟨B, x.a.star⟩, x.b, x.c, x.d, x.e⟩ with
              | false =>
                simp -implicitDefEqProofs
                repeat (first | exact kW4 | refine HWk.new (by assumption) ?_)
              | true =>
                simp -implicitDefEqProofs
                repeat (first | exact kW4 | refine HWk.new (by assumption) ?_)
            · obtain ⟨B, hB⟩ : ∃ B, x.b.bits ||| more = B := ⟨_, rfl⟩
              have hBl : B < 18446744073709551616 := by rw [← hB]; exact or_small hxo.b hm
              have ho : bits .or .u64 (x.b.bits : Int) (more : Int) = (B : Int) := by rw [u64_or_nat _ _ hxo.b hm, hB]
              simp -implicitDefEqProofs [r2, r3, r9, r11, k94]
              refine AAlloc.intro fun b17 h17 => ?_
              have n17 : b9 ≠ b17 := by intro e; subst e; rw [k94] at h17; cases h17
              have n17' : b11 ≠ b17 := by intro e; subst e; rw [k114] at h17; cases h17
              have e17 : H b17 = none := kW4.none h17
              simp -implicitDefEqProofs [r2, r3, r9, r11, ho, n17, n17']
              refine ACall.eq (c_cronMay ⟨x.a, ⟨B, x.b.star⟩, x.c, x.d, x.e⟩ ⟨hxo.a, hBl, hxo.c, hxo.d, hxo.e⟩) ?_
              cases hmz : mayX ⟨x.a, ⟨B, x.b.star⟩, x.c, x.d, x.e⟩ with
              | false =>
                simp -implicitDefEqProofs
                repeat (first | exact kW4 | refine HWk.new (by assumption) ?_)
              | true =>
                simp -implicitDefEqProofs
                repeat (first | exact kW4 | refine HWk.new (by assumption) ?_)
            · obtain ⟨B, hB⟩ : ∃ B, x.c.bits ||| more = B := ⟨_, rfl⟩
              have hBl : B < 18446744073709551616 := by rw [← hB]; exact or_small hxo.c hm
              have ho : bits .or .u64 (x.c.bits : Int) (more : Int) = (B : Int) := by rw [u64_or_nat _ _ hxo.c hm, hB]
              simp -implicitDefEqProofs [r2, r3, r9, r11, k94]
              refine AAlloc.intro fun b17 h17 => ?_
              have n17 : b9 ≠ b17 := by intro e; subst e; rw [k94] at h17; cases h17
              have n17' : b11 ≠ b17 := by intro e; subst e; rw [k114] at h17; cases h17
              have e17 : H b17 = none := kW4.none h17
              simp -implicitDefEqProofs [r2, r3, r9, r11, ho, n17, n17']
              refine ACall.eq (c_cronMay ⟨x.a, x.b, ⟨B, x.c.star⟩, x.d, x.e⟩ ⟨hxo.a, hxo.b, hBl, hxo.d, hxo.e⟩) ?_
              cases hmz : mayX ⟨x.a, x.b, ⟨B, x.c.star⟩, x.d, x.e⟩ with
              | false =>
                simp -implicitDefEqProofs
                repeat (first | exact kW4 | refine HWk.new (by assumption) ?_)
              | true =>
                simp -implicitDefEqProofs
                repeat (first | exact kW4 | refine HWk.new (by assumption) ?_)
            · obtain ⟨B, hB⟩ : ∃ B, x.d.bits ||| more = B := ⟨_, rfl⟩
              have hBl : B < 18446744073709551616 := by rw [← hB]; exact or_small hxo.d hm
              have ho : bits .or .u64 (x.d.bits : Int) (more : Int) = (B : Int) := by rw [u64_or_nat _ _ hxo.d hm, hB]
              simp -implicitDefEqProofs [r2, r3, r9, r11, k94]
              refine AAlloc.intro fun b17 h17 => ?_
              have n17 : b9 ≠ b17 := by intro e; subst e; rw [k94] at h17; cases h17
              have n17' : b11 ≠ b17 := by intro e; subst e; rw [k114] at h17; cases h17
              have e17 : H b17 = none := kW4.none h17
              simp -implicitDefEqProofs [r2, r3, r9, r11, ho, n17, n17']
              refine ACall.eq (c_cronMay ⟨x.a, x.b, x.c, ⟨B, x.d.star⟩, x.e⟩ ⟨hxo.a, hxo.b, hxo.c, hBl, hxo.e⟩) ?_
              cases hmz : mayX ⟨x.a, x.b, x.c, ⟨B, x.d.star⟩, x.e⟩ with
              | false =>
                simp -implicitDefEqProofs
                repeat (first | exact kW4 | refine HWk.new (by assumption) ?_)
              | true =>
                simp -implicitDefEqProofs
                repeat (first | exact kW4 | refine HWk.new (by assumption) ?_)
            · obtain ⟨B, hB⟩ : ∃ B, x.e.bits ||| more = B := ⟨_, rfl⟩
              have hBl : B < 18446744073709551616 := by rw [← hB]; exact or_small hxo.e hm
              have ho : bits .or .u64 (x.e.bits : Int) (more : Int) = (B : Int) := by rw [u64_or_nat _ _ hxo.e hm, hB]
              simp -implicitDefEqProofs [r2, r3, r9, r11, k94]
              refine AAlloc.intro fun b17 h17 => ?_
              have n17 : b9 ≠ b17 := by intro e; subst e; rw [k94] at h17; cases h17
              have n17' : b11 ≠ b17 := by intro e; subst e; rw [k114] at h17; cases h17
              have e17 : H b17 = none := kW4.none h17
              simp -implicitDefEqProofs [r2, r3, r9, r11, ho, n17, n17']
              refine ACall.eq (c_cronMay ⟨x.a, x.b, x.c, x.d, ⟨B, x.e.star⟩⟩ ⟨hxo.a, hxo.b, hxo.c, hxo.d, hBl⟩) ?_
              cases hmz : mayX ⟨x.a, x.b, x.c, x.d, ⟨B, x.e.star⟩⟩ with
              | false =>
                simp -implicitDefEqProofs
                repeat (first | exact kW4 | refine HWk.new (by assumption) ?_)
              | true =>
                simp -implicitDefEqProofs
                repeat (first | exact kW4 | refine HWk.new (by assumption) ?_)
        | true =>
          have hdf : dayFitsX x (secC c) = true := fits_day (by rw [fits_sec]; exact hfit)
          simp -implicitDefEqProofs [r9, r11, k94, k114]
          refine ACall.eq (c_dayFits x hxo (secC c)) ?_
          rw [hdf]
          simp -implicitDefEqProofs
          by_cases hk : kind < 0 ∨ 4 < kind
          · rcases hk with hk | hk
            · simp -implicitDefEqProofs [r2, hk]
              exact kW4
            · have hk0 : ¬ kind < 0 := by omega
              simp -implicitDefEqProofs [r2, hk, hk0]
              exact kW4
          · have hk5 : kind = 0 ∨ kind = 1 ∨ kind = 2 ∨ kind = 3 ∨ kind = 4 := by omega
            rcases hk5 with rfl | rfl | rfl | rfl | rfl
            · obtain ⟨B, hB⟩ : ∃ B, x.a.bits ||| more = B := ⟨_, rfl⟩
              have hBl : B < 18446744073709551616 := by rw [← hB]; exact or_small hxo.a hm
              have ho : bits .or .u64 (x.a.bits : Int) (more : Int) = (B : Int) := by rw [u64_or_nat _ _ hxo.a hm, hB]
              have hfz : mayX ⟨⟨x.a.bits ||| more, x.a.star⟩, x.b, x.c, x.d, x.e⟩ = true → fitsX ⟨⟨x.a.bits ||| more, x.a.star⟩, x.b, x.c, x.d, x.e⟩ (secC c) = true := fun hq => fits_set 0 more (by rw [fits_sec]; exact hfit) hq
              rw [hB] at hfz
              simp -implicitDefEqProofs [r2, r3, r9, r11, k94]
              refine AAlloc.intro fun b17 h17 => ?_
              have n17 : b9 ≠ b17 := by intro e; subst e; rw [k94] at h17; cases h17
              have n17' : b11 ≠ b17 := by intro e; subst e; rw [k114] at h17; cases h17
              have e17 : H b17 = none := kW4.none h17
              simp -implicitDefEqProofs [r2, r3, r9, r11, ho, n17, n17']
              refine ACall.eq (c_cronMay ⟨⟨B, x.a.star⟩, x.b, x.c, x.d, x.e⟩ ⟨hBl, hxo.b, hxo.c, hxo.d, hxo.e⟩) ?_
              cases hmz : mayX ⟨⟨B, x.a.star⟩, x.b, x.c, x.d, x.e⟩ with
              | false =>
                simp -implicitDefEqProofs
                repeat (first | exact kW4 | refine HWk.new (by assumption) ?_)
              | true =>
                simp -implicitDefEqProofs [r11, n17, n17', k114]
                refine ACall.eq (c_fits ⟨⟨B, x.a.star⟩, x.b, x.c, x.d, x.e⟩ ⟨hBl, hxo.b, hxo.c, hxo.d, hxo.e⟩ (secC c)) ?_
                rw [hfz hmz]
                simp -implicitDefEqProofs
                repeat (first | exact kW4 | refine HWk.new (by assumption) ?_)
            · obtain ⟨B, hB⟩ : ∃ B, x.b.bits ||| more = B := ⟨_, rfl⟩
              have hBl : B < 18446744073709551616 := by rw [← hB]; exact or_small hxo.b hm
              have ho : bits .or .u64 (x.b.bits : Int) (more : Int) = (B : Int) := by rw [u64_or_nat _ _ hxo.b hm, hB]
              have hfz : mayX ⟨x.a, ⟨x.b.bits ||| more, x.b.star⟩, x.c, x.d, x.e⟩ = true → fitsX ⟨x.a, ⟨x.b.bits ||| more, x.b.star⟩, x.c, x.d, x.e⟩ (secC c) = true := fun hq => fits_set 1 more (by rw [fits_sec]; exact hfit) hq
              rw [hB] at hfz
              simp -implicitDefEqProofs [r2, r3, r9, r11, k94]
              refine AAlloc.intro fun b17 h17 => ?_
              have n17 : b9 ≠ b17 := by intro e; subst e; rw [k94] at h17; cases h17
              have n17' : b11 ≠ b17 := by intro e; subst e; rw [k114] at h17; cases h17
              have e17 : H b17 = none := kW4.none h17
              simp -implicitDefEqProofs [r2, r3, r9, r11, ho, n17, n17']
              refine ACall.eq (c_cronMay ⟨x.a, ⟨B, x.b.star⟩, x.c, x.d, x.e⟩ ⟨hxo.a, hBl, hxo.c, hxo.d, hxo.e⟩) ?_
              cases hmz : mayX ⟨x.a, ⟨B, x.b.star⟩, x.c, x.d, x.e⟩ with
              | false =>
                simp -implicitDefEqProofs
                repeat (first | exact kW4 | refine HWk.new (by assumption) ?_)
              | true =>
                simp -implicitDefEqProofs [r11, n17, n17', k114]
                refine ACall.eq (c_fits ⟨x.a, ⟨B, x.b.star⟩, x.c, x.d, x.e⟩ ⟨hxo.a, hBl, hxo.c, hxo.d, hxo.e⟩ (secC c)) ?_
                rw [hfz hmz]
                simp -implicitDefEqProofs
                repeat (first | exact kW4 | refine HWk.new (by assumption) ?_)
            · obtain ⟨B, hB⟩ : ∃ B, x.c.bits ||| more = B := ⟨_, rfl⟩
              have hBl : B < 18446744073709551616 := by rw [← hB]; exact or_small hxo.c hm
              have ho : bits .or .u64 (x.c.bits : Int) (more : Int) = (B : Int) := by rw [u64_or_nat _ _ hxo.c hm, hB]
              have hfz : mayX ⟨x.a, x.b, ⟨x.c.bits ||| more, x.c.star⟩, x.d, x.e⟩ = true → fitsX ⟨x.a, x.b, ⟨x.c.bits ||| more, x.c.star⟩, x.d, x.e⟩ (secC c) = true := fun hq => fits_set 2 more (by rw [fits_sec]; exact hfit) hq
              rw [hB] at hfz
              simp -implicitDefEqProofs [r2, r3, r9, r11, k94]
              refine AAlloc.intro fun b17 h17 => ?_
              have n17 : b9 ≠ b17 := by intro e; subst e; rw [k94] at h17; cases h17
              have n17' : b11 ≠ b17 := by intro e; subst e; rw [k114] at h17; cases h17
              have e17 : H b17 = none := kW4.none h17
              simp -implicitDefEqProofs [r2, r3, r9, r11, ho, n17, n17']
              refine ACall.eq (c_cronMay ⟨x.a, x.b, ⟨B, x.c.star⟩, x.d, x.e⟩ ⟨hxo.a, hxo.b, hBl, hxo.d, hxo.e⟩) ?_
              cases hmz : mayX ⟨x.a, x.b, ⟨B, x.c.star⟩, x.d, x.e⟩ with
              | false =>
                simp -implicitDefEqProofs
                repeat (first | exact kW4 | refine HWk.new (by assumption) ?_)
              | true =>
                simp -implicitDefEqProofs [r11, n17, n17', k114]
                refine ACall.eq (c_fits ⟨x.a, x.b, ⟨B, x.c.star⟩, x.d, x.e⟩ ⟨hxo.a, hxo.b, hBl, hxo.d, hxo.e⟩ (secC c)) ?_
                rw [hfz hmz]
                simp -implicitDefEqProofs
                repeat (first | exact kW4 | refine HWk.new (by assumption) ?_)
            · obtain ⟨B, hB⟩ : ∃ B, x.d.bits ||| more = B := ⟨_, rfl⟩
              have hBl : B < 18446744073709551616 := by rw [← hB]; exact or_small hxo.d hm
              have ho : bits .or .u64 (x.d.bits : Int) (more : Int) = (B : Int) := by rw [u64_or_nat _ _ hxo.d hm, hB]
              have hfz : mayX ⟨x.a, x.b, x.c, ⟨x.d.bits ||| more, x.d.star⟩, x.e⟩ = true → fitsX ⟨x.a, x.b, x.c, ⟨x.d.bits ||| more, x.d.star⟩, x.e⟩ (secC c) = true := fun hq => fits_set 3 more (by rw [fits_sec]; exact hfit) hq
              rw [hB] at hfz
              simp -implicitDefEqProofs [r2, r3, r9, r11, k94]
              refine AAlloc.intro fun b17 h17 => ?_
              have n17 : b9 ≠ b17 := by intro e; subst e; rw [k94] at h17; cases h17
              have n17' : b11 ≠ b17 := by intro e; subst e; rw [k114] at h17; cases h17
              have e17 : H b17 = none := kW4.none h17
              simp -implicitDefEqProofs [r2, r3, r9, r11, ho, n17, n17']
              refine ACall.eq (c_cronMay ⟨x.a, x.b, x.c, ⟨B, x.d.star⟩, x.e⟩ ⟨hxo.a, hxo.b, hxo.c, hBl, hxo.e⟩) ?_
              cases hmz : mayX ⟨x.a, x.b, x.c, ⟨B, x.d.star⟩, x.e⟩ with
              | false =>
                simp -implicitDefEqProofs
                repeat (first | exact kW4 | refine HWk.new (by assumption) ?_)
              | true =>
                simp -implicitDefEqProofs [r11, n17, n17', k114]
                refine ACall.eq (c_fits ⟨x.a, x.b, x.c, ⟨B, x.d.star⟩, x.e⟩ ⟨hxo.a, hxo.b, hxo.c, hBl, hxo.e⟩ (secC c)) ?_
                rw [hfz hmz]
                simp -implicitDefEqProofs
                repeat (first | exact kW4 | refine HWk.new (by assumption) ?_)
            · obtain ⟨B, hB⟩ : ∃ B, x.e.bits ||| more = B := ⟨_, rfl⟩
              have hBl : B < 18446744073709551616 := by rw [← hB]; exact or_small hxo.e hm
              have ho : bits .or .u64 (x.e.bits : Int) (more : Int) = (B : Int) := by rw [u64_or_nat _ _ hxo.e hm, hB]
              have hfz : mayX ⟨x.a, x.b, x.c, x.d, ⟨x.e.bits ||| more, x.e.star⟩⟩ = true → fitsX ⟨x.a, x.b, x.c, x.d, ⟨x.e.bits ||| more, x.e.star⟩⟩ (secC c) = true := fun hq => fits_set 4 more (by rw [fits_sec]; exact hfit) hq
              rw [hB] at hfz
              simp -implicitDefEqProofs [r2, r3, r9, r11, k94]
              refine AAlloc.intro fun b17 h17 => ?_
              have n17 : b9 ≠ b17 := by intro e; subst e; rw [k94] at h17; cases h17
              have n17' : b11 ≠ b17 := by intro e; subst e; rw [k114] at h17; cases h17
              have e17 : H b17 = none := kW4.none h17
              simp -implicitDefEqProofs [r2, r3, r9, r11, ho, n17, n17']
              refine ACall.eq (c_cronMay ⟨x.a, x.b, x.c, x.d, ⟨B, x.e.star⟩⟩ ⟨hxo.a, hxo.b, hxo.c, hxo.d, hBl⟩) ?_
              cases hmz : mayX ⟨x.a, x.b, x.c, x.d, ⟨B, x.e.star⟩⟩ with
              | false =>
                simp -implicitDefEqProofs
                repeat (first | exact kW4 | refine HWk.new (by assumption) ?_)
              | true =>
                simp -implicitDefEqProofs [r11, n17, n17', k114]
                refine ACall.eq (c_fits ⟨x.a, x.b, x.c, x.d, ⟨B, x.e.star⟩⟩ ⟨hxo.a, hxo.b, hxo.c, hxo.d, hBl⟩ (secC c)) ?_
                rw [hfz hmz]
                simp -implicitDefEqProofs
                repeat (first | exact kW4 | refine HWk.new (by assumption) ?_)
    · simp -implicitDefEqProofs [he]
      exact hW2 _
end Go.Proofs.YtdpgnbinekcgdaaGreatDoor
