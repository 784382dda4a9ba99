/- Expressions: a text's. The document's parse of an expression. -/
import Derived.Test.YtlhgpodfhdddkaaGreatDoorP14
import Derived.Test.YtlhgpodfhdddkaaGreatDoorP16
set_option linter.unusedSimpArgs false
set_option linter.unusedVariables false
set_option linter.unnecessarySimpa false
namespace Go.Proofs.YtlhgpodfhdddkaaGreatDoor
open Rg Go
variable {H : Heap}
def nHourly : List UInt8 := [64, 104, 111, 117, 114, 108, 121]
def nDaily : List UInt8 := [64, 100, 97, 105, 108, 121]
def nMidnight : List UInt8 := [64, 109, 105, 100, 110, 105, 103, 104, 116]
def nWeekly : List UInt8 := [64, 119, 101, 101, 107, 108, 121]
def nMonthly : List UInt8 := [64, 109, 111, 110, 116, 104, 108, 121]
def nYearly : List UInt8 := [64, 121, 101, 97, 114, 108, 121]
def nAnnually : List UInt8 := [64, 97, 110, 110, 117, 97, 108, 108, 121]
def xHourly : List UInt8 := [48, 32, 42, 32, 42, 32, 42, 32, 42]
def xDaily : List UInt8 := [48, 32, 48, 32, 42, 32, 42, 32, 42]
def xWeekly : List UInt8 := [48, 32, 48, 32, 42, 32, 42, 32, 48]
def xMonthly : List UInt8 := [48, 32, 48, 32, 49, 32, 42, 32, 42]
def xYearly : List UInt8 := [48, 32, 48, 32, 49, 32, 49, 32, 42]
def namedL (s : List UInt8) : List UInt8 :=
  if s = nHourly then xHourly else if s = nDaily then xDaily else if s = nMidnight then xDaily else if s = nWeekly then xWeekly else if s = nMonthly then xMonthly else if s = nYearly then xYearly else if s = nAnnually then xYearly else []
def Ex.set (x : Ex) (j : Nat) (f : Fld) : Ex :=
  match j with
  | 0 => { x with a := f }
  | 1 => { x with b := f }
  | 2 => { x with c := f }
  | 3 => { x with d := f }
  | _ => { x with e := f }
def goX : List (List UInt8) → Nat → Ex → Ex × Int
  | [], _, x => (x, 0)
  | p :: r, j, x => if (parseK (j : Int) p).2 ≠ 0 then (ex0, (parseK (j : Int) p).2) else goX r (j + 1) (x.set j (parseK (j : Int) p).1)
def cronB (s : List UInt8) : Ex × Int := if (sp 32 s).length ≠ 5 then (ex0, 70) else if [] ∈ sp 32 s then (ex0, 70) else goX (sp 32 s) 0 ex0
def cronK (s : List UInt8) : Ex × Int := if 400 < s.length then (ex0, 3) else cronB (if Lib.hasPrefix s [64] = true then namedL s else s)
theorem beq_dec (s t : List UInt8) : (s == t) = decide (s = t) := by
  rw [Bool.eq_iff_iff]; simp
theorem c_named (s : List UInt8) : AOk Tryz.prog 70 [str s] H (str (namedL s)) H := by
  refine ACalls.into Tryz.func70 rfl Tryz.ntmps70 Tryz.results70 (by simp) ?_
  unfold namedL
  by_cases h1 : s = nHourly
  · rw [if_pos h1]; simp -implicitDefEqProofs [h1, nHourly, xHourly]
  · rw [if_neg h1]
    have e1 : (s == [64, 104, 111, 117, 114, 108, 121]) = false := by rw [beq_dec]; simpa [nHourly] using h1
    by_cases h2 : s = nDaily
    · rw [if_pos h2]; simp -implicitDefEqProofs [h2, nDaily, xDaily]
    · rw [if_neg h2]
      have e2 : (s == [64, 100, 97, 105, 108, 121]) = false := by rw [beq_dec]; simpa [nDaily] using h2
      by_cases h3 : s = nMidnight
      · rw [if_pos h3]; simp -implicitDefEqProofs [h3, nMidnight, xDaily]
      · rw [if_neg h3]
        have e3 : (s == [64, 109, 105, 100, 110, 105, 103, 104, 116]) = false := by rw [beq_dec]; simpa [nMidnight] using h3
        by_cases h4 : s = nWeekly
        · rw [if_pos h4]; simp -implicitDefEqProofs [h4, nWeekly, xWeekly]
        · rw [if_neg h4]
          have e4 : (s == [64, 119, 101, 101, 107, 108, 121]) = false := by rw [beq_dec]; simpa [nWeekly] using h4
          by_cases h5 : s = nMonthly
          · rw [if_pos h5]; simp -implicitDefEqProofs [h5, nMonthly, xMonthly]
          · rw [if_neg h5]
            have e5 : (s == [64, 109, 111, 110, 116, 104, 108, 121]) = false := by rw [beq_dec]; simpa [nMonthly] using h5
            by_cases h6 : s = nYearly
            · rw [if_pos h6]; simp -implicitDefEqProofs [h6, nYearly, xYearly]
            · rw [if_neg h6]
              have e6 : (s == [64, 121, 101, 97, 114, 108, 121]) = false := by rw [beq_dec]; simpa [nYearly] using h6
              by_cases h7 : s = nAnnually
              · rw [if_pos h7]; simp -implicitDefEqProofs [h7, nAnnually, xYearly]
              · rw [if_neg h7]
                have e7 : (s == [64, 97, 110, 110, 117, 97, 108, 108, 121]) = false := by rw [beq_dec]; simpa [nAnnually] using h7
                simp -implicitDefEqProofs [e1, e2, e3, e4, e5, e6, e7]
theorem namedL_len (s : List UInt8) : (namedL s).length ≤ 9 := by
  unfold namedL
  (repeat' split) <;> decide
set_option maxHeartbeats 1000000 in
theorem c_cronParse (hG : Glob H) (s : List UInt8) (_ : s.length ≤ 9223372036854775807) : AOk Tryz.prog 51 [str s] H (.tup [exAV (cronK s).1, .sc (.int .i64 (cronK s).2)]) H := by
  unfold cronK
  refine ACalls.into Tryz.func51 rfl Tryz.ntmps51 Tryz.results51 (by simp) ?_
  simp -implicitDefEqProofs
  refine AAlloc.intro fun b2 h2 => ?_
  have hW : ∀ o, HWk H (H.set b2 o) := fun o => HWk.new h2 (HWk.refl _)
  have hW2 : ∀ o o', HWk H ((H.set b2 o).set b2 o') := fun o o' => by rw [Heap.set_set]; exact hW _
  by_cases hl : 400 < s.length
  · have hl' : (400 : Int) < s.length := by omega
    simp -implicitDefEqProofs [hl, hl', ex0, f0]
    exact hW _
  · have hl' : ¬ (400 : Int) < s.length := by omega
    rw [if_neg hl]
    simp -implicitDefEqProofs [hl']
    generalize hK : Heap.set _ b2 _ = K0
    have k2 : K0 b2 = some (.cells (exC ex0) 83) := by rw [← hK]; simp [Heap.set, ex0, f0]
    have kG : Glob K0 := by rw [← hK]; exact hG.new h2
    have kW : HWk H K0 := by rw [← hK]; exact hW _
    clear hK hW hW2
    refine ACall.eq (c_hasPrefix s [64]) ?_
    have hlen : (if Lib.hasPrefix s [64] = true then namedL s else s).length ≤ 1000000 := by
      split
      · have := namedL_len s; omega
      · omega
    obtain ⟨z, hz⟩ : ∃ z, (if Lib.hasPrefix s [64] = true then namedL s else s) = z := ⟨_, rfl⟩
    rw [hz] at hlen ⊢
    simp -implicitDefEqProofs
    refine ABr.join (fun ρ K => K = K0 ∧ ρ 0 = str z ∧ ρ 2 = .sc (.pointer (some ⟨b2, 0, none⟩))) (fun k' hk' => ?_) ?_
    · by_cases hp : Lib.hasPrefix s [64] = true
      · simp -implicitDefEqProofs [hp]
        refine ACall.eq (c_named s) ?_
        simp -implicitDefEqProofs
        exact hk' _ _ ⟨rfl, by rw [← hz, if_pos hp]; simp, by simp⟩
      · have hp' : Lib.hasPrefix s [64] = false := by simpa using hp
        simp -implicitDefEqProofs [hp']
        exact hk' _ _ ⟨rfl, by rw [← hz, if_neg hp]; simp, by simp⟩
    · rintro ρ K ⟨rfl, r0, r2⟩
      have hm : ∀ x ∈ sp 32 z, x.length ≤ 1000000 := fun x hx => Nat.le_trans (sp_len _ _ x hx) hlen
      have hsplit := c_split (H := K) kG z [32] (by omega) (by decide)
      rw [split_sp] at hsplit
      simp -implicitDefEqProofs [r0]
      refine ACall.eq hsplit ?_
      unfold cronB
      generalize sp 32 z = L at *
      by_cases h5 : L.length = 5
      · have h5' : (L.length : Int) = 5 := by omega
        rw [if_neg (by omega)]
        simp -implicitDefEqProofs [h5]
        refine AGo.joinLoop (fun ρ K2 => K2 = K ∧ ρ 2 = .sc (.pointer (some ⟨b2, 0, none⟩)) ∧ ρ 4 = .sl (strL L) .no ∧ ∀ i, i < 5 → L.getD i [] ≠ []) (fun k' hk' => ?_) ?_
        · refine AGo.rounds (fun m ρ K2 => ∃ j : Nat, j ≤ 5 ∧ m = 5 - j ∧ ρ 2 = .sc (.pointer (some ⟨b2, 0, none⟩)) ∧ ρ 4 = .sl (strL L) .no ∧ ρ 26 = .sl (strL L) .no ∧ ρ 27 = .sc (.int .i64 5) ∧ ρ 28 = .sc (.int .i64 j) ∧ (∀ i, i < j → L.getD i [] ≠ []) ∧ K2 = K) ?_ (m := 5) (HLe.refl _)
            ⟨0, by omega, rfl, by simp [r2], by simp, by simp, by simp, by simp, fun i hi => by omega, rfl⟩
          rintro m ρ K2 ih ⟨j, hj, rfl, r2, r4, r26, r27, r28, hne, rfl⟩
          by_cases hlt : j < 5
          · have hlt' : (j : Int) < 5 := by omega
            have hlL : j < L.length := by omega
            have hgd : L.getD j [] = L[j] := by rw [List.getD_eq_getElem?_getD, List.getElem?_eq_getElem hlL]; rfl
            have hwj : IntKind.i64.wrap ((j : Int) + 1) = ((j + 1 : Nat) : Int) := by rw [wrap_i64 (by omega) (by omega)]; push_cast; rfl
            obtain ⟨q, hq⟩ : ∃ q, L[j] = q := ⟨_, rfl⟩
            by_cases hz : q = []
            · have hin : [] ∈ L := by rw [← hz, ← hq]; exact List.getElem_mem hlL
              rw [if_pos hin]
              simp -implicitDefEqProofs [r26, r27, r28, hlt', hlL, hq, hz, r2, k2, ex0, f0]
              exact HWk.new h2 kW
            · have hzb : (q == []) = false := by simpa using hz
              simp -implicitDefEqProofs [r26, r27, r28, hlt', hlL, hq, hzb, hwj]
              exact AGo.again ih (m' := 5 - (j + 1)) (by omega) (HLe.refl _) ⟨j + 1, by omega, rfl, by simp [r2], by simp [r4], by simp [r26], by simp [r27], by simp, lt_succ_all hne (by rw [hgd, hq]; exact hz), rfl⟩
          · obtain rfl : j = 5 := by omega
            simp -implicitDefEqProofs [r27, r28]
            exact hk' _ _ ⟨rfl, by simp [r2], by simp [r4], hne⟩
        · rintro ρ K2 ⟨rfl, r2, r4, hne⟩
          have hnin : [] ∉ L := fun h => by
            obtain ⟨i, hi, he⟩ := List.getElem_of_mem h
            refine hne i (by omega) ?_
            rw [List.getD_eq_getElem?_getD, List.getElem?_eq_getElem hi, he]; rfl
          rw [if_neg hnin]
          simp -implicitDefEqProofs
          refine AAlloc.intro fun b7 h7 => ?_
          have n72 : b7 ≠ b2 := by intro e; subst e; rw [k2] at h7; cases h7
          have n27 := n72.symm
          have e7 : H b7 = none := kW.none h7
          simp -implicitDefEqProofs [r4, h5]
          generalize hK : Heap.set _ b7 _ = K3
          have k7 : K3 b7 = some (.cells (exC ex0) 83) := by rw [← hK]; simp [Heap.set, ex0, f0]
          have k2' : K3 b2 = some (.cells (exC ex0) 83) := by rw [← hK]; simp [Heap.set, n27, k2]
          have kG' : Glob K3 := by rw [← hK]; exact kG.new h7
          have kW' : HWk H K3 := by rw [← hK]; exact HWk.new e7 kW
          clear hK h7 k2 kG kW
          generalize hres : goX L 0 ex0 = res
          refine AGo.rounds (fun m ρ K2 => ∃ (j : Nat) (x : Ex), j ≤ 5 ∧ m = 5 - j ∧ ρ 2 = .sc (.pointer (some ⟨b2, 0, none⟩)) ∧ ρ 7 = .sc (.pointer (some ⟨b7, 0, none⟩)) ∧ ρ 36 = .sl (strL L) .no ∧ ρ 37 = .sc (.int .i64 5) ∧ ρ 38 = .sc (.int .i64 j) ∧ goX (L.drop j) j x = res ∧
            K2 b2 = some (.cells (exC ex0) 83) ∧ K2 b7 = some (.cells (exC x) 83) ∧ Glob K2 ∧ HWk H K2) ?_ (m := 5) (HLe.refl _)
            ⟨0, ex0, by omega, rfl, by simp [r2], by simp, by simp, by simp, by simp, by simpa using hres, k2', k7, kG', kW'⟩
          clear k7 k2' kG' kW'
          rintro m ρ K2 ih ⟨j, x, hj, rfl, r2, r7, r36, r37, r38, hgo, k2, k7, kG, kW⟩
          have hc : j = 0 ∨ j = 1 ∨ j = 2 ∨ j = 3 ∨ j = 4 ∨ j = 5 := by omega
          rcases hc with rfl | rfl | rfl | rfl | rfl | rfl
          · have hlj : 0 < L.length := by omega
            have hdrop : L.drop 0 = L[0] :: L.drop (0 + 1) := List.drop_eq_getElem_cons hlj
            simp -implicitDefEqProofs [r36, r37, r38, hlj]
            refine ACall.eq (c_parse kG (0 : Nat) L[0] (hm _ (List.getElem_mem (by omega)))) ?_
            simp -implicitDefEqProofs [fAV]
            refine AAlloc.intro fun b10 h10 => ?_
            have n107 : b10 ≠ b7 := by intro e; subst e; rw [k7] at h10; cases h10
            have n102 : b10 ≠ b2 := by intro e; subst e; rw [k2] at h10; cases h10
            have n710 := n107.symm
            have n210 := n102.symm
            have e10 : H b10 = none := kW.none h10
            rw [hdrop, goX] at hgo
            generalize parseK (0 : Nat) L[0] = pr at *
            obtain ⟨f, er⟩ := pr
            simp only at hgo ⊢
            by_cases he : er = 0
            · rw [if_neg (by simp [he])] at hgo
              simp -implicitDefEqProofs [n710, he, r7, r38, k7, wrap_i64]
              refine AGo.again ih (m' := 4) (by omega) (HLe.refl _) ⟨1, x.set 0 f, by omega, rfl, by simp [r2], by simp [r7], by simp [r36], by simp [r37], by simp, hgo, ?_, ?_, ?_, ?_⟩
              · simp [Heap.set, n210, n72.symm, k2]
              · simp [Heap.set, Ex.set]
              · exact kG.mono (fun c us e => by have c10 : c ≠ b10 := (by rintro rfl; rw [h10] at e; cases e); have c7 : c ≠ b7 := (by rintro rfl; rw [k7] at e; cases e); simp [Heap.set, c10, c7, e])
              · repeat (first | exact kW | refine HWk.new (by assumption) ?_)
            · rw [if_pos he] at hgo
              subst hgo
              simp -implicitDefEqProofs [n210, he, r2, k2, ex0, f0]
              repeat (first | exact kW | refine HWk.new (by assumption) ?_)
          · have hlj : 1 < L.length := by omega
            have hdrop : L.drop 1 = L[1] :: L.drop (1 + 1) := List.drop_eq_getElem_cons hlj
            simp -implicitDefEqProofs [r36, r37, r38, hlj]
            refine ACall.eq (c_parse kG (1 : Nat) L[1] (hm _ (List.getElem_mem (by omega)))) ?_
            simp -implicitDefEqProofs [fAV]
            refine AAlloc.intro fun b10 h10 => ?_
            have n107 : b10 ≠ b7 := by intro e; subst e; rw [k7] at h10; cases h10
            have n102 : b10 ≠ b2 := by intro e; subst e; rw [k2] at h10; cases h10
            have n710 := n107.symm
            have n210 := n102.symm
            have e10 : H b10 = none := kW.none h10
            rw [hdrop, goX] at hgo
            generalize parseK (1 : Nat) L[1] = pr at *
            obtain ⟨f, er⟩ := pr
            simp only at hgo ⊢
            by_cases he : er = 0
            · rw [if_neg (by simp [he])] at hgo
              simp -implicitDefEqProofs [n710, he, r7, r38, k7, wrap_i64]
              refine AGo.again ih (m' := 3) (by omega) (HLe.refl _) ⟨2, x.set 1 f, by omega, rfl, by simp [r2], by simp [r7], by simp [r36], by simp [r37], by simp, hgo, ?_, ?_, ?_, ?_⟩
              · simp [Heap.set, n210, n72.symm, k2]
              · simp [Heap.set, Ex.set]
              · exact kG.mono (fun c us e => by have c10 : c ≠ b10 := (by rintro rfl; rw [h10] at e; cases e); have c7 : c ≠ b7 := (by rintro rfl; rw [k7] at e; cases e); simp [Heap.set, c10, c7, e])
              · repeat (first | exact kW | refine HWk.new (by assumption) ?_)
            · rw [if_pos he] at hgo
              subst hgo
              simp -implicitDefEqProofs [n210, he, r2, k2, ex0, f0]
              repeat (first | exact kW | refine HWk.new (by assumption) ?_)
          · have hlj : 2 < L.length := by omega
            have hdrop : L.drop 2 = L[2] :: L.drop (2 + 1) := List.drop_eq_getElem_cons hlj
            simp -implicitDefEqProofs [r36, r37, r38, hlj]
            refine ACall.eq (c_parse kG (2 : Nat) L[2] (hm _ (List.getElem_mem (by omega)))) ?_
            simp -implicitDefEqProofs [fAV]
            refine AAlloc.intro fun b10 h10 => ?_
            have n107 : b10 ≠ b7 := by intro e; subst e; rw [k7] at h10; cases h10
            have n102 : b10 ≠ b2 := by intro e; subst e; rw [k2] at h10; cases h10
            have n710 := n107.symm
            have n210 := n102.symm
            have e10 : H b10 = none := kW.none h10
            rw [hdrop, goX] at hgo
            generalize parseK (2 : Nat) L[2] = pr at *
            obtain ⟨f, er⟩ := pr
            simp only at hgo ⊢
            by_cases he : er = 0
            · rw [if_neg (by simp [he])] at hgo
              simp -implicitDefEqProofs [n710, he, r7, r38, k7, wrap_i64]
              refine AGo.again ih (m' := 2) (by omega) (HLe.refl _) ⟨3, x.set 2 f, by omega, rfl, by simp [r2], by simp [r7], by simp [r36], by simp [r37], by simp, hgo, ?_, ?_, ?_, ?_⟩
              · simp [Heap.set, n210, n72.symm, k2]
              · simp [Heap.set, Ex.set]
              · exact kG.mono (fun c us e => by have c10 : c ≠ b10 := (by rintro rfl; rw [h10] at e; cases e); have c7 : c ≠ b7 := (by rintro rfl; rw [k7] at e; cases e); simp [Heap.set, c10, c7, e])
              · repeat (first | exact kW | refine HWk.new (by assumption) ?_)
            · rw [if_pos he] at hgo
              subst hgo
              simp -implicitDefEqProofs [n210, he, r2, k2, ex0, f0]
              repeat (first | exact kW | refine HWk.new (by assumption) ?_)
          · have hlj : 3 < L.length := by omega
            have hdrop : L.drop 3 = L[3] :: L.drop (3 + 1) := List.drop_eq_getElem_cons hlj
            simp -implicitDefEqProofs [r36, r37, r38, hlj]
            refine ACall.eq (c_parse kG (3 : Nat) L[3] (hm _ (List.getElem_mem (by omega)))) ?_
            simp -implicitDefEqProofs [fAV]
            refine AAlloc.intro fun b10 h10 => ?_
            have n107 : b10 ≠ b7 := by intro e; subst e; rw [k7] at h10; cases h10
            have n102 : b10 ≠ b2 := by intro e; subst e; rw [k2] at h10; cases h10
            have n710 := n107.symm
            have n210 := n102.symm
            have e10 : H b10 = none := kW.none h10
            rw [hdrop, goX] at hgo
            generalize parseK (3 : Nat) L[3] = pr at *
            obtain ⟨f, er⟩ := pr
            simp only at hgo ⊢
            by_cases he : er = 0
            · rw [if_neg (by simp [he])] at hgo
              simp -implicitDefEqProofs [n710, he, r7, r38, k7, wrap_i64]
              refine AGo.again ih (m' := 1) (by omega) (HLe.refl _) ⟨4, x.set 3 f, by omega, rfl, by simp [r2], by simp [r7], by simp [r36], by simp [r37], by simp, hgo, ?_, ?_, ?_, ?_⟩
              · simp [Heap.set, n210, n72.symm, k2]
              · simp [Heap.set, Ex.set]
              · exact kG.mono (fun c us e => by have c10 : c ≠ b10 := (by rintro rfl; rw [h10] at e; cases e); have c7 : c ≠ b7 := (by rintro rfl; rw [k7] at e; cases e); simp [Heap.set, c10, c7, e])
              · repeat (first | exact kW | refine HWk.new (by assumption) ?_)
            · rw [if_pos he] at hgo
              subst hgo
              simp -implicitDefEqProofs [n210, he, r2, k2, ex0, f0]
              repeat (first | exact kW | refine HWk.new (by assumption) ?_)
          · have hlj : 4 < L.length := by omega
            have hdrop : L.drop 4 = L[4] :: L.drop (4 + 1) := List.drop_eq_getElem_cons hlj
            simp -implicitDefEqProofs [r36, r37, r38, hlj]
            refine ACall.eq (c_parse kG (4 : Nat) L[4] (hm _ (List.getElem_mem (by omega)))) ?_
            simp -implicitDefEqProofs [fAV]
            refine AAlloc.intro fun b10 h10 => ?_
            have n107 : b10 ≠ b7 := by intro e; subst e; rw [k7] at h10; cases h10
            have n102 : b10 ≠ b2 := by intro e; subst e; rw [k2] at h10; cases h10
            have n710 := n107.symm
            have n210 := n102.symm
            have e10 : H b10 = none := kW.none h10
            rw [hdrop, goX] at hgo
            generalize parseK (4 : Nat) L[4] = pr at *
            obtain ⟨f, er⟩ := pr
            simp only at hgo ⊢
            by_cases he : er = 0
            · rw [if_neg (by simp [he])] at hgo
              simp -implicitDefEqProofs [n710, he, r7, r38, k7, wrap_i64]
              refine AGo.again ih (m' := 0) (by omega) (HLe.refl _) ⟨5, x.set 4 f, by omega, rfl, by simp [r2], by simp [r7], by simp [r36], by simp [r37], by simp, hgo, ?_, ?_, ?_, ?_⟩
              · simp [Heap.set, n210, n72.symm, k2]
              · simp [Heap.set, Ex.set]
              · exact kG.mono (fun c us e => by have c10 : c ≠ b10 := (by rintro rfl; rw [h10] at e; cases e); have c7 : c ≠ b7 := (by rintro rfl; rw [k7] at e; cases e); simp [Heap.set, c10, c7, e])
              · repeat (first | exact kW | refine HWk.new (by assumption) ?_)
            · rw [if_pos he] at hgo
              subst hgo
              simp -implicitDefEqProofs [n210, he, r2, k2, ex0, f0]
              repeat (first | exact kW | refine HWk.new (by assumption) ?_)
          · rw [List.drop_eq_nil_of_le (by omega), goX] at hgo
            subst hgo
            simp -implicitDefEqProofs [r2, r7, r37, r38, k2, k7]
            exact HWk.new h2 kW
      · have h5' : ¬ (L.length : Int) = 5 := by omega
        rw [if_pos h5]
        simp -implicitDefEqProofs [h5', r2, k2, ex0, f0]
        exact HWk.new h2 kW
end Go.Proofs.YtlhgpodfhdddkaaGreatDoor
namespace Go.Proofs.YtlhgpodfhdddkaaGreatDoor
open Rg Go
variable {H : Heap}
def nmL : List (List UInt8) := [nHourly, xHourly, nDaily, xDaily, nMidnight, xDaily, nWeekly, xWeekly, nMonthly, xMonthly, nYearly, xYearly, nAnnually, xYearly]
theorem c_refNames : AOk Tryz.prog 73 [] H (.sl (strL nmL) .no) H := by
  refine ACalls.into Tryz.func73 rfl Tryz.ntmps73 Tryz.results73 (by simp) ?_
  simp -implicitDefEqProofs [nmL, nHourly, xHourly, nDaily, xDaily, nMidnight, xDaily, nWeekly, xWeekly, nMonthly, xMonthly, nYearly, xYearly, nAnnually, xYearly]
theorem cronB_nil {s : List UInt8} (h : [] ∈ sp 32 s) : cronB s = (ex0, 70) := by
  unfold cronB
  split
  · rfl
  · rfl
theorem cronB_len {s : List UInt8} (h : (sp 32 s).length ≠ 5) : cronB s = (ex0, 70) := by
  unfold cronB
  rw [if_pos h]
set_option maxHeartbeats 1000000 in
theorem c_ref7Plain (s : List UInt8) (hs0 : s.length ≤ 9223372036854775807) (hnp : ¬ 0 < s.length ∨ ∃ h : 0 < s.length, ¬ s[0].toNat = 64) : AOk Tryz.prog 54 [str s] H (.tup [exAV (if 400 < s.length then (ex0, 3) else cronB s).1, .sc (.int .i64 (if 400 < s.length then (ex0, 3) else cronB s).2)]) H := by
  refine ACalls.into Tryz.func54 rfl Tryz.ntmps54 Tryz.results54 (by simp) ?_
  by_cases hl : 400 < s.length
  · have hl' : (400 : Int) < s.length := by omega
    rw [if_pos hl]
    simp -implicitDefEqProofs [ex0, f0]
    refine AAlloc.intro fun b2 h2 => ?_
    simp -implicitDefEqProofs [hl']
    exact HWk.new h2 (HWk.refl _)
  · have hl' : ¬ (400 : Int) < s.length := by omega
    rw [if_neg hl]
    have hs : s.length ≤ 1000000 := by omega
    obtain ⟨res, hres⟩ : ∃ res, cronB s = res := ⟨_, rfl⟩
    have hL := split_length s [32] (by decide)
    rw [split_sp] at hL
    have hm : ∀ x ∈ sp 32 s, x.length ≤ 1000000 := fun x hx => Nat.le_trans (sp_len _ _ x hx) hs
    have hnil : [] ∈ sp 32 s → res = (ex0, 70) := fun h => by rw [← hres]; exact cronB_nil h
    have h5n : (sp 32 s).length ≠ 5 → res = (ex0, 70) := fun h => by rw [← hres]; exact cronB_len h
    rw [hres]
    simp -implicitDefEqProofs
    refine AAlloc.intro fun b2 h2 => ?_
    have c0 : (¬ 0 < s.length ∧ ¬ (0 : Int) < s.length) ∨ (∃ h : 0 < s.length, (0 : Int) < s.length ∧ ¬ s[0].toNat = 64 ∧ ¬ (s[0].toNat : Int) = 64) := by
      rcases hnp with h | ⟨h, h2⟩
      · exact .inl ⟨h, by omega⟩
      · exact .inr ⟨h, by omega, h2, by omega⟩
    rcases c0 with ⟨c0, c0'⟩ | ⟨c0, c0', c1, c1'⟩
    · simp -implicitDefEqProofs [hl', c0]
      generalize hK : Heap.set _ b2 _ = K0
      have k20 : K0 b2 = some (.cells (exC ex0) 83) := by rw [← hK]; simp [Heap.set, ex0, f0]
      have kW0 : HWk H K0 := by rw [← hK]; exact HWk.new h2 (HWk.refl _)
      clear hK
      refine AGo.joinLoop (fun ρ K => ∃ t K', ρ 2 = .sc (.pointer (some ⟨b2, 0, none⟩)) ∧ ρ 6 = .sl (strL (sp 32 s)) t ∧ Grows K0 (strL (sp 32 s)) 1 9 t K' ∧ HLe K' K ∧ [] ∉ sp 32 s) (fun k' hk' => ?_) ?_
      · refine AGo.rounds (fun m ρ K => ∃ (a i : Nat) (out : List (List UInt8)) (t : Tok), m = s.length + 2 - i ∧ i ≤ s.length + 1 ∧ ρ 0 = str s ∧ ρ 2 = .sc (.pointer (some ⟨b2, 0, none⟩)) ∧ ρ 6 = .sl (strL out) t ∧ ρ 7 = .sc (.int .i64 a) ∧ ρ 8 = .sc (.int .i64 i) ∧
          [] ∉ out ∧ out.length ≤ a ∧ a ≤ s.length + 1 ∧ Grows K0 (strL out) 1 9 t K ∧ ((a ≤ i ∧ i ≤ s.length ∧ out ++ sp 32 (s.drop a) = sp 32 s ∧ 32 ∉ (s.drop a).take (i - a)) ∨ (i = s.length + 1 ∧ out = sp 32 s))) ?_ (m := s.length + 2) (HLe.refl _)
          ⟨0, 0, [], .nil, by omega, by omega, by simp, by simp, by simp, by simp, by simp, by simp, by simp, by omega, Grows.zero, .inl ⟨by omega, by omega, by simp, by simp⟩⟩
        rintro m ρ K ih ⟨a, i, out, t, rfl, hi1, r0, r2, r6, r7, r8, hno, hol, ha1, hg, hor⟩
        rcases hor with ⟨hai, hi, hsp, hnot⟩ | ⟨hi, hout⟩
        · have hle' : (i : Int) ≤ s.length := by omega
          have hwi : IntKind.i64.wrap ((i : Int) + 1) = ((i + 1 : Nat) : Int) := by rw [wrap_i64 (by omega) (by omega)]; push_cast; rfl
          have kb2 : K b2 = some (.cells (exC ex0) 83) := hg.le b2 _ k20
          have kWg : HWk H K := kW0.trans hg.le.wk
          by_cases hlt : i < s.length
          · have hne : ¬ i = s.length := by omega
            have hne' : ¬ (i : Int) = s.length := by omega
            have hd : (s.drop a).drop (i - a) = s[i] :: s.drop (i + 1) := by
              rw [List.drop_drop, show a + (i - a) = i by omega, List.drop_eq_getElem_cons hlt]
            have hsplit : s.drop a = (s.drop a).take (i - a) ++ s[i] :: s.drop (i + 1) := by rw [← hd, List.take_append_drop]
            by_cases hc : s[i] = 32
            · have hc' : s[i].toNat = 32 := by rw [hc]; rfl
              have hcut0 : sp 32 (s.drop a) = (s.drop a).take (i - a) :: sp 32 (s.drop (i + 1)) := by
                have e := hsplit
                rw [hc] at e
                generalize (s.drop a).take (i - a) = pc at e hnot ⊢
                rw [e, sp_app, sp_not hnot]
                rfl
              have hcut : sp 32 s = out ++ ((s.drop a).take (i - a) :: sp 32 (s.drop (i + 1))) := by rw [← hsp, hcut0]
              by_cases hia : i = a
              · have hr := hnil (by rw [hcut, hia]; simp)
                subst hr
                subst hia
                simp -implicitDefEqProofs [r0, r2, r7, r8, hle', hlt, hne', hc', kb2, ex0, f0]
                exact HWk.new h2 kWg
              · have hia' : ¬ (i : Int) = a := by omega
                have hai' : (a : Int) ≤ i := by omega
                have hcur : (s.drop a).take (i - a) = (s.take i).drop a := by rw [List.drop_take]
                have hcn : ¬ ((s.take i).drop a = []) := by
                  rw [← hcur]
                  intro h
                  have := congrArg List.length h
                  simp at this
                  omega
                simp -implicitDefEqProofs [r0, r6, r7, r8, hle', hlt, hne', hc', hia', hai']
                refine AApp.grows el_99 hg (HLe.refl _) (by simp) (szs_strs _) (by simp [szs, AV.cells]) (by simp; omega) (by simp [maxLen]; omega) fun t' K' Hn hg' hl' => ?_
                simp -implicitDefEqProofs [r8, hwi]
                refine AGo.again ih (m' := s.length + 2 - (i + 1)) (by omega) hl' ⟨i + 1, i + 1, out ++ [(s.take i).drop a], t', rfl, by omega, by simp [r0], by simp [r2], by simp, by simp, by simp, ?_, by simp; omega, by omega, by simpa using hg', .inl ⟨by omega, by omega, ?_, by simp⟩⟩
                · simp only [List.mem_append, List.mem_singleton, not_or]
                  exact ⟨hno, fun h => hcn h.symm⟩
                · rw [hcut, hcur]; simp
            · have hc' : ¬ s[i].toNat = 32 := fun h => hc (UInt8.toNat_inj.1 (by rw [h]; rfl))
              have hc2 : ¬ (s[i].toNat : Int) = 32 := by omega
              simp -implicitDefEqProofs [r0, r8, hle', hlt, hne', hc2, hwi]
              refine AGo.again ih (m' := s.length + 2 - (i + 1)) (by omega) (HLe.refl _) ⟨a, i + 1, out, t, rfl, by omega, by simp [r0], by simp [r2], by simp [r6], by simp [r7], by simp, hno, hol, ha1, hg, .inl ⟨by omega, by omega, hsp, ?_⟩⟩
              rw [show i + 1 - a = (i - a) + 1 by omega, List.take_add_one]
              have he : (s.drop a)[i - a]? = some s[i] := by rw [List.getElem?_drop, show a + (i - a) = i by omega, List.getElem?_eq_getElem hlt]
              rw [he]
              simp only [Option.toList_some, List.mem_append, List.mem_singleton, not_or]
              exact ⟨hnot, fun h => hc h.symm⟩
          · obtain rfl : i = s.length := by omega
            have hnot' : 32 ∉ s.drop a := by rw [List.take_of_length_le (by simp)] at hnot; exact hnot
            have hcut : sp 32 s = out ++ [s.drop a] := by rw [← hsp, sp_not hnot']
            by_cases hia : s.length = a
            · have hr := hnil (by rw [hcut, ← hia]; simp)
              subst hr
              have hia' : (s.length : Int) = a := by omega
              simp -implicitDefEqProofs [r0, r2, r7, r8, hia, kb2, ex0, f0]
              exact HWk.new h2 kWg
            · have hia' : ¬ (s.length : Int) = a := by omega
              have hai' : (a : Int) ≤ s.length := by omega
              have hcn : ¬ (s.drop a = []) := by
                intro h
                have := congrArg List.length h
                simp at this
                omega
              simp -implicitDefEqProofs [r0, r6, r7, r8, hia', hai']
              refine AApp.grows el_99 hg (HLe.refl _) (by simp) (szs_strs _) (by simp [szs, AV.cells]) (by simp; omega) (by simp [maxLen]; omega) fun t' K' Hn hg' hl' => ?_
              simp -implicitDefEqProofs [r8, hwi]
              refine AGo.again ih (m' := 1) (by omega) hl' ⟨s.length + 1, s.length + 1, out ++ [s.drop a], t', by omega, by omega, by simp [r0], by simp [r2], by simp, by simp, by simp, ?_, by simp; omega, by omega, by simpa using hg', .inr ⟨rfl, hcut.symm⟩⟩
              simp only [List.mem_append, List.mem_singleton, not_or]
              exact ⟨hno, fun h => hcn h.symm⟩
        · subst hout
          have hle' : ¬ (i : Int) ≤ s.length := by omega
          have hle2 : ¬ i ≤ s.length := by omega
          simp -implicitDefEqProofs [r0, r8, hle']
          exact hk' _ _ ⟨t, K, by simp [r2], by simp [r6], hg, HLe.refl _, hno⟩
      · rintro ρ K ⟨t, K', r2, r6, hg, hle, hnin⟩
        have k2 : K b2 = some (.cells (exC ex0) 83) := hle _ _ (hg.le b2 _ k20)
        have kW : HWk H K := kW0.trans (hg.le.trans hle).wk
        clear hg hle k20 kW0
        by_cases h5 : (sp 32 s).length = 5
        · unfold cronB at hres
          rw [if_neg (by omega), if_neg hnin] at hres
          generalize sp 32 s = L at *
          have h5' : (L.length : Int) = 5 := by omega
          simp -implicitDefEqProofs [r6, h5]
          refine AAlloc.intro fun b7 h7 => ?_
          have n72 : b7 ≠ b2 := by intro e; subst e; rw [k2] at h7; cases h7
          have n27 := n72.symm
          have e7 : H b7 = none := kW.none h7
          simp -implicitDefEqProofs
          generalize hK : Heap.set _ b7 _ = K3
          have k7 : K3 b7 = some (.cells (exC ex0) 83) := by rw [← hK]; simp [Heap.set, ex0, f0]
          have k2' : K3 b2 = some (.cells (exC ex0) 83) := by rw [← hK]; simp [Heap.set, n27, k2]
          have kW' : HWk H K3 := by rw [← hK]; exact HWk.new e7 kW
          clear hK h7 k2 kW
          refine AGo.rounds (fun m ρ K2 => ∃ (j : Nat) (x : Ex), j ≤ 5 ∧ m = 5 - j ∧ ρ 2 = .sc (.pointer (some ⟨b2, 0, none⟩)) ∧ ρ 6 = .sl (strL L) t ∧ ρ 9 = .sc (.pointer (some ⟨b7, 0, none⟩)) ∧ ρ 10 = .sc (.int .i64 j) ∧ goX (L.drop j) j x = res ∧
            K2 b2 = some (.cells (exC ex0) 83) ∧ K2 b7 = some (.cells (exC x) 83) ∧ HWk H K2) ?_ (m := 5) (HLe.refl _)
            ⟨0, ex0, by omega, rfl, by simp [r2], by simp [r6], by simp, by simp, by simpa using hres, k2', k7, kW'⟩
          clear k7 k2' kW' r2 r6
          rintro m ρ K2 ih ⟨j, x, hj, rfl, r2, r6, r9, r10, hgo, k2, k7, kW⟩
          have hc : j = 0 ∨ j = 1 ∨ j = 2 ∨ j = 3 ∨ j = 4 ∨ j = 5 := by omega
          rcases hc with rfl | rfl | rfl | rfl | rfl | rfl
          · have hlj : 0 < L.length := by omega
            have hdrop : L.drop 0 = L[0] :: L.drop (0 + 1) := List.drop_eq_getElem_cons hlj
            simp -implicitDefEqProofs [r6, r10, hlj]
            refine ACall.eq (c_refParse (0 : Nat) L[0] (hm _ (List.getElem_mem (by omega)))) ?_
            simp -implicitDefEqProofs [fAV]
            refine AAlloc.intro fun b10 h10 => ?_
            have n107 : b10 ≠ b7 := by intro e; subst e; rw [k7] at h10; cases h10
            have n102 : b10 ≠ b2 := by intro e; subst e; rw [k2] at h10; cases h10
            have n710 := n107.symm
            have n210 := n102.symm
            have e10 : H b10 = none := kW.none h10
            rw [hdrop, goX] at hgo
            generalize parseK (0 : Nat) L[0] = pr at *
            obtain ⟨f, er⟩ := pr
            simp only at hgo ⊢
            by_cases he : er = 0
            · rw [if_neg (by simp [he])] at hgo
              simp -implicitDefEqProofs [n710, he, r9, r10, k7, wrap_i64]
              refine AGo.again ih (m' := 4) (by omega) (HLe.refl _) ⟨1, x.set 0 f, by omega, rfl, by simp [r2], by simp [r6], by simp [r9], by simp, hgo, ?_, ?_, ?_⟩
              · simp [Heap.set, n210, n72.symm, k2]
              · simp [Heap.set, Ex.set]
              · repeat (first | exact kW | refine HWk.new (by assumption) ?_)
            · rw [if_pos he] at hgo
              subst hgo
              simp -implicitDefEqProofs [n210, he, r2, k2, ex0, f0]
              repeat (first | exact kW | refine HWk.new (by assumption) ?_)
          · have hlj : 1 < L.length := by omega
            have hdrop : L.drop 1 = L[1] :: L.drop (1 + 1) := List.drop_eq_getElem_cons hlj
            simp -implicitDefEqProofs [r6, r10, hlj]
            refine ACall.eq (c_refParse (1 : Nat) L[1] (hm _ (List.getElem_mem (by omega)))) ?_
            simp -implicitDefEqProofs [fAV]
            refine AAlloc.intro fun b10 h10 => ?_
            have n107 : b10 ≠ b7 := by intro e; subst e; rw [k7] at h10; cases h10
            have n102 : b10 ≠ b2 := by intro e; subst e; rw [k2] at h10; cases h10
            have n710 := n107.symm
            have n210 := n102.symm
            have e10 : H b10 = none := kW.none h10
            rw [hdrop, goX] at hgo
            generalize parseK (1 : Nat) L[1] = pr at *
            obtain ⟨f, er⟩ := pr
            simp only at hgo ⊢
            by_cases he : er = 0
            · rw [if_neg (by simp [he])] at hgo
              simp -implicitDefEqProofs [n710, he, r9, r10, k7, wrap_i64]
              refine AGo.again ih (m' := 3) (by omega) (HLe.refl _) ⟨2, x.set 1 f, by omega, rfl, by simp [r2], by simp [r6], by simp [r9], by simp, hgo, ?_, ?_, ?_⟩
              · simp [Heap.set, n210, n72.symm, k2]
              · simp [Heap.set, Ex.set]
              · repeat (first | exact kW | refine HWk.new (by assumption) ?_)
            · rw [if_pos he] at hgo
              subst hgo
              simp -implicitDefEqProofs [n210, he, r2, k2, ex0, f0]
              repeat (first | exact kW | refine HWk.new (by assumption) ?_)
          · have hlj : 2 < L.length := by omega
            have hdrop : L.drop 2 = L[2] :: L.drop (2 + 1) := List.drop_eq_getElem_cons hlj
            simp -implicitDefEqProofs [r6, r10, hlj]
            refine ACall.eq (c_refParse (2 : Nat) L[2] (hm _ (List.getElem_mem (by omega)))) ?_
            simp -implicitDefEqProofs [fAV]
            refine AAlloc.intro fun b10 h10 => ?_
            have n107 : b10 ≠ b7 := by intro e; subst e; rw [k7] at h10; cases h10
            have n102 : b10 ≠ b2 := by intro e; subst e; rw [k2] at h10; cases h10
            have n710 := n107.symm
            have n210 := n102.symm
            have e10 : H b10 = none := kW.none h10
            rw [hdrop, goX] at hgo
            generalize parseK (2 : Nat) L[2] = pr at *
            obtain ⟨f, er⟩ := pr
            simp only at hgo ⊢
            by_cases he : er = 0
            · rw [if_neg (by simp [he])] at hgo
              simp -implicitDefEqProofs [n710, he, r9, r10, k7, wrap_i64]
              refine AGo.again ih (m' := 2) (by omega) (HLe.refl _) ⟨3, x.set 2 f, by omega, rfl, by simp [r2], by simp [r6], by simp [r9], by simp, hgo, ?_, ?_, ?_⟩
              · simp [Heap.set, n210, n72.symm, k2]
              · simp [Heap.set, Ex.set]
              · repeat (first | exact kW | refine HWk.new (by assumption) ?_)
            · rw [if_pos he] at hgo
              subst hgo
              simp -implicitDefEqProofs [n210, he, r2, k2, ex0, f0]
              repeat (first | exact kW | refine HWk.new (by assumption) ?_)
          · have hlj : 3 < L.length := by omega
            have hdrop : L.drop 3 = L[3] :: L.drop (3 + 1) := List.drop_eq_getElem_cons hlj
            simp -implicitDefEqProofs [r6, r10, hlj]
            refine ACall.eq (c_refParse (3 : Nat) L[3] (hm _ (List.getElem_mem (by omega)))) ?_
            simp -implicitDefEqProofs [fAV]
            refine AAlloc.intro fun b10 h10 => ?_
            have n107 : b10 ≠ b7 := by intro e; subst e; rw [k7] at h10; cases h10
            have n102 : b10 ≠ b2 := by intro e; subst e; rw [k2] at h10; cases h10
            have n710 := n107.symm
            have n210 := n102.symm
            have e10 : H b10 = none := kW.none h10
            rw [hdrop, goX] at hgo
            generalize parseK (3 : Nat) L[3] = pr at *
            obtain ⟨f, er⟩ := pr
            simp only at hgo ⊢
            by_cases he : er = 0
            · rw [if_neg (by simp [he])] at hgo
              simp -implicitDefEqProofs [n710, he, r9, r10, k7, wrap_i64]
              refine AGo.again ih (m' := 1) (by omega) (HLe.refl _) ⟨4, x.set 3 f, by omega, rfl, by simp [r2], by simp [r6], by simp [r9], by simp, hgo, ?_, ?_, ?_⟩
              · simp [Heap.set, n210, n72.symm, k2]
              · simp [Heap.set, Ex.set]
              · repeat (first | exact kW | refine HWk.new (by assumption) ?_)
            · rw [if_pos he] at hgo
              subst hgo
              simp -implicitDefEqProofs [n210, he, r2, k2, ex0, f0]
              repeat (first | exact kW | refine HWk.new (by assumption) ?_)
          · have hlj : 4 < L.length := by omega
            have hdrop : L.drop 4 = L[4] :: L.drop (4 + 1) := List.drop_eq_getElem_cons hlj
            simp -implicitDefEqProofs [r6, r10, hlj]
            refine ACall.eq (c_refParse (4 : Nat) L[4] (hm _ (List.getElem_mem (by omega)))) ?_
            simp -implicitDefEqProofs [fAV]
            refine AAlloc.intro fun b10 h10 => ?_
            have n107 : b10 ≠ b7 := by intro e; subst e; rw [k7] at h10; cases h10
            have n102 : b10 ≠ b2 := by intro e; subst e; rw [k2] at h10; cases h10
            have n710 := n107.symm
            have n210 := n102.symm
            have e10 : H b10 = none := kW.none h10
            rw [hdrop, goX] at hgo
            generalize parseK (4 : Nat) L[4] = pr at *
            obtain ⟨f, er⟩ := pr
            simp only at hgo ⊢
            by_cases he : er = 0
            · rw [if_neg (by simp [he])] at hgo
              simp -implicitDefEqProofs [n710, he, r9, r10, k7, wrap_i64]
              refine AGo.again ih (m' := 0) (by omega) (HLe.refl _) ⟨5, x.set 4 f, by omega, rfl, by simp [r2], by simp [r6], by simp [r9], by simp, hgo, ?_, ?_, ?_⟩
              · simp [Heap.set, n210, n72.symm, k2]
              · simp [Heap.set, Ex.set]
              · repeat (first | exact kW | refine HWk.new (by assumption) ?_)
            · rw [if_pos he] at hgo
              subst hgo
              simp -implicitDefEqProofs [n210, he, r2, k2, ex0, f0]
              repeat (first | exact kW | refine HWk.new (by assumption) ?_)
          · rw [List.drop_eq_nil_of_le (by omega), goX] at hgo
            subst hgo
            simp -implicitDefEqProofs [r2, r9, r10, k2, k7]
            exact HWk.new h2 kW
        · have h5' : ¬ ((sp 32 s).length : Int) = 5 := by omega
          have hr := h5n h5
          subst hr
          simp -implicitDefEqProofs [r2, r6, h5', k2, ex0, f0]
          exact HWk.new h2 kW
    · simp -implicitDefEqProofs [hl', c0, c1']
      generalize hK : Heap.set _ b2 _ = K0
      have k20 : K0 b2 = some (.cells (exC ex0) 83) := by rw [← hK]; simp [Heap.set, ex0, f0]
      have kW0 : HWk H K0 := by rw [← hK]; exact HWk.new h2 (HWk.refl _)
      clear hK
      refine AGo.joinLoop (fun ρ K => ∃ t K', ρ 2 = .sc (.pointer (some ⟨b2, 0, none⟩)) ∧ ρ 6 = .sl (strL (sp 32 s)) t ∧ Grows K0 (strL (sp 32 s)) 1 9 t K' ∧ HLe K' K ∧ [] ∉ sp 32 s) (fun k' hk' => ?_) ?_
      · refine AGo.rounds (fun m ρ K => ∃ (a i : Nat) (out : List (List UInt8)) (t : Tok), m = s.length + 2 - i ∧ i ≤ s.length + 1 ∧ ρ 0 = str s ∧ ρ 2 = .sc (.pointer (some ⟨b2, 0, none⟩)) ∧ ρ 6 = .sl (strL out) t ∧ ρ 7 = .sc (.int .i64 a) ∧ ρ 8 = .sc (.int .i64 i) ∧
          [] ∉ out ∧ out.length ≤ a ∧ a ≤ s.length + 1 ∧ Grows K0 (strL out) 1 9 t K ∧ ((a ≤ i ∧ i ≤ s.length ∧ out ++ sp 32 (s.drop a) = sp 32 s ∧ 32 ∉ (s.drop a).take (i - a)) ∨ (i = s.length + 1 ∧ out = sp 32 s))) ?_ (m := s.length + 2) (HLe.refl _)
          ⟨0, 0, [], .nil, by omega, by omega, by simp, by simp, by simp, by simp, by simp, by simp, by simp, by omega, Grows.zero, .inl ⟨by omega, by omega, by simp, by simp⟩⟩
        rintro m ρ K ih ⟨a, i, out, t, rfl, hi1, r0, r2, r6, r7, r8, hno, hol, ha1, hg, hor⟩
        rcases hor with ⟨hai, hi, hsp, hnot⟩ | ⟨hi, hout⟩
        · have hle' : (i : Int) ≤ s.length := by omega
          have hwi : IntKind.i64.wrap ((i : Int) + 1) = ((i + 1 : Nat) : Int) := by rw [wrap_i64 (by omega) (by omega)]; push_cast; rfl
          have kb2 : K b2 = some (.cells (exC ex0) 83) := hg.le b2 _ k20
          have kWg : HWk H K := kW0.trans hg.le.wk
          by_cases hlt : i < s.length
          · have hne : ¬ i = s.length := by omega
            have hne' : ¬ (i : Int) = s.length := by omega
            have hd : (s.drop a).drop (i - a) = s[i] :: s.drop (i + 1) := by
              rw [List.drop_drop, show a + (i - a) = i by omega, List.drop_eq_getElem_cons hlt]
            have hsplit : s.drop a = (s.drop a).take (i - a) ++ s[i] :: s.drop (i + 1) := by rw [← hd, List.take_append_drop]
            by_cases hc : s[i] = 32
            · have hc' : s[i].toNat = 32 := by rw [hc]; rfl
              have hcut0 : sp 32 (s.drop a) = (s.drop a).take (i - a) :: sp 32 (s.drop (i + 1)) := by
                have e := hsplit
                rw [hc] at e
                generalize (s.drop a).take (i - a) = pc at e hnot ⊢
                rw [e, sp_app, sp_not hnot]
                rfl
              have hcut : sp 32 s = out ++ ((s.drop a).take (i - a) :: sp 32 (s.drop (i + 1))) := by rw [← hsp, hcut0]
              by_cases hia : i = a
              · have hr := hnil (by rw [hcut, hia]; simp)
                subst hr
                subst hia
                simp -implicitDefEqProofs [r0, r2, r7, r8, hle', hlt, hne', hc', kb2, ex0, f0]
                exact HWk.new h2 kWg
              · have hia' : ¬ (i : Int) = a := by omega
                have hai' : (a : Int) ≤ i := by omega
                have hcur : (s.drop a).take (i - a) = (s.take i).drop a := by rw [List.drop_take]
                have hcn : ¬ ((s.take i).drop a = []) := by
                  rw [← hcur]
                  intro h
                  have := congrArg List.length h
                  simp at this
                  omega
                simp -implicitDefEqProofs [r0, r6, r7, r8, hle', hlt, hne', hc', hia', hai']
                refine AApp.grows el_99 hg (HLe.refl _) (by simp) (szs_strs _) (by simp [szs, AV.cells]) (by simp; omega) (by simp [maxLen]; omega) fun t' K' Hn hg' hl' => ?_
                simp -implicitDefEqProofs [r8, hwi]
                refine AGo.again ih (m' := s.length + 2 - (i + 1)) (by omega) hl' ⟨i + 1, i + 1, out ++ [(s.take i).drop a], t', rfl, by omega, by simp [r0], by simp [r2], by simp, by simp, by simp, ?_, by simp; omega, by omega, by simpa using hg', .inl ⟨by omega, by omega, ?_, by simp⟩⟩
                · simp only [List.mem_append, List.mem_singleton, not_or]
                  exact ⟨hno, fun h => hcn h.symm⟩
                · rw [hcut, hcur]; simp
            · have hc' : ¬ s[i].toNat = 32 := fun h => hc (UInt8.toNat_inj.1 (by rw [h]; rfl))
              have hc2 : ¬ (s[i].toNat : Int) = 32 := by omega
              simp -implicitDefEqProofs [r0, r8, hle', hlt, hne', hc2, hwi]
              refine AGo.again ih (m' := s.length + 2 - (i + 1)) (by omega) (HLe.refl _) ⟨a, i + 1, out, t, rfl, by omega, by simp [r0], by simp [r2], by simp [r6], by simp [r7], by simp, hno, hol, ha1, hg, .inl ⟨by omega, by omega, hsp, ?_⟩⟩
              rw [show i + 1 - a = (i - a) + 1 by omega, List.take_add_one]
              have he : (s.drop a)[i - a]? = some s[i] := by rw [List.getElem?_drop, show a + (i - a) = i by omega, List.getElem?_eq_getElem hlt]
              rw [he]
              simp only [Option.toList_some, List.mem_append, List.mem_singleton, not_or]
              exact ⟨hnot, fun h => hc h.symm⟩
          · obtain rfl : i = s.length := by omega
            have hnot' : 32 ∉ s.drop a := by rw [List.take_of_length_le (by simp)] at hnot; exact hnot
            have hcut : sp 32 s = out ++ [s.drop a] := by rw [← hsp, sp_not hnot']
            by_cases hia : s.length = a
            · have hr := hnil (by rw [hcut, ← hia]; simp)
              subst hr
              have hia' : (s.length : Int) = a := by omega
              simp -implicitDefEqProofs [r0, r2, r7, r8, hia, kb2, ex0, f0]
              exact HWk.new h2 kWg
            · have hia' : ¬ (s.length : Int) = a := by omega
              have hai' : (a : Int) ≤ s.length := by omega
              have hcn : ¬ (s.drop a = []) := by
                intro h
                have := congrArg List.length h
                simp at this
                omega
              simp -implicitDefEqProofs [r0, r6, r7, r8, hia', hai']
              refine AApp.grows el_99 hg (HLe.refl _) (by simp) (szs_strs _) (by simp [szs, AV.cells]) (by simp; omega) (by simp [maxLen]; omega) fun t' K' Hn hg' hl' => ?_
              simp -implicitDefEqProofs [r8, hwi]
              refine AGo.again ih (m' := 1) (by omega) hl' ⟨s.length + 1, s.length + 1, out ++ [s.drop a], t', by omega, by omega, by simp [r0], by simp [r2], by simp, by simp, by simp, ?_, by simp; omega, by omega, by simpa using hg', .inr ⟨rfl, hcut.symm⟩⟩
              simp only [List.mem_append, List.mem_singleton, not_or]
              exact ⟨hno, fun h => hcn h.symm⟩
        · subst hout
          have hle' : ¬ (i : Int) ≤ s.length := by omega
          have hle2 : ¬ i ≤ s.length := by omega
          simp -implicitDefEqProofs [r0, r8, hle']
          exact hk' _ _ ⟨t, K, by simp [r2], by simp [r6], hg, HLe.refl _, hno⟩
      · rintro ρ K ⟨t, K', r2, r6, hg, hle, hnin⟩
        have k2 : K b2 = some (.cells (exC ex0) 83) := hle _ _ (hg.le b2 _ k20)
        have kW : HWk H K := kW0.trans (hg.le.trans hle).wk
        clear hg hle k20 kW0
        by_cases h5 : (sp 32 s).length = 5
        · unfold cronB at hres
          rw [if_neg (by omega), if_neg hnin] at hres
          generalize sp 32 s = L at *
          have h5' : (L.length : Int) = 5 := by omega
          simp -implicitDefEqProofs [r6, h5]
          refine AAlloc.intro fun b7 h7 => ?_
          have n72 : b7 ≠ b2 := by intro e; subst e; rw [k2] at h7; cases h7
          have n27 := n72.symm
          have e7 : H b7 = none := kW.none h7
          simp -implicitDefEqProofs
          generalize hK : Heap.set _ b7 _ = K3
          have k7 : K3 b7 = some (.cells (exC ex0) 83) := by rw [← hK]; simp [Heap.set, ex0, f0]
          have k2' : K3 b2 = some (.cells (exC ex0) 83) := by rw [← hK]; simp [Heap.set, n27, k2]
          have kW' : HWk H K3 := by rw [← hK]; exact HWk.new e7 kW
          clear hK h7 k2 kW
          refine AGo.rounds (fun m ρ K2 => ∃ (j : Nat) (x : Ex), j ≤ 5 ∧ m = 5 - j ∧ ρ 2 = .sc (.pointer (some ⟨b2, 0, none⟩)) ∧ ρ 6 = .sl (strL L) t ∧ ρ 9 = .sc (.pointer (some ⟨b7, 0, none⟩)) ∧ ρ 10 = .sc (.int .i64 j) ∧ goX (L.drop j) j x = res ∧
            K2 b2 = some (.cells (exC ex0) 83) ∧ K2 b7 = some (.cells (exC x) 83) ∧ HWk H K2) ?_ (m := 5) (HLe.refl _)
            ⟨0, ex0, by omega, rfl, by simp [r2], by simp [r6], by simp, by simp, by simpa using hres, k2', k7, kW'⟩
          clear k7 k2' kW' r2 r6
          rintro m ρ K2 ih ⟨j, x, hj, rfl, r2, r6, r9, r10, hgo, k2, k7, kW⟩
          have hc : j = 0 ∨ j = 1 ∨ j = 2 ∨ j = 3 ∨ j = 4 ∨ j = 5 := by omega
          rcases hc with rfl | rfl | rfl | rfl | rfl | rfl
          · have hlj : 0 < L.length := by omega
            have hdrop : L.drop 0 = L[0] :: L.drop (0 + 1) := List.drop_eq_getElem_cons hlj
            simp -implicitDefEqProofs [r6, r10, hlj]
            refine ACall.eq (c_refParse (0 : Nat) L[0] (hm _ (List.getElem_mem (by omega)))) ?_
            simp -implicitDefEqProofs [fAV]
            refine AAlloc.intro fun b10 h10 => ?_
            have n107 : b10 ≠ b7 := by intro e; subst e; rw [k7] at h10; cases h10
            have n102 : b10 ≠ b2 := by intro e; subst e; rw [k2] at h10; cases h10
            have n710 := n107.symm
            have n210 := n102.symm
            have e10 : H b10 = none := kW.none h10
            rw [hdrop, goX] at hgo
            generalize parseK (0 : Nat) L[0] = pr at *
            obtain ⟨f, er⟩ := pr
            simp only at hgo ⊢
            by_cases he : er = 0
            · rw [if_neg (by simp [he])] at hgo
              simp -implicitDefEqProofs [n710, he, r9, r10, k7, wrap_i64]
              refine AGo.again ih (m' := 4) (by omega) (HLe.refl _) ⟨1, x.set 0 f, by omega, rfl, by simp [r2], by simp [r6], by simp [r9], by simp, hgo, ?_, ?_, ?_⟩
              · simp [Heap.set, n210, n72.symm, k2]
              · simp [Heap.set, Ex.set]
              · repeat (first | exact kW | refine HWk.new (by assumption) ?_)
            · rw [if_pos he] at hgo
              subst hgo
              simp -implicitDefEqProofs [n210, he, r2, k2, ex0, f0]
              repeat (first | exact kW | refine HWk.new (by assumption) ?_)
          · have hlj : 1 < L.length := by omega
            have hdrop : L.drop 1 = L[1] :: L.drop (1 + 1) := List.drop_eq_getElem_cons hlj
            simp -implicitDefEqProofs [r6, r10, hlj]
            refine ACall.eq (c_refParse (1 : Nat) L[1] (hm _ (List.getElem_mem (by omega)))) ?_
            simp -implicitDefEqProofs [fAV]
            refine AAlloc.intro fun b10 h10 => ?_
            have n107 : b10 ≠ b7 := by intro e; subst e; rw [k7] at h10; cases h10
            have n102 : b10 ≠ b2 := by intro e; subst e; rw [k2] at h10; cases h10
            have n710 := n107.symm
            have n210 := n102.symm
            have e10 : H b10 = none := kW.none h10
            rw [hdrop, goX] at hgo
            generalize parseK (1 : Nat) L[1] = pr at *
            obtain ⟨f, er⟩ := pr
            simp only at hgo ⊢
            by_cases he : er = 0
            · rw [if_neg (by simp [he])] at hgo
              simp -implicitDefEqProofs [n710, he, r9, r10, k7, wrap_i64]
              refine AGo.again ih (m' := 3) (by omega) (HLe.refl _) ⟨2, x.set 1 f, by omega, rfl, by simp [r2], by simp [r6], by simp [r9], by simp, hgo, ?_, ?_, ?_⟩
              · simp [Heap.set, n210, n72.symm, k2]
              · simp [Heap.set, Ex.set]
              · repeat (first | exact kW | refine HWk.new (by assumption) ?_)
            · rw [if_pos he] at hgo
              subst hgo
              simp -implicitDefEqProofs [n210, he, r2, k2, ex0, f0]
              repeat (first | exact kW | refine HWk.new (by assumption) ?_)
          · have hlj : 2 < L.length := by omega
            have hdrop : L.drop 2 = L[2] :: L.drop (2 + 1) := List.drop_eq_getElem_cons hlj
            simp -implicitDefEqProofs [r6, r10, hlj]
            refine ACall.eq (c_refParse (2 : Nat) L[2] (hm _ (List.getElem_mem (by omega)))) ?_
            simp -implicitDefEqProofs [fAV]
            refine AAlloc.intro fun b10 h10 => ?_
            have n107 : b10 ≠ b7 := by intro e; subst e; rw [k7] at h10; cases h10
            have n102 : b10 ≠ b2 := by intro e; subst e; rw [k2] at h10; cases h10
            have n710 := n107.symm
            have n210 := n102.symm
            have e10 : H b10 = none := kW.none h10
            rw [hdrop, goX] at hgo
            generalize parseK (2 : Nat) L[2] = pr at *
            obtain ⟨f, er⟩ := pr
            simp only at hgo ⊢
            by_cases he : er = 0
            · rw [if_neg (by simp [he])] at hgo
              simp -implicitDefEqProofs [n710, he, r9, r10, k7, wrap_i64]
              refine AGo.again ih (m' := 2) (by omega) (HLe.refl _) ⟨3, x.set 2 f, by omega, rfl, by simp [r2], by simp [r6], by simp [r9], by simp, hgo, ?_, ?_, ?_⟩
              · simp [Heap.set, n210, n72.symm, k2]
              · simp [Heap.set, Ex.set]
              · repeat (first | exact kW | refine HWk.new (by assumption) ?_)
            · rw [if_pos he] at hgo
              subst hgo
              simp -implicitDefEqProofs [n210, he, r2, k2, ex0, f0]
              repeat (first | exact kW | refine HWk.new (by assumption) ?_)
          · have hlj : 3 < L.length := by omega
            have hdrop : L.drop 3 = L[3] :: L.drop (3 + 1) := List.drop_eq_getElem_cons hlj
            simp -implicitDefEqProofs [r6, r10, hlj]
            refine ACall.eq (c_refParse (3 : Nat) L[3] (hm _ (List.getElem_mem (by omega)))) ?_
            simp -implicitDefEqProofs [fAV]
            refine AAlloc.intro fun b10 h10 => ?_
            have n107 : b10 ≠ b7 := by intro e; subst e; rw [k7] at h10; cases h10
            have n102 : b10 ≠ b2 := by intro e; subst e; rw [k2] at h10; cases h10
            have n710 := n107.symm
            have n210 := n102.symm
            have e10 : H b10 = none := kW.none h10
            rw [hdrop, goX] at hgo
            generalize parseK (3 : Nat) L[3] = pr at *
            obtain ⟨f, er⟩ := pr
            simp only at hgo ⊢
            by_cases he : er = 0
            · rw [if_neg (by simp [he])] at hgo
              simp -implicitDefEqProofs [n710, he, r9, r10, k7, wrap_i64]
              refine AGo.again ih (m' := 1) (by omega) (HLe.refl _) ⟨4, x.set 3 f, by omega, rfl, by simp [r2], by simp [r6], by simp [r9], by simp, hgo, ?_, ?_, ?_⟩
              · simp [Heap.set, n210, n72.symm, k2]
              · simp [Heap.set, Ex.set]
              · repeat (first | exact kW | refine HWk.new (by assumption) ?_)
            · rw [if_pos he] at hgo
              subst hgo
              simp -implicitDefEqProofs [n210, he, r2, k2, ex0, f0]
              repeat (first | exact kW | refine HWk.new (by assumption) ?_)
          · have hlj : 4 < L.length := by omega
            have hdrop : L.drop 4 = L[4] :: L.drop (4 + 1) := List.drop_eq_getElem_cons hlj
            simp -implicitDefEqProofs [r6, r10, hlj]
            refine ACall.eq (c_refParse (4 : Nat) L[4] (hm _ (List.getElem_mem (by omega)))) ?_
            simp -implicitDefEqProofs [fAV]
            refine AAlloc.intro fun b10 h10 => ?_
            have n107 : b10 ≠ b7 := by intro e; subst e; rw [k7] at h10; cases h10
            have n102 : b10 ≠ b2 := by intro e; subst e; rw [k2] at h10; cases h10
            have n710 := n107.symm
            have n210 := n102.symm
            have e10 : H b10 = none := kW.none h10
            rw [hdrop, goX] at hgo
            generalize parseK (4 : Nat) L[4] = pr at *
            obtain ⟨f, er⟩ := pr
            simp only at hgo ⊢
            by_cases he : er = 0
            · rw [if_neg (by simp [he])] at hgo
              simp -implicitDefEqProofs [n710, he, r9, r10, k7, wrap_i64]
              refine AGo.again ih (m' := 0) (by omega) (HLe.refl _) ⟨5, x.set 4 f, by omega, rfl, by simp [r2], by simp [r6], by simp [r9], by simp, hgo, ?_, ?_, ?_⟩
              · simp [Heap.set, n210, n72.symm, k2]
              · simp [Heap.set, Ex.set]
              · repeat (first | exact kW | refine HWk.new (by assumption) ?_)
            · rw [if_pos he] at hgo
              subst hgo
              simp -implicitDefEqProofs [n210, he, r2, k2, ex0, f0]
              repeat (first | exact kW | refine HWk.new (by assumption) ?_)
          · rw [List.drop_eq_nil_of_le (by omega), goX] at hgo
            subst hgo
            simp -implicitDefEqProofs [r2, r9, r10, k2, k7]
            exact HWk.new h2 kW
        · have h5' : ¬ ((sp 32 s).length : Int) = 5 := by omega
          have hr := h5n h5
          subst hr
          simp -implicitDefEqProofs [r2, r6, h5', k2, ex0, f0]
          exact HWk.new h2 kW
end Go.Proofs.YtlhgpodfhdddkaaGreatDoor
