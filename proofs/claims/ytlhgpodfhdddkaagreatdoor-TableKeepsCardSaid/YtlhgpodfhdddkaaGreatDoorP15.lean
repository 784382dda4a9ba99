/- Expressions: a text's. The document's parse of an expression. The document's parse of any expression. The document's dates and clocks. The document's clock of a moment. The document's expressions: which may be, which clocks fit. The last firing up to a moment, as the document looks for it. Jobs: which may be. Jobs that are the same. Rows of jobs that are the same, by definition. Graphs, plainly: where each of some has a next one among them, one comes back to itself. -/
import Derived.Test.YtlhgpodfhdddkaaGreatDoorP14
set_option linter.unusedSimpArgs false
set_option linter.unusedVariables false
set_option linter.unnecessarySimpa false
namespace Go.Proofs.YtlhgpodfhdddkaaGreatDoor
open Rg Go
variable {H : Heap}
def nHourly : List UInt8 := [64, 104, 111, 117, 114, 108, 121]
def nDaily : List UInt8 := [64, 100, 97, 105, 108, 121]
def nMidnight : List UInt8 := [64, 109, 105, 100, 110, 105, 103, 104, 116]
def nWeekly : List UInt8 := [64, 119, 101, 101, 107, 108, 121]
def nMonthly : List UInt8 := [64, 109, 111, 110, 116, 104, 108, 121]
def nYearly : List UInt8 := [64, 121, 101, 97, 114, 108, 121]
def nAnnually : List UInt8 := [64, 97, 110, 110, 117, 97, 108, 108, 121]
def xHourly : List UInt8 := [48, 32, 42, 32, 42, 32, 42, 32, 42]
def xDaily : List UInt8 := [48, 32, 48, 32, 42, 32, 42, 32, 42]
def xWeekly : List UInt8 := [48, 32, 48, 32, 42, 32, 42, 32, 48]
def xMonthly : List UInt8 := [48, 32, 48, 32, 49, 32, 42, 32, 42]
def xYearly : List UInt8 := [48, 32, 48, 32, 49, 32, 49, 32, 42]
def namedL (s : List UInt8) : List UInt8 :=
  if s = nHourly then xHourly else if s = nDaily then xDaily else if s = nMidnight then xDaily else if s = nWeekly then xWeekly else if s = nMonthly then xMonthly else if s = nYearly then xYearly else if s = nAnnually then xYearly else []
def Ex.set (x : Ex) (j : Nat) (f : Fld) : Ex :=
  match j with
  | 0 => { x with a := f }
  | 1 => { x with b := f }
  | 2 => { x with c := f }
  | 3 => { x with d := f }
  | _ => { x with e := f }
def goX : List (List UInt8) → Nat → Ex → Ex × Int
  | [], _, x => (x, 0)
  | p :: r, j, x => if (parseK (j : Int) p).2 ≠ 0 then (ex0, (parseK (j : Int) p).2) else goX r (j + 1) (x.set j (parseK (j : Int) p).1)
def cronB (s : List UInt8) : Ex × Int := if (sp 32 s).length ≠ 5 then (ex0, 70) else if [] ∈ sp 32 s then (ex0, 70) else goX (sp 32 s) 0 ex0
def cronK (s : List UInt8) : Ex × Int := if 400 < s.length then (ex0, 3) else cronB (if Lib.hasPrefix s [64] = true then namedL s else s)
theorem beq_dec (s t : List UInt8) : (s == t) = decide (s = t) := by
  rw [Bool.eq_iff_iff]; simp
theorem c_named (s : List UInt8) : AOk Tryz.prog 70 [str s] H (str (namedL s)) H := by
  refine ACalls.into Tryz.func70 rfl Tryz.ntmps70 Tryz.results70 (by simp) ?_
  unfold namedL
  by_cases h1 : s = nHourly
  · rw [if_pos h1]; simp -implicitDefEqProofs [h1, nHourly, xHourly]
  · rw [if_neg h1]
    have e1 : (s == [64, 104, 111, 117, 114, 108, 121]) = false := by rw [beq_dec]; simpa [nHourly] using h1
    by_cases h2 : s = nDaily
    · rw [if_pos h2]; simp -implicitDefEqProofs [h2, nDaily, xDaily]
    · rw [if_neg h2]
      have e2 : (s == [64, 100, 97, 105, 108, 121]) = false := by rw [beq_dec]; simpa [nDaily] using h2
      by_cases h3 : s = nMidnight
      · rw [if_pos h3]; simp -implicitDefEqProofs [h3, nMidnight, xDaily]
      · rw [if_neg h3]
        have e3 : (s == [64, 109, 105, 100, 110, 105, 103, 104, 116]) = false := by rw [beq_dec]; simpa [nMidnight] using h3
        by_cases h4 : s = nWeekly
        · rw [if_pos h4]; simp -implicitDefEqProofs [h4, nWeekly, xWeekly]
        · rw [if_neg h4]
          have e4 : (s == [64, 119, 101, 101, 107, 108, 121]) = false := by rw [beq_dec]; simpa [nWeekly] using h4
          by_cases h5 : s = nMonthly
          · rw [if_pos h5]; simp -implicitDefEqProofs [h5, nMonthly, xMonthly]
          · rw [if_neg h5]
            have e5 : (s == [64, 109, 111, 110, 116, 104, 108, 121]) = false := by rw [beq_dec]; simpa [nMonthly] using h5
            by_cases h6 : s = nYearly
            · rw [if_pos h6]; simp -implicitDefEqProofs [h6, nYearly, xYearly]
            · rw [if_neg h6]
              have e6 : (s == [64, 121, 101, 97, 114, 108, 121]) = false := by rw [beq_dec]; simpa [nYearly] using h6
              by_cases h7 : s = nAnnually
              · rw [if_pos h7]; simp -implicitDefEqProofs [h7, nAnnually, xYearly]
              · rw [if_neg h7]
                have e7 : (s == [64, 97, 110, 110, 117, 97, 108, 108, 121]) = false := by rw [beq_dec]; simpa [nAnnually] using h7
                simp -implicitDefEqProofs [e1, e2, e3, e4, e5, e6, e7]
theorem namedL_len (s : List UInt8) : (namedL s).length ≤ 9 := by
  unfold namedL
  (repeat' split) <;> decide
set_option maxHeartbeats 1000000 in
theorem c_cronParse (hG : Glob H) (s : List UInt8) (_ : s.length ≤ 9223372036854775807) : AOk Tryz.prog 51 [str s] H (.tup [exAV (cronK s).1, .sc (.int .i64 (cronK s).2)]) H := by
  unfold cronK
  refine ACalls.into Tryz.func51 rfl Tryz.ntmps51 Tryz.results51 (by simp) ?_
  simp -implicitDefEqProofs
  refine AAlloc.intro fun b2 h2 => ?_
  have hW : ∀ o, HWk H (H.set b2 o) := fun o => HWk.new h2 (HWk.refl _)
  have hW2 : ∀ o o', HWk H ((H.set b2 o).set b2 o') := fun o o' => by rw [Heap.set_set]; exact hW _
  by_cases hl : 400 < s.length
  · have hl' : (400 : Int) < s.length := by omega
    simp -implicitDefEqProofs [hl, hl', ex0, f0]
    exact hW _
  · have hl' : ¬ (400 : Int) < s.length := by omega
    rw [if_neg hl]
    simp -implicitDefEqProofs [hl']
    generalize hK : Heap.set _ b2 _ = K0
    have k2 : K0 b2 = some (.cells (exC ex0) 83) := by rw [← hK]; simp [Heap.set, ex0, f0]
    have kG : Glob K0 := by rw [← hK]; exact hG.new h2
    have kW : HWk H K0 := by rw [← hK]; exact hW _
    clear hK hW hW2
    refine ACall.eq (c_hasPrefix s [64]) ?_
    have hlen : (if Lib.hasPrefix s [64] = true then namedL s else s).length ≤ 1000000 := by
      split
      · have := namedL_len s; omega
      · omega
    obtain ⟨z, hz⟩ : ∃ z, (if Lib.hasPrefix s [64] = true then namedL s else s) = z := ⟨_, rfl⟩
    rw [hz] at hlen ⊢
    simp -implicitDefEqProofs
    refine ABr.join (fun ρ K => K = K0 ∧ ρ 0 = str z ∧ ρ 2 = .sc (.pointer (some ⟨b2, 0, none⟩))) (fun k' hk' => ?_) ?_
    · by_cases hp : Lib.hasPrefix s [64] = true
      · simp -implicitDefEqProofs [hp]
        refine ACall.eq (c_named s) ?_
        simp -implicitDefEqProofs
        exact hk' _ _ ⟨rfl, by rw [← hz, if_pos hp]; simp, by simp⟩
      · have hp' : Lib.hasPrefix s [64] = false := by simpa using hp
        simp -implicitDefEqProofs [hp']
        exact hk' _ _ ⟨rfl, by rw [← hz, if_neg hp]; simp, by simp⟩
    · rintro ρ K ⟨rfl, r0, r2⟩
      have hm : ∀ x ∈ sp 32 z, x.length ≤ 1000000 := fun x hx => Nat.le_trans (sp_len _ _ x hx) hlen
      have hsplit := c_split (H := K) kG z [32] (by omega) (by decide)
      rw [split_sp] at hsplit
      simp -implicitDefEqProofs [r0]
      refine ACall.eq hsplit ?_
      unfold cronB
      generalize sp 32 z = L at *
      by_cases h5 : L.length = 5
      · have h5' : (L.length : Int) = 5 := by omega
        rw [if_neg (by omega)]
        simp -implicitDefEqProofs [h5]
        refine AGo.joinLoop (fun ρ K2 => K2 = K ∧ ρ 2 = .sc (.pointer (some ⟨b2, 0, none⟩)) ∧ ρ 4 = .sl (strL L) .no ∧ ∀ i, i < 5 → L.getD i [] ≠ []) (fun k' hk' => ?_) ?_
        · refine AGo.rounds (fun m ρ K2 => ∃ j : Nat, j ≤ 5 ∧ m = 5 - j ∧ ρ 2 = .sc (.pointer (some ⟨b2, 0, none⟩)) ∧ ρ 4 = .sl (strL L) .no ∧ ρ 26 = .sl (strL L) .no ∧ ρ 27 = .sc (.int .i64 5) ∧ ρ 28 = .sc (.int .i64 j) ∧ (∀ i, i < j → L.getD i [] ≠ []) ∧ K2 = K) ?_ (m := 5) (HLe.refl _)
            ⟨0, by omega, rfl, by simp [r2], by simp, by simp, by simp, by simp, fun i hi => by omega, rfl⟩
          rintro m ρ K2 ih ⟨j, hj, rfl, r2, r4, r26, r27, r28, hne, rfl⟩
          by_cases hlt : j < 5
          · have hlt' : (j : Int) < 5 := by omega
            have hlL : j < L.length := by omega
            have hgd : L.getD j [] = L[j] := by rw [List.getD_eq_getElem?_getD, List.getElem?_eq_getElem hlL]; rfl
            have hwj : IntKind.i64.wrap ((j : Int) + 1) = ((j + 1 : Nat) : Int) := by rw [wrap_i64 (by omega) (by omega)]; push_cast; rfl
            obtain ⟨q, hq⟩ : ∃ q, L[j] = q := ⟨_, rfl⟩
            by_cases hz : q = []
            · have hin : [] ∈ L := by rw [← hz, ← hq]; exact List.getElem_mem hlL
              rw [if_pos hin]
              simp -implicitDefEqProofs [r26, r27, r28, hlt', hlL, hq, hz, r2, k2, ex0, f0]
              exact HWk.new h2 kW
            · have hzb : (q == []) = false := by simpa using hz
              simp -implicitDefEqProofs [r26, r27, r28, hlt', hlL, hq, hzb, hwj]
              exact AGo.again ih (m' := 5 - (j + 1)) (by omega) (HLe.refl _) ⟨j + 1, by omega, rfl, by simp [r2], by simp [r4], by simp [r26], by simp [r27], by simp, lt_succ_all hne (by rw [hgd, hq]; exact hz), rfl⟩
          · obtain rfl : j = 5 := by omega
            simp -implicitDefEqProofs [r27, r28]
            exact hk' _ _ ⟨rfl, by simp [r2], by simp [r4], hne⟩
        · rintro ρ K2 ⟨rfl, r2, r4, hne⟩
          have hnin : [] ∉ L := fun h => by
            obtain ⟨i, hi, he⟩ := List.getElem_of_mem h
            refine hne i (by omega) ?_
            rw [List.getD_eq_getElem?_getD, List.getElem?_eq_getElem hi, he]; rfl
          rw [if_neg hnin]
          simp -implicitDefEqProofs
          refine AAlloc.intro fun b7 h7 => ?_
          have n72 : b7 ≠ b2 := by intro e; subst e; rw [k2] at h7; cases h7
          have n27 := n72.symm
          have e7 : H b7 = none := kW.none h7
          simp -implicitDefEqProofs [r4, h5]
          generalize hK : Heap.set _ b7 _ = K3
          have k7 : K3 b7 = some (.cells (exC ex0) 83) := by rw [← hK]; simp [Heap.set, ex0, f0]
          have k2' : K3 b2 = some (.cells (exC ex0) 83) := by rw [← hK]; simp [Heap.set, n27, k2]
          have kG' : Glob K3 := by rw [← hK]; exact kG.new h7
          have kW' : HWk H K3 := by rw [← hK]; exact HWk.new e7 kW
          clear hK h7 k2 kG kW
          generalize hres : goX L 0 ex0 = res
          refine AGo.rounds (fun m ρ K2 => ∃ (j : Nat) (x : Ex), j ≤ 5 ∧ m = 5 - j ∧ ρ 2 = .sc (.pointer (some ⟨b2, 0, none⟩)) ∧ ρ 7 = .sc (.pointer (some ⟨b7, 0, none⟩)) ∧ ρ 36 = .sl (strL L) .no ∧ ρ 37 = .sc (.int .i64 5) ∧ ρ 38 = .sc (.int .i64 j) ∧ goX (L.drop j) j x = res ∧
            K2 b2 = some (.cells (exC ex0) 83) ∧ K2 b7 = some (.cells (exC x) 83) ∧ Glob K2 ∧ HWk H K2) ?_ (m := 5) (HLe.refl _)
            ⟨0, ex0, by omega, rfl, by simp [r2], by simp, by simp, by simp, by simp, by simpa using hres, k2', k7, kG', kW'⟩
          clear k7 k2' kG' kW'
          rintro m ρ K2 ih ⟨j, x, hj, rfl, r2, r7, r36, r37, r38, hgo, k2, k7, kG, kW⟩
          have hc : j = 0 ∨ j = 1 ∨ j = 2 ∨ j = 3 ∨ j = 4 ∨ j = 5 := by omega
          rcases hc with rfl | rfl | rfl | rfl | rfl | rfl
          · have hlj : 0 < L.length := by omega
            have hdrop : L.drop 0 = L[0] :: L.drop (0 + 1) := List.drop_eq_getElem_cons hlj
            simp -implicitDefEqProofs [r36, r37, r38, hlj]
            refine ACall.eq (c_parse kG (0 : Nat) L[0] (hm _ (List.getElem_mem (by omega)))) ?_
            simp -implicitDefEqProofs [fAV]
            refine AAlloc.intro fun b10 h10 => ?_
            have n107 : b10 ≠ b7 := by intro e; subst e; rw [k7] at h10; cases h10
            have n102 : b10 ≠ b2 := by intro e; subst e; rw [k2] at h10; cases h10
            have n710 := n107.symm
            have n210 := n102.symm
            have e10 : H b10 = none := kW.none h10
            rw [hdrop, goX] at hgo
            generalize parseK (0 : Nat) L[0] = pr at *
            obtain ⟨f, er⟩ := pr
            simp only at hgo ⊢
            by_cases he : er = 0
            · rw [if_neg (by simp [he])] at hgo
              simp -implicitDefEqProofs [n710, he, r7, r38, k7, wrap_i64]
              refine AGo.again ih (m' := 4) (by omega) (HLe.refl _) ⟨1, x.set 0 f, by omega, rfl, by simp [r2], by simp [r7], by simp [r36], by simp [r37], by simp, hgo, ?_, ?_, ?_, ?_⟩
              · simp [Heap.set, n210, n72.symm, k2]
              · simp [Heap.set, Ex.set]
              · exact kG.mono (fun c us e => by have c10 : c ≠ b10 := (by rintro rfl; rw [h10] at e; cases e); have c7 : c ≠ b7 := (by rintro rfl; rw [k7] at e; cases e); simp [Heap.set, c10, c7, e])
              · repeat (first | exact kW | refine HWk.new (by assumption) ?_)
            · rw [if_pos he] at hgo
              subst hgo
              simp -implicitDefEqProofs [n210, he, r2, k2, ex0, f0]
              repeat (first | exact kW | refine HWk.new (by assumption) ?_)
          · have hlj : 1 < L.length := by omega
            have hdrop : L.drop 1 = L[1] :: L.drop (1 + 1) := List.drop_eq_getElem_cons hlj
            simp -implicitDefEqProofs [r36, r37, r38, hlj]
            refine ACall.eq (c_parse kG (1 : Nat) L[1] (hm _ (List.getElem_mem (by omega)))) ?_
            simp -implicitDefEqProofs [fAV]
            refine AAlloc.intro fun b10 h10 => ?_
            have n107 : b10 ≠ b7 := by intro e; subst e; rw [k7] at h10; cases h10
            have n102 : b10 ≠ b2 := by intro e; subst e; rw [k2] at h10; cases h10
            have n710 := n107.symm
            have n210 := n102.symm
            have e10 : H b10 = none := kW.none h10
            rw [hdrop, goX] at hgo
            generalize parseK (1 : Nat) L[1] = pr at *
            obtain ⟨f, er⟩ := pr
            simp only at hgo ⊢
            by_cases he : er = 0
            · rw [if_neg (by simp [he])] at hgo
              simp -implicitDefEqProofs [n710, he, r7, r38, k7, wrap_i64]
              refine AGo.again ih (m' := 3) (by omega) (HLe.refl _) ⟨2, x.set 1 f, by omega, rfl, by simp [r2], by simp [r7], by simp [r36], by simp [r37], by simp, hgo, ?_, ?_, ?_, ?_⟩
              · simp [Heap.set, n210, n72.symm, k2]
              · simp [Heap.set, Ex.set]
              · exact kG.mono (fun c us e => by have c10 : c ≠ b10 := (by rintro rfl; rw [h10] at e; cases e); have c7 : c ≠ b7 := (by rintro rfl; rw [k7] at e; cases e); simp [Heap.set, c10, c7, e])
              · repeat (first | exact kW | refine HWk.new (by assumption) ?_)
            · rw [if_pos he] at hgo
              subst hgo
              simp -implicitDefEqProofs [n210, he, r2, k2, ex0, f0]
              repeat (first | exact kW | refine HWk.new (by assumption) ?_)
          · have hlj : 2 < L.length := by omega
            have hdrop : L.drop 2 = L[2] :: L.drop (2 + 1) := List.drop_eq_getElem_cons hlj
            simp -implicitDefEqProofs [r36, r37, r38, hlj]
            refine ACall.eq (c_parse kG (2 : Nat) L[2] (hm _ (List.getElem_mem (by omega)))) ?_
            simp -implicitDefEqProofs [fAV]
            refine AAlloc.intro fun b10 h10 => ?_
            have n107 : b10 ≠ b7 := by intro e; subst e; rw [k7] at h10; cases h10
            have n102 : b10 ≠ b2 := by intro e; subst e; rw [k2] at h10; cases h10
            have n710 := n107.symm
            have n210 := n102.symm
            have e10 : H b10 = none := kW.none h10
            rw [hdrop, goX] at hgo
            generalize parseK (2 : Nat) L[2] = pr at *
            obtain ⟨f, er⟩ := pr
            simp only at hgo ⊢
            by_cases he : er = 0
            · rw [if_neg (by simp [he])] at hgo
              simp -implicitDefEqProofs [n710, he, r7, r38, k7, wrap_i64]
              refine AGo.again ih (m' := 2) (by omega) (HLe.refl _) ⟨3, x.set 2 f, by omega, rfl, by simp [r2], by simp [r7], by simp [r36], by simp [r37], by simp, hgo, ?_, ?_, ?_, ?_⟩
              · simp [Heap.set, n210, n72.symm, k2]
              · simp [Heap.set, Ex.set]
              · exact kG.mono (fun c us e => by have c10 : c ≠ b10 := (by rintro rfl; rw [h10] at e; cases e); have c7 : c ≠ b7 := (by rintro rfl; rw [k7] at e; cases e); simp [Heap.set, c10, c7, e])
              · repeat (first | exact kW | refine HWk.new (by assumption) ?_)
            · rw [if_pos he] at hgo
              subst hgo
              simp -implicitDefEqProofs [n210, he, r2, k2, ex0, f0]
              repeat (first | exact kW | refine HWk.new (by assumption) ?_)
          · have hlj : 3 < L.length := by omega
            have hdrop : L.drop 3 = L[3] :: L.drop (3 + 1) := List.drop_eq_getElem_cons hlj
            simp -implicitDefEqProofs [r36, r37, r38, hlj]
            refine ACall.eq (c_parse kG (3 : Nat) L[3] (hm _ (List.getElem_mem (by omega)))) ?_
            simp -implicitDefEqProofs [fAV]
            refine AAlloc.intro fun b10 h10 => ?_
            have n107 : b10 ≠ b7 := by intro e; subst e; rw [k7] at h10; cases h10
            have n102 : b10 ≠ b2 := by intro e; subst e; rw [k2] at h10; cases h10
            have n710 := n107.symm
            have n210 := n102.symm
            have e10 : H b10 = none := kW.none h10
            rw [hdrop, goX] at hgo
            generalize parseK (3 : Nat) L[3] = pr at *
            obtain ⟨f, er⟩ := pr
            simp only at hgo ⊢
            by_cases he : er = 0
            · rw [if_neg (by simp [he])] at hgo
              simp -implicitDefEqProofs [n710, he, r7, r38, k7, wrap_i64]
              refine AGo.again ih (m' := 1) (by omega) (HLe.refl _) ⟨4, x.set 3 f, by omega, rfl, by simp [r2], by simp [r7], by simp [r36], by simp [r37], by simp, hgo, ?_, ?_, ?_, ?_⟩
              · simp [Heap.set, n210, n72.symm, k2]
              · simp [Heap.set, Ex.set]
              · exact kG.mono (fun c us e => by have c10 : c ≠ b10 := (by rintro rfl; rw [h10] at e; cases e); have c7 : c ≠ b7 := (by rintro rfl; rw [k7] at e; cases e); simp [Heap.set, c10, c7, e])
              · repeat (first | exact kW | refine HWk.new (by assumption) ?_)
            · rw [if_pos he] at hgo
              subst hgo
              simp -implicitDefEqProofs [n210, he, r2, k2, ex0, f0]
              repeat (first | exact kW | refine HWk.new (by assumption) ?_)
          · have hlj : 4 < L.length := by omega
            have hdrop : L.drop 4 = L[4] :: L.drop (4 + 1) := List.drop_eq_getElem_cons hlj
            simp -implicitDefEqProofs [r36, r37, r38, hlj]
            refine ACall.eq (c_parse kG (4 : Nat) L[4] (hm _ (List.getElem_mem (by omega)))) ?_
            simp -implicitDefEqProofs [fAV]
            refine AAlloc.intro fun b10 h10 => ?_
            have n107 : b10 ≠ b7 := by intro e; subst e; rw [k7] at h10; cases h10
            have n102 : b10 ≠ b2 := by intro e; subst e; rw [k2] at h10; cases h10
            have n710 := n107.symm
            have n210 := n102.symm
            have e10 : H b10 = none := kW.none h10
            rw [hdrop, goX] at hgo
            generalize parseK (4 : Nat) L[4] = pr at *
            obtain ⟨f, er⟩ := pr
            simp only at hgo ⊢
            by_cases he : er = 0
            · rw [if_neg (by simp [he])] at hgo
              simp -implicitDefEqProofs [n710, he, r7, r38, k7, wrap_i64]
              refine AGo.again ih (m' := 0) (by omega) (HLe.refl _) ⟨5, x.set 4 f, by omega, rfl, by simp [r2], by simp [r7], by simp [r36], by simp [r37], by simp, hgo, ?_, ?_, ?_, ?_⟩
              · simp [Heap.set, n210, n72.symm, k2]
              · simp [Heap.set, Ex.set]
              · exact kG.mono (fun c us e => by have c10 : c ≠ b10 := (by rintro rfl; rw [h10] at e; cases e); have c7 : c ≠ b7 := (by rintro rfl; rw [k7] at e; cases e); simp [Heap.set, c10, c7, e])
              · repeat (first | exact kW | refine HWk.new (by assumption) ?_)
            · rw [if_pos he] at hgo
              subst hgo
              simp -implicitDefEqProofs [n210, he, r2, k2, ex0, f0]
              repeat (first | exact kW | refine HWk.new (by assumption) ?_)
          · rw [List.drop_eq_nil_of_le (by omega), goX] at hgo
            subst hgo
            simp -implicitDefEqProofs [r2, r7, r37, r38, k2, k7]
            exact HWk.new h2 kW
      · have h5' : ¬ (L.length : Int) = 5 := by omega
        rw [if_pos h5]
        simp -implicitDefEqProofs [h5', r2, k2, ex0, f0]
        exact HWk.new h2 kW
end Go.Proofs.YtlhgpodfhdddkaaGreatDoor
namespace Go.Proofs.YtlhgpodfhdddkaaGreatDoor
open Rg Go
variable {H : Heap}
end Go.Proofs.YtlhgpodfhdddkaaGreatDoor
namespace Go.Proofs.YtlhgpodfhdddkaaGreatDoor
open Rg Go
variable {H : Heap}
end Go.Proofs.YtlhgpodfhdddkaaGreatDoor
namespace Go.Proofs.YtlhgpodfhdddkaaGreatDoor
open Rg Go
variable {H : Heap}
end Go.Proofs.YtlhgpodfhdddkaaGreatDoor
namespace Go.Proofs.YtlhgpodfhdddkaaGreatDoor
open Rg Go
variable {H : Heap}
end Go.Proofs.YtlhgpodfhdddkaaGreatDoor
namespace Go.Proofs.YtlhgpodfhdddkaaGreatDoor
open Rg Go
variable {H : Heap}
end Go.Proofs.YtlhgpodfhdddkaaGreatDoor
namespace Go.Proofs.YtlhgpodfhdddkaaGreatDoor
open Rg Go
variable {H : Heap}
end Go.Proofs.YtlhgpodfhdddkaaGreatDoor
namespace Go.Proofs.YtlhgpodfhdddkaaGreatDoor
open Rg Go
variable {H : Heap}
structure Jb where
  id : Nat
  name : List UInt8
  ex : List UInt8
  pol : Int
  gr : Int
  lim : Int
  ret : Int
  tim : Int
  deps : List Nat
  pau : Bool
  ver : Nat
  seen : Int
abbrev jbC (j : Jb) (t : Tok) : List AV := [.sc (.int .u64 (j.id : Nat)), str j.name, str j.ex, .sc (.int .i64 j.pol), .sc (.int .i64 j.gr), .sc (.int .i64 j.lim), .sc (.int .i64 j.ret), .sc (.int .i64 j.tim), .sl (j.deps.map fun n : Nat => .sc (.int .u64 n)) t, .sc (.bool j.pau), .sc (.int .u64 (j.ver : Nat)), .sc (.int .i64 j.seen)]
abbrev jbAV (j : Jb) (t : Tok) : AV := .agg (jbC j t)
def badJ (j : Jb) : Bool := decide (j.pol < 1) || decide (3 < j.pol) || decide (j.gr < 0) || decide (604800 < j.gr) || decide (j.lim < 1) || decide (8 < j.lim) || decide (j.ret < 0) || decide (5 < j.ret) || decide (j.tim < 1) || decide (86400 < j.tim) || decide (j.seen < -1) || decide (13569465600 ≤ j.seen)
def mayJ (j : Jb) : Int :=
  if j.name.length < 1 then 140 else if 32 < j.name.length then 140 else if (cronK j.ex).2 ≠ 0 then (cronK j.ex).2 else if 8 < j.deps.length then 3 else if badJ j = true then 2 else 0
set_option maxHeartbeats 4000000 in
theorem c_jobMay (hG : Glob H) (j : Jb) (t : Tok) (hs : j.ex.length ≤ 9223372036854775807) : AOk Tryz.prog 29 [jbAV j t] H (.sc (.int .i64 (mayJ j))) H := by
  unfold mayJ
  refine ACalls.into Tryz.func29 rfl Tryz.ntmps29 Tryz.results29 (by simp) ?_
  simp -implicitDefEqProofs
  refine AAlloc.intro fun b1 h1 => ?_
  simp -implicitDefEqProofs
  generalize hK : Heap.set _ b1 _ = K1
  have k1 : K1 b1 = some (.cells (jbC j t) 33) := by rw [← hK]; simp [Heap.set]
  have kG : Glob K1 := by rw [← hK]; exact hG.new h1
  have kW : HWk H K1 := by rw [← hK]; exact HWk.new h1 (HWk.refl _)
  clear hK
  by_cases c0 : j.name = []
  · simp -implicitDefEqProofs [c0]
    exact kW
  · have c1 : ¬ j.name.length < 1 := by
      have := List.length_pos_iff.2 c0
      omega
    have c1' : ¬ (j.name.length : Int) < 1 := by omega
    by_cases c2 : 32 < j.name.length
    · have c2' : (32 : Int) < (j.name.length : Int) := by omega
      simp -implicitDefEqProofs [k1, c0, c1', c2, c2']
      exact kW
    · have c2' : ¬ (32 : Int) < (j.name.length : Int) := by omega
      simp -implicitDefEqProofs [k1, c0, c1', c2, c2']
      have hp := c_cronParse kG j.ex hs
      generalize cronK j.ex = p at *
      obtain ⟨x, e⟩ := p
      simp only at hp ⊢
      refine ACall.eq hp ?_
      simp -implicitDefEqProofs
      refine AAlloc.intro fun b3 h3 => ?_
      have n13 : b1 ≠ b3 := by intro e; subst e; rw [k1] at h3; cases h3
      have kW3 : ∀ o, HWk H (K1.set b3 o) := fun o => HWk.new (kW.none h3) kW
      by_cases he : e = 0
      · subst he
        simp -implicitDefEqProofs [n13, k1]
        generalize hK : Heap.set K1 b3 _ = K3
        have k3 : K3 b1 = some (.cells (jbC j t) 33) := by rw [← hK]; simp [Heap.set, n13, k1]
        have kW3 : HWk H K3 := by rw [← hK]; exact kW3 _
        clear hK
        by_cases c3 : 8 < j.deps.length
        · have c3' : (8 : Int) < (j.deps.length : Int) := by omega
          simp -implicitDefEqProofs [c3, c3']
          exact kW3
        · have c3' : ¬ (8 : Int) < (j.deps.length : Int) := by omega
          by_cases q0 : j.pol < 1
          · simp -implicitDefEqProofs [k3, c3, c3', q0, badJ]
            exact kW3
          · by_cases q1 : 3 < j.pol
            · simp -implicitDefEqProofs [k3, c3, c3', q0, q1, badJ]
              exact kW3
            · by_cases q2 : j.gr < 0
              · simp -implicitDefEqProofs [k3, c3, c3', q0, q1, q2, badJ]
                exact kW3
              · by_cases q3 : 604800 < j.gr
                · simp -implicitDefEqProofs [k3, c3, c3', q0, q1, q2, q3, badJ]
                  exact kW3
                · by_cases q4 : j.lim < 1
                  · simp -implicitDefEqProofs [k3, c3, c3', q0, q1, q2, q3, q4, badJ]
                    exact kW3
                  · by_cases q5 : 8 < j.lim
                    · simp -implicitDefEqProofs [k3, c3, c3', q0, q1, q2, q3, q4, q5, badJ]
                      exact kW3
                    · by_cases q6 : j.ret < 0
                      · simp -implicitDefEqProofs [k3, c3, c3', q0, q1, q2, q3, q4, q5, q6, badJ]
                        exact kW3
                      · by_cases q7 : 5 < j.ret
                        · simp -implicitDefEqProofs [k3, c3, c3', q0, q1, q2, q3, q4, q5, q6, q7, badJ]
                          exact kW3
                        · by_cases q8 : j.tim < 1
                          · simp -implicitDefEqProofs [k3, c3, c3', q0, q1, q2, q3, q4, q5, q6, q7, q8, badJ]
                            exact kW3
                          · by_cases q9 : 86400 < j.tim
                            · simp -implicitDefEqProofs [k3, c3, c3', q0, q1, q2, q3, q4, q5, q6, q7, q8, q9, badJ]
                              exact kW3
                            · by_cases q10 : j.seen < -1
                              · simp -implicitDefEqProofs [k3, c3, c3', q0, q1, q2, q3, q4, q5, q6, q7, q8, q9, q10, badJ]
                                exact kW3
                              · by_cases q11 : 13569465600 ≤ j.seen
                                · simp -implicitDefEqProofs [k3, c3, c3', q0, q1, q2, q3, q4, q5, q6, q7, q8, q9, q10, q11, badJ]
                                  exact kW3
                                · simp -implicitDefEqProofs [k3, c3, c3', q0, q1, q2, q3, q4, q5, q6, q7, q8, q9, q10, q11, badJ]
                                  exact kW3
      · simp -implicitDefEqProofs [he]
        exact kW3 _
end Go.Proofs.YtlhgpodfhdddkaaGreatDoor
namespace Go.Proofs.YtlhgpodfhdddkaaGreatDoor
open Rg Go
variable {H : Heap}
def sameJ (a b : Jb) : Bool := decide (a.id = b.id) && (a.name == b.name) && (a.ex == b.ex) && decide (a.pol = b.pol) && decide (a.gr = b.gr) && decide (a.lim = b.lim) && decide (a.ret = b.ret) && decide (a.tim = b.tim) && decide (a.deps = b.deps) && (a.pau == b.pau) && decide (a.ver = b.ver) && decide (a.seen = b.seen)
theorem sameJ_iff {a b : Jb} : sameJ a b = true ↔ a = b := by
  simp only [sameJ, Bool.and_eq_true, decide_eq_true_eq, beq_iff_eq]
  constructor
  · rintro ⟨⟨⟨⟨⟨⟨⟨⟨⟨⟨⟨h1, h2⟩, h3⟩, h4⟩, h5⟩, h6⟩, h7⟩, h8⟩, h9⟩, h10⟩, h11⟩, h12⟩
    cases a; cases b; simp_all
  · rintro rfl
    simp
theorem ne_beq {a b : Bool} : (a == b) = decide (a = b) := by cases a <;> cases b <;> rfl
end Go.Proofs.YtlhgpodfhdddkaaGreatDoor
namespace Go.Proofs.YtlhgpodfhdddkaaGreatDoor
open Rg Go
variable {H : Heap}
abbrev jbsAV (l : List Jb) : List AV := l.map fun j => jbAV j .no
theorem szs_jbs (l : List Jb) : szs 12 (jbsAV l) = true := by simp [szs, AV.cells]
set_option maxHeartbeats 4000000 in
theorem c_ref14Same (a b : Jb) (t u : Rg.Tok) (hl : a.deps.length ≤ 1000000) : AOk Tryz.prog 42 [jbAV a t, jbAV b u] H (.sc (.bool (sameJ a b))) H := by
  refine ACalls.into Tryz.func42 rfl Tryz.ntmps42 Tryz.results42 (by simp) ?_
  simp -implicitDefEqProofs
  refine AAlloc.intro fun p hp => ?_
  simp -implicitDefEqProofs
  refine AAlloc.intro fun q hq => ?_
  have npq : p ≠ q := by rintro rfl; simp [Heap.set] at hq
  simp -implicitDefEqProofs [npq]
  generalize hK : Heap.set _ q _ = K
  have kp : K p = some (.cells (jbC a t) 33) := by rw [← hK]; simp [Heap.set, npq]
  have kq : K q = some (.cells (jbC b u) 33) := by rw [← hK]; simp [Heap.set]
  have kW : HWk H K := by rw [← hK]; exact (HLe.set_new (HLe.set_fresh hp) ((HLe.set_fresh hp).none hq)).wk
  clear hK
  have hno : a.deps ≠ b.deps → sameJ a b = false := fun h => by
    rcases hs : sameJ a b with _ | _
    · rfl
    · exact absurd (congrArg Jb.deps (sameJ_iff.1 hs)) h
  obtain ⟨res, hres⟩ : ∃ res, sameJ a b = res := ⟨_, rfl⟩
  rw [hres] at hno ⊢
  by_cases hlen : a.deps.length = b.deps.length
  · have hlen' : (a.deps.length : Int) = (b.deps.length : Int) := by omega
    simp -implicitDefEqProofs [kp, kq, hlen, hlen']
    refine AGo.joinLoop (fun ρ K2 => a.deps = b.deps ∧ ρ 2 = .sc (.pointer (some ⟨p, 0, none⟩)) ∧ ρ 3 = .sc (.pointer (some ⟨q, 0, none⟩)) ∧ K2 = K) (fun k' hk => ?_) ?_
    · refine AGo.rounds (fun m ρ K2 => ∃ i, m = a.deps.length - i ∧ i ≤ a.deps.length ∧ a.deps.take i = b.deps.take i ∧ ρ 5 = .sc (.int .i64 (i : Int)) ∧ ρ 2 = .sc (.pointer (some ⟨p, 0, none⟩)) ∧ ρ 3 = .sc (.pointer (some ⟨q, 0, none⟩)) ∧ K2 = K) ?_ (m := a.deps.length) (HLe.refl _)
        ⟨0, rfl, by omega, by simp, by simp, by simp, by simp, rfl⟩
      rintro m ρ K2 ih ⟨i, rfl, hi, htk, r5, r2, r3, rfl⟩
      by_cases hlt : i < a.deps.length
      · have hlt' : (i : Int) < (a.deps.length : Int) := by omega
        have hltb : i < b.deps.length := by omega
        have hltb' : (i : Int) < (b.deps.length : Int) := by omega
        obtain ⟨x, hxj, hx⟩ := getAt hlt
        obtain ⟨y, hyj, hy⟩ := getAt hltb
        have hw1 : IntKind.i64.wrap ((i : Int) + 1) = (i : Int) + 1 := wrap_i64 (by omega) (by omega)
        simp -implicitDefEqProofs [r5, r2, r3, kp, kq, hlt, hlt', hltb, hltb']
        refine go_draw 11 f_mixed (by decide +kernel) ?_
        simp -implicitDefEqProofs [r5, r2, r3, kp, kq, hlt, hlt', hltb, hltb', hxj, hyj]
        by_cases hxy : x = y
        · subst hxy
          simp -implicitDefEqProofs [r5, hw1]
          refine AGo.again ih (m' := a.deps.length - (i + 1)) (by omega) (HLe.refl _) ⟨i + 1, rfl, by omega, ?_, by simp, by simp [r2], by simp [r3], rfl⟩
          rw [List.take_add_one, List.take_add_one, htk, hx, hy]
        · have hxy' : ¬ (x : Int) = (y : Int) := by omega
          have hne : a.deps ≠ b.deps := fun e => by rw [e, hy] at hx; cases hx; exact hxy rfl
          have := hno hne
          subst this
          simp -implicitDefEqProofs [hxy, hxy']
          exact kW
      · have hn' : ¬ (i : Int) < (a.deps.length : Int) := by omega
        have hn2 : ¬ (i : Int) < (b.deps.length : Int) := by omega
        simp -implicitDefEqProofs [r5, r2, r3, kp, kq, hlt, hn', hn2]
        rw [List.take_of_length_le (by omega), List.take_of_length_le (by omega)] at htk
        exact hk _ _ ⟨htk, by simp [r2], by simp [r3], rfl⟩
    · rintro ρ K2 ⟨hd, r2, r3, rfl⟩
      have hd8 : decide (a.deps = b.deps) = true := decide_eq_true hd
      unfold sameJ at hres
      rw [hd8] at hres
      obtain ⟨c0, hc0⟩ : ∃ c, decide (a.id = b.id) = c := ⟨_, rfl⟩
      have hi0 : decide ((a.id : Int) = (b.id : Int)) = c0 := by rw [← hc0]; congr 1; exact propext ⟨fun h => by omega, fun h => by omega⟩
      obtain ⟨c1, hc1⟩ : ∃ c, (a.name == b.name) = c := ⟨_, rfl⟩
      obtain ⟨c2, hc2⟩ : ∃ c, (a.ex == b.ex) = c := ⟨_, rfl⟩
      obtain ⟨c3, hc3⟩ : ∃ c, decide (a.pol = b.pol) = c := ⟨_, rfl⟩
      obtain ⟨c4, hc4⟩ : ∃ c, decide (a.gr = b.gr) = c := ⟨_, rfl⟩
      obtain ⟨c5, hc5⟩ : ∃ c, decide (a.lim = b.lim) = c := ⟨_, rfl⟩
      obtain ⟨c6, hc6⟩ : ∃ c, decide (a.ret = b.ret) = c := ⟨_, rfl⟩
      obtain ⟨c7, hc7⟩ : ∃ c, decide (a.tim = b.tim) = c := ⟨_, rfl⟩
      obtain ⟨c9, hc9⟩ : ∃ c, (a.pau == b.pau) = c := ⟨_, rfl⟩
      obtain ⟨c10, hc10⟩ : ∃ c, decide (a.ver = b.ver) = c := ⟨_, rfl⟩
      have hi10 : decide ((a.ver : Int) = (b.ver : Int)) = c10 := by rw [← hc10]; congr 1; exact propext ⟨fun h => by omega, fun h => by omega⟩
      obtain ⟨c11, hc11⟩ : ∃ c, decide (a.seen = b.seen) = c := ⟨_, rfl⟩
      rw [hc0, hc1, hc2, hc3, hc4, hc5, hc6, hc7, hc9, hc10, hc11] at hres
      subst hres
      simp -implicitDefEqProofs [r2, r3, kp, kq, hc0, hi0]
      cases c0 with
      | false =>
        simp -implicitDefEqProofs [kW]
      | true =>
        simp -implicitDefEqProofs [r2, r3, kp, kq, hc1]
        cases c1 with
        | false =>
          simp -implicitDefEqProofs [kW]
        | true =>
          simp -implicitDefEqProofs [r2, r3, kp, kq, hc2]
          cases c2 with
          | false =>
            simp -implicitDefEqProofs [kW]
          | true =>
            simp -implicitDefEqProofs [r2, r3, kp, kq, hc3]
            cases c3 with
            | false =>
              simp -implicitDefEqProofs [kW]
            | true =>
              simp -implicitDefEqProofs [r2, r3, kp, kq, hc4]
              cases c4 with
              | false =>
                simp -implicitDefEqProofs [kW]
              | true =>
                simp -implicitDefEqProofs [r2, r3, kp, kq, hc5]
                cases c5 with
                | false =>
                  simp -implicitDefEqProofs [kW]
                | true =>
                  simp -implicitDefEqProofs [r2, r3, kp, kq, hc6]
                  cases c6 with
                  | false =>
                    simp -implicitDefEqProofs [kW]
                  | true =>
                    simp -implicitDefEqProofs [r2, r3, kp, kq, hc7]
                    cases c7 with
                    | false =>
                      simp -implicitDefEqProofs [kW]
                    | true =>
                      simp -implicitDefEqProofs [r2, r3, kp, kq, hc9, ← ne_beq]
                      cases c9 with
                      | false =>
                        simp -implicitDefEqProofs [kW]
                      | true =>
                        simp -implicitDefEqProofs [r2, r3, kp, kq, hc10, hi10]
                        cases c10 with
                        | false =>
                          simp -implicitDefEqProofs [kW]
                        | true =>
                          simp -implicitDefEqProofs [r2, r3, kp, kq, hc11]
                          cases c11 with
                          | false =>
                            simp -implicitDefEqProofs [kW]
                          | true =>
                            simp -implicitDefEqProofs [kW]
  · have hlen' : ¬ (a.deps.length : Int) = (b.deps.length : Int) := by omega
    have := hno fun e => hlen (by rw [e])
    subst this
    simp -implicitDefEqProofs [kp, kq, hlen, hlen', kW]
def sameJs : List Jb → List Jb → Bool
  | [], [] => true
  | a :: l, b :: m => sameJ a b && sameJs l m
  | _, _ => false
theorem sameJs_iff : ∀ {l m : List Jb}, sameJs l m = true ↔ l = m
  | [], [] => by simp [sameJs]
  | a :: l, b :: m => by simp [sameJs, sameJ_iff, sameJs_iff (l := l)]
  | [], b :: m => by simp [sameJs]
  | a :: l, [] => by simp [sameJs]
theorem c_ref15Jobs (L M : List Jb) (t u : Rg.Tok) (hl : L.length ≤ 1000000) (hd : ∀ j ∈ L, j.deps.length ≤ 1000000) : AOk Tryz.prog 23 [.sl (jbsAV L) t, .sl (jbsAV M) u] H (.sc (.bool (sameJs L M))) H := by
  have hz1 := szs_jbs L
  have hz2 := szs_jbs M
  obtain ⟨res, hres⟩ : ∃ r, sameJs L M = r := ⟨_, rfl⟩
  have hno : L ≠ M → res = false := fun h => by
    rw [← hres]
    cases h2 : sameJs L M with
    | false => rfl
    | true => exact absurd (sameJs_iff.1 h2) h
  have hyes : L = M → res = true := fun h => by rw [← hres]; exact sameJs_iff.2 h
  rw [hres]
  refine ACalls.into Tryz.func23 rfl Tryz.ntmps23 Tryz.results23 (by simp) ?_
  by_cases hlen : L.length = M.length
  · have hlen' : (L.length : Int) = (M.length : Int) := by omega
    simp -implicitDefEqProofs [hlen, hlen']
    refine AGo.rounds (fun m ρ K => ∃ i, m = L.length - i ∧ i ≤ L.length ∧ L.take i = M.take i ∧ ρ 5 = .sc (.int .i64 (i : Int)) ∧ ρ 0 = .sl (jbsAV L) t ∧ ρ 1 = .sl (jbsAV M) u ∧ K = H) ?_ (m := L.length) (HLe.refl _)
      ⟨0, rfl, by omega, by simp, by simp, by simp, by simp, rfl⟩
    rintro m ρ K ih ⟨i, rfl, hi, htk, r5, r0, r1, rfl⟩
    by_cases hlt : i < L.length
    · have hlt' : (i : Int) < (L.length : Int) := by omega
      have hltm : i < M.length := by omega
      have hltm' : (i : Int) < (M.length : Int) := by omega
      obtain ⟨x, hxj, hx⟩ := getAt hlt
      obtain ⟨y, hyj, hy⟩ := getAt hltm
      have hw1 : IntKind.i64.wrap ((i : Int) + 1) = (i : Int) + 1 := wrap_i64 (by omega) (by omega)
      have hc := c_ref14Same (H := K) x y .no .no (hd x (List.mem_of_getElem? hx))
      simp -implicitDefEqProofs [r5, r0, r1, hlt, hlt', hltm, hltm']
      refine go_draw 10 f_mixed (by decide +kernel) ?_
      simp -implicitDefEqProofs [r5, r0, r1, hlt, hlt', hltm, hltm', hxj, hyj, hz1, hz2]
      refine AQS.eq hc ?_
      cases hs : sameJ x y with
      | true =>
        obtain rfl := sameJ_iff.1 hs
        simp -implicitDefEqProofs [r5, hw1]
        refine AGo.again ih (m' := L.length - (i + 1)) (by omega) (HLe.refl _) ⟨i + 1, rfl, by omega, ?_, by simp, by simp [r0], by simp [r1], rfl⟩
        rw [List.take_add_one, List.take_add_one, htk, hx, hy]
      | false =>
        have hne : L ≠ M := fun e => by
          subst e
          rw [hx] at hy
          cases hy
          rw [sameJ_iff.2 rfl] at hs
          cases hs
        have := hno hne
        subst this
        simp -implicitDefEqProofs
    · have hn' : ¬ (i : Int) < (L.length : Int) := by omega
      have hn2 : ¬ (i : Int) < (M.length : Int) := by omega
      rw [List.take_of_length_le (by omega), List.take_of_length_le (by omega)] at htk
      have := hyes htk
      subst this
      simp -implicitDefEqProofs [r5, r0, r1, hlt, hn', hn2]
  · have hlen' : ¬ (L.length : Int) = (M.length : Int) := by omega
    have := hno fun e => hlen (by rw [e])
    subst this
    simp -implicitDefEqProofs [hlen, hlen']
end Go.Proofs.YtlhgpodfhdddkaaGreatDoor
namespace Go.Proofs.YtlhgpodfhdddkaaGreatDoor
inductive Comes {α : Type} (R : α → α → Prop) : α → α → Prop
  | one {a b : α} : R a b → Comes R a b
  | more {a b c : α} : Comes R a b → R b c → Comes R a c
theorem Comes.trans {α : Type} {R : α → α → Prop} {a b c : α} (h : Comes R a b) (h2 : Comes R b c) : Comes R a c := by
  induction h2 with
  | one g => exact .more h g
  | more _ g ih => exact .more ih g
theorem Comes.mono {α : Type} {R T : α → α → Prop} (hRT : ∀ a b, T a b → Comes R a b) {a b : α} (h : Comes T a b) : Comes R a b := by
  induction h with
  | one h => exact hRT _ _ h
  | more _ h ih => exact ih.trans (hRT _ _ h)
theorem circle_of (n : Nat) : ∀ (S : List Nat) (R : Nat → Nat → Prop), S.length ≤ n → S ≠ [] → (∀ a ∈ S, ∃ d ∈ S, R a d) → ∃ a ∈ S, Comes R a a := by
  induction n with
  | zero =>
    intro S R h1 h2 _
    exact absurd (List.length_eq_zero_iff.1 (by omega)) h2
  | succ n ih =>
    intro S R h1 h2 h3
    obtain ⟨a, S', rfl⟩ := List.exists_cons_of_ne_nil h2
    by_cases hs : Comes R a a
    · exact ⟨a, by simp, hs⟩
    · have hm : ∀ x, x ∈ (a :: S').filter (fun x => decide (x ≠ a)) ↔ x ∈ a :: S' ∧ x ≠ a := fun x => by simp only [List.mem_filter, decide_eq_true_eq]
      have hlt : ((a :: S').filter (fun x => decide (x ≠ a))).length ≤ n := by
        rw [List.filter_cons_of_neg (by simp)]
        have := List.length_filter_le (fun x => decide (x ≠ a)) S'
        simp only [List.length_cons] at h1
        omega
      obtain ⟨d, hd, hr⟩ := h3 a (by simp)
      have hda : d ≠ a := by rintro rfl; exact hs (.one hr)
      obtain ⟨c, hc, hcc⟩ := ih _ (fun x y => R x y ∨ (R x a ∧ R a y)) hlt (List.ne_nil_of_mem ((hm d).2 ⟨hd, hda⟩)) fun x hx => by
        obtain ⟨hx1, hx2⟩ := (hm x).1 hx
        obtain ⟨e, he, hre⟩ := h3 x hx1
        by_cases hea : e = a
        · subst hea
          exact ⟨d, (hm d).2 ⟨hd, hda⟩, .inr ⟨hre, hr⟩⟩
        · exact ⟨e, (hm e).2 ⟨he, hea⟩, .inl hre⟩
      refine ⟨c, ((hm c).1 hc).1, hcc.mono fun x y h => ?_⟩
      rcases h with h | ⟨h, h'⟩
      · exact .one h
      · exact .more (.one h) h'
theorem no_circle {R : Nat → Nat → Prop} {out : List Nat} (h : ∀ (i a : Nat), out[i]? = some a → ∀ d, R a d → d ∈ out.take i) {a b : Nat} (hc : Comes R a b) : ∀ i : Nat, out[i]? = some a → ∃ j : Nat, j < i ∧ out[j]? = some b := by
  have step : ∀ {x y : Nat} {i : Nat}, out[i]? = some x → R x y → ∃ j : Nat, j < i ∧ out[j]? = some y := fun {x y i} hx hr => by
    obtain ⟨j, hj, he⟩ := List.getElem_of_mem (h i x hx y hr)
    rw [List.length_take] at hj
    rw [List.getElem_take] at he
    exact ⟨j, by omega, by rw [List.getElem?_eq_getElem (by omega), he]⟩
  induction hc with
  | one hr => exact fun i hi => step hi hr
  | more _ hr ih =>
    intro i hi
    obtain ⟨j, hj, he⟩ := ih i hi
    obtain ⟨k, hk, hf⟩ := step he hr
    exact ⟨k, by omega, hf⟩
end Go.Proofs.YtlhgpodfhdddkaaGreatDoor
