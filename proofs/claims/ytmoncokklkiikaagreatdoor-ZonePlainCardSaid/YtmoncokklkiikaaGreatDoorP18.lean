/- Expressions: a text's. The document's parse of an expression. The document's parse of any expression. The document's expressions: which may be, which clocks fit. The document's moments of clocks; which clocks fit; texts of expressions. Looking for firings, in plain words: what is known on the way, down (Last) and up (After), by hours and minutes, or minute by minute. -/
import Derived.Test.YtmoncokklkiikaaGreatDoorP15
import Derived.Test.YtmoncokklkiikaaGreatDoorP17
import Derived.Test.YtmoncokklkiikaaGreatDoorP14
set_option linter.unusedSimpArgs false
set_option linter.unusedVariables false
set_option linter.unnecessarySimpa false
namespace Go.Proofs.YtmoncokklkiikaaGreatDoor
open Rg Go
variable {H : Heap}
def nHourly : List UInt8 := [64, 104, 111, 117, 114, 108, 121]
def nDaily : List UInt8 := [64, 100, 97, 105, 108, 121]
def nMidnight : List UInt8 := [64, 109, 105, 100, 110, 105, 103, 104, 116]
def nWeekly : List UInt8 := [64, 119, 101, 101, 107, 108, 121]
def nMonthly : List UInt8 := [64, 109, 111, 110, 116, 104, 108, 121]
def nYearly : List UInt8 := [64, 121, 101, 97, 114, 108, 121]
def nAnnually : List UInt8 := [64, 97, 110, 110, 117, 97, 108, 108, 121]
def xHourly : List UInt8 := [48, 32, 42, 32, 42, 32, 42, 32, 42]
def xDaily : List UInt8 := [48, 32, 48, 32, 42, 32, 42, 32, 42]
def xWeekly : List UInt8 := [48, 32, 48, 32, 42, 32, 42, 32, 48]
def xMonthly : List UInt8 := [48, 32, 48, 32, 49, 32, 42, 32, 42]
def xYearly : List UInt8 := [48, 32, 48, 32, 49, 32, 49, 32, 42]
def namedL (s : List UInt8) : List UInt8 :=
  if s = nHourly then xHourly else if s = nDaily then xDaily else if s = nMidnight then xDaily else if s = nWeekly then xWeekly else if s = nMonthly then xMonthly else if s = nYearly then xYearly else if s = nAnnually then xYearly else []
def Ex.set (x : Ex) (j : Nat) (f : Fld) : Ex :=
  match j with
  | 0 => { x with a := f }
  | 1 => { x with b := f }
  | 2 => { x with c := f }
  | 3 => { x with d := f }
  | _ => { x with e := f }
def goX : List (List UInt8) → Nat → Ex → Ex × Int
  | [], _, x => (x, 0)
  | p :: r, j, x => if (parseK (j : Int) p).2 ≠ 0 then (ex0, (parseK (j : Int) p).2) else goX r (j + 1) (x.set j (parseK (j : Int) p).1)
def cronB (s : List UInt8) : Ex × Int := if (sp 32 s).length ≠ 5 then (ex0, 70) else if [] ∈ sp 32 s then (ex0, 70) else goX (sp 32 s) 0 ex0
def cronK (s : List UInt8) : Ex × Int := if 400 < s.length then (ex0, 3) else cronB (if Lib.hasPrefix s [64] = true then namedL s else s)
end Go.Proofs.YtmoncokklkiikaaGreatDoor
namespace Go.Proofs.YtmoncokklkiikaaGreatDoor
open Rg Go
variable {H : Heap}
def nmL : List (List UInt8) := [nHourly, xHourly, nDaily, xDaily, nMidnight, xDaily, nWeekly, xWeekly, nMonthly, xMonthly, nYearly, xYearly, nAnnually, xYearly]
theorem c_refNames : AOk Tryz.prog 131 [] H (.sl (strL nmL) .no) H := by
  refine ACalls.into Tryz.func131 rfl Tryz.ntmps131 Tryz.results131 (by simp) ?_
  simp -implicitDefEqProofs [nmL, nHourly, xHourly, nDaily, xDaily, nMidnight, xDaily, nWeekly, xWeekly, nMonthly, xMonthly, nYearly, xYearly, nAnnually, xYearly]
theorem cronB_nil {s : List UInt8} (h : [] ∈ sp 32 s) : cronB s = (ex0, 70) := by
  unfold cronB
  split
  · rfl
  · rfl
theorem cronB_len {s : List UInt8} (h : (sp 32 s).length ≠ 5) : cronB s = (ex0, 70) := by
  unfold cronB
  rw [if_pos h]
set_option maxHeartbeats 1000000 in
theorem c_ref7Plain (s : List UInt8) (hs : s.length ≤ 1000000) (hnp : ¬ 0 < s.length ∨ ∃ h : 0 < s.length, ¬ s[0].toNat = 64) : AOk Tryz.prog 64 [str s] H (.tup [exAV (if 400 < s.length then (ex0, 3) else cronB s).1, .sc (.int .i64 (if 400 < s.length then (ex0, 3) else cronB s).2)]) H := by
  refine ACalls.into Tryz.func64 rfl Tryz.ntmps64 Tryz.results64 (by simp) ?_
  by_cases hl : 400 < s.length
  · have hl' : (400 : Int) < s.length := by omega
    rw [if_pos hl]
    simp -implicitDefEqProofs [ex0, f0]
    refine AAlloc.intro fun b2 h2 => ?_
    simp -implicitDefEqProofs [hl']
    exact HWk.new h2 (HWk.refl _)
  · have hl' : ¬ (400 : Int) < s.length := by omega
    rw [if_neg hl]
    obtain ⟨res, hres⟩ : ∃ res, cronB s = res := ⟨_, rfl⟩
    have hL := split_length s [32] (by decide)
    rw [split_sp] at hL
    have hm : ∀ x ∈ sp 32 s, x.length ≤ 1000000 := fun x hx => Nat.le_trans (sp_len _ _ x hx) hs
    have hnil : [] ∈ sp 32 s → res = (ex0, 70) := fun h => by rw [← hres]; exact cronB_nil h
    have h5n : (sp 32 s).length ≠ 5 → res = (ex0, 70) := fun h => by rw [← hres]; exact cronB_len h
    rw [hres]
    simp -implicitDefEqProofs
    refine AAlloc.intro fun b2 h2 => ?_
    have c0 : (¬ 0 < s.length ∧ ¬ (0 : Int) < s.length) ∨ (∃ h : 0 < s.length, (0 : Int) < s.length ∧ ¬ s[0].toNat = 64 ∧ ¬ (s[0].toNat : Int) = 64) := by
      rcases hnp with h | ⟨h, h2⟩
      · exact .inl ⟨h, by omega⟩
      · exact .inr ⟨h, by omega, h2, by omega⟩
    rcases c0 with ⟨c0, c0'⟩ | ⟨c0, c0', c1, c1'⟩
    · simp -implicitDefEqProofs [hl', c0]
      generalize hK : Heap.set _ b2 _ = K0
      have k20 : K0 b2 = some (.cells (exC ex0) 42) := by rw [← hK]; simp [Heap.set, ex0, f0]
      have kW0 : HWk H K0 := by rw [← hK]; exact HWk.new h2 (HWk.refl _)
      clear hK
      refine AGo.joinLoop (fun ρ K => ∃ t K', ρ 2 = .sc (.pointer (some ⟨b2, 0, none⟩)) ∧ ρ 6 = .sl (strL (sp 32 s)) t ∧ Grows K0 (strL (sp 32 s)) 1 9 t K' ∧ HLe K' K ∧ [] ∉ sp 32 s) (fun k' hk' => ?_) ?_
      · refine AGo.rounds (fun m ρ K => ∃ (a i : Nat) (out : List (List UInt8)) (t : Tok), m = s.length + 2 - i ∧ i ≤ s.length + 1 ∧ ρ 0 = str s ∧ ρ 2 = .sc (.pointer (some ⟨b2, 0, none⟩)) ∧ ρ 6 = .sl (strL out) t ∧ ρ 7 = .sc (.int .i64 a) ∧ ρ 8 = .sc (.int .i64 i) ∧
          [] ∉ out ∧ out.length ≤ a ∧ a ≤ s.length + 1 ∧ Grows K0 (strL out) 1 9 t K ∧ ((a ≤ i ∧ i ≤ s.length ∧ out ++ sp 32 (s.drop a) = sp 32 s ∧ 32 ∉ (s.drop a).take (i - a)) ∨ (i = s.length + 1 ∧ out = sp 32 s))) ?_ (m := s.length + 2) (HLe.refl _)
          ⟨0, 0, [], .nil, by omega, by omega, by simp, by simp, by simp, by simp, by simp, by simp, by simp, by omega, Grows.zero, .inl ⟨by omega, by omega, by simp, by simp⟩⟩
        rintro m ρ K ih ⟨a, i, out, t, rfl, hi1, r0, r2, r6, r7, r8, hno, hol, ha1, hg, hor⟩
        rcases hor with ⟨hai, hi, hsp, hnot⟩ | ⟨hi, hout⟩
        · have hle' : (i : Int) ≤ s.length := by omega
          have hwi : IntKind.i64.wrap ((i : Int) + 1) = ((i + 1 : Nat) : Int) := by rw [wrap_i64 (by omega) (by omega)]; push_cast; rfl
          have kb2 : K b2 = some (.cells (exC ex0) 42) := hg.le b2 _ k20
          have kWg : HWk H K := kW0.trans hg.le.wk
          by_cases hlt : i < s.length
          · have hne : ¬ i = s.length := by omega
            have hne' : ¬ (i : Int) = s.length := by omega
            have hd : (s.drop a).drop (i - a) = s[i] :: s.drop (i + 1) := by
              rw [List.drop_drop, show a + (i - a) = i by omega, List.drop_eq_getElem_cons hlt]
            have hsplit : s.drop a = (s.drop a).take (i - a) ++ s[i] :: s.drop (i + 1) := by rw [← hd, List.take_append_drop]
            by_cases hc : s[i] = 32
            · have hc' : s[i].toNat = 32 := by rw [hc]; rfl
              have hcut0 : sp 32 (s.drop a) = (s.drop a).take (i - a) :: sp 32 (s.drop (i + 1)) := by
                have e := hsplit
                rw [hc] at e
                generalize (s.drop a).take (i - a) = pc at e hnot ⊢
                rw [e, sp_app, sp_not hnot]
                rfl
              have hcut : sp 32 s = out ++ ((s.drop a).take (i - a) :: sp 32 (s.drop (i + 1))) := by rw [← hsp, hcut0]
              by_cases hia : i = a
              · have hr := hnil (by rw [hcut, hia]; simp)
                subst hr
                subst hia
                simp -implicitDefEqProofs [r0, r2, r7, r8, hle', hlt, hne', hc', kb2, ex0, f0]
                exact HWk.new h2 kWg
              · have hia' : ¬ (i : Int) = a := by omega
                have hai' : (a : Int) ≤ i := by omega
                have hcur : (s.drop a).take (i - a) = (s.take i).drop a := by rw [List.drop_take]
                have hcn : ¬ ((s.take i).drop a = []) := by
                  rw [← hcur]
                  intro h
                  have := congrArg List.length h
                  simp at this
                  omega
                simp -implicitDefEqProofs [r0, r6, r7, r8, hle', hlt, hne', hc', hia', hai']
                refine AApp.grows el_89 hg (HLe.refl _) (by simp) (szs_strs _) (by simp [szs, AV.cells]) (by simp; omega) (by simp [maxLen]; omega) fun t' K' Hn hg' hl' => ?_
                simp -implicitDefEqProofs [r8, hwi]
                refine AGo.again ih (m' := s.length + 2 - (i + 1)) (by omega) hl' ⟨i + 1, i + 1, out ++ [(s.take i).drop a], t', rfl, by omega, by simp [r0], by simp [r2], by simp, by simp, by simp, ?_, by simp; omega, by omega, by simpa using hg', .inl ⟨by omega, by omega, ?_, by simp⟩⟩
                · simp only [List.mem_append, List.mem_singleton, not_or]
                  exact ⟨hno, fun h => hcn h.symm⟩
                · rw [hcut, hcur]; simp
            · have hc' : ¬ s[i].toNat = 32 := fun h => hc (UInt8.toNat_inj.1 (by rw [h]; rfl))
              have hc2 : ¬ (s[i].toNat : Int) = 32 := by omega
              simp -implicitDefEqProofs [r0, r8, hle', hlt, hne', hc2, hwi]
              refine AGo.again ih (m' := s.length + 2 - (i + 1)) (by omega) (HLe.refl _) ⟨a, i + 1, out, t, rfl, by omega, by simp [r0], by simp [r2], by simp [r6], by simp [r7], by simp, hno, hol, ha1, hg, .inl ⟨by omega, by omega, hsp, ?_⟩⟩
              rw [show i + 1 - a = (i - a) + 1 by omega, List.take_add_one]
              have he : (s.drop a)[i - a]? = some s[i] := by rw [List.getElem?_drop, show a + (i - a) = i by omega, List.getElem?_eq_getElem hlt]
              rw [he]
              simp only [Option.toList_some, List.mem_append, List.mem_singleton, not_or]
              exact ⟨hnot, fun h => hc h.symm⟩
          · obtain rfl : i = s.length := by omega
            have hnot' : 32 ∉ s.drop a := by rw [List.take_of_length_le (by simp)] at hnot; exact hnot
            have hcut : sp 32 s = out ++ [s.drop a] := by rw [← hsp, sp_not hnot']
            by_cases hia : s.length = a
            · have hr := hnil (by rw [hcut, ← hia]; simp)
              subst hr
              have hia' : (s.length : Int) = a := by omega
              simp -implicitDefEqProofs [r0, r2, r7, r8, hia, kb2, ex0, f0]
              exact HWk.new h2 kWg
            · have hia' : ¬ (s.length : Int) = a := by omega
              have hai' : (a : Int) ≤ s.length := by omega
              have hcn : ¬ (s.drop a = []) := by
                intro h
                have := congrArg List.length h
                simp at this
                omega
              simp -implicitDefEqProofs [r0, r6, r7, r8, hia', hai']
              refine AApp.grows el_89 hg (HLe.refl _) (by simp) (szs_strs _) (by simp [szs, AV.cells]) (by simp; omega) (by simp [maxLen]; omega) fun t' K' Hn hg' hl' => ?_
              simp -implicitDefEqProofs [r8, hwi]
              refine AGo.again ih (m' := 1) (by omega) hl' ⟨s.length + 1, s.length + 1, out ++ [s.drop a], t', by omega, by omega, by simp [r0], by simp [r2], by simp, by simp, by simp, ?_, by simp; omega, by omega, by simpa using hg', .inr ⟨rfl, hcut.symm⟩⟩
              simp only [List.mem_append, List.mem_singleton, not_or]
              exact ⟨hno, fun h => hcn h.symm⟩
        · subst hout
          have hle' : ¬ (i : Int) ≤ s.length := by omega
          have hle2 : ¬ i ≤ s.length := by omega
          simp -implicitDefEqProofs [r0, r8, hle']
          exact hk' _ _ ⟨t, K, by simp [r2], by simp [r6], hg, HLe.refl _, hno⟩
      · rintro ρ K ⟨t, K', r2, r6, hg, hle, hnin⟩
        have k2 : K b2 = some (.cells (exC ex0) 42) := hle _ _ (hg.le b2 _ k20)
        have kW : HWk H K := kW0.trans (hg.le.trans hle).wk
        clear hg hle k20 kW0
        by_cases h5 : (sp 32 s).length = 5
        · unfold cronB at hres
          rw [if_neg (by omega), if_neg hnin] at hres
          generalize sp 32 s = L at *
          have h5' : (L.length : Int) = 5 := by omega
          simp -implicitDefEqProofs [r6, h5]
          refine AAlloc.intro fun b7 h7 => ?_
          have n72 : b7 ≠ b2 := by intro e; subst e; rw [k2] at h7; cases h7
          have n27 := n72.symm
          have e7 : H b7 = none := kW.none h7
          simp -implicitDefEqProofs
          generalize hK : Heap.set _ b7 _ = K3
          have k7 : K3 b7 = some (.cells (exC ex0) 42) := by rw [← hK]; simp [Heap.set, ex0, f0]
          have k2' : K3 b2 = some (.cells (exC ex0) 42) := by rw [← hK]; simp [Heap.set, n27, k2]
          have kW' : HWk H K3 := by rw [← hK]; exact HWk.new e7 kW
          clear hK h7 k2 kW
          refine AGo.rounds (fun m ρ K2 => ∃ (j : Nat) (x : Ex), j ≤ 5 ∧ m = 5 - j ∧ ρ 2 = .sc (.pointer (some ⟨b2, 0, none⟩)) ∧ ρ 6 = .sl (strL L) t ∧ ρ 9 = .sc (.pointer (some ⟨b7, 0, none⟩)) ∧ ρ 10 = .sc (.int .i64 j) ∧ goX (L.drop j) j x = res ∧
            K2 b2 = some (.cells (exC ex0) 42) ∧ K2 b7 = some (.cells (exC x) 42) ∧ HWk H K2) ?_ (m := 5) (HLe.refl _)
            ⟨0, ex0, by omega, rfl, by simp [r2], by simp [r6], by simp, by simp, by simpa using hres, k2', k7, kW'⟩
          clear k7 k2' kW' r2 r6
          rintro m ρ K2 ih ⟨j, x, hj, rfl, r2, r6, r9, r10, hgo, k2, k7, kW⟩
          have hc : j = 0 ∨ j = 1 ∨ j = 2 ∨ j = 3 ∨ j = 4 ∨ j = 5 := by omega
          rcases hc with rfl | rfl | rfl | rfl | rfl | rfl
          · have hlj : 0 < L.length := by omega
            have hdrop : L.drop 0 = L[0] :: L.drop (0 + 1) := List.drop_eq_getElem_cons hlj
            simp -implicitDefEqProofs [r6, r10, hlj]
            refine ACall.eq (c_refParse (0 : Nat) L[0] (hm _ (List.getElem_mem (by omega)))) ?_
            simp -implicitDefEqProofs [fAV]
            refine AAlloc.intro fun b10 h10 => ?_
            have n107 : b10 ≠ b7 := by intro e; subst e; rw [k7] at h10; cases h10
            have n102 : b10 ≠ b2 := by intro e; subst e; rw [k2] at h10; cases h10
            have n710 := n107.symm
            have n210 := n102.symm
            have e10 : H b10 = none := kW.none h10
            rw [hdrop, goX] at hgo
            generalize parseK (0 : Nat) L[0] = pr at *
            obtain ⟨f, er⟩ := pr
            simp only at hgo ⊢
            by_cases he : er = 0
            · rw [if_neg (by simp [he])] at hgo
              simp -implicitDefEqProofs [n710, he, r9, r10, k7, wrap_i64]
              refine AGo.again ih (m' := 4) (by omega) (HLe.refl _) ⟨1, x.set 0 f, by omega, rfl, by simp [r2], by simp [r6], by simp [r9], by simp, hgo, ?_, ?_, ?_⟩
              · simp [Heap.set, n210, n72.symm, k2]
              · simp [Heap.set, Ex.set]
              · repeat (first | exact kW | refine HWk.new (by assumption) ?_)
            · rw [if_pos he] at hgo
              subst hgo
              simp -implicitDefEqProofs [n210, he, r2, k2, ex0, f0]
              repeat (first | exact kW | refine HWk.new (by assumption) ?_)
          · have hlj : 1 < L.length := by omega
            have hdrop : L.drop 1 = L[1] :: L.drop (1 + 1) := List.drop_eq_getElem_cons hlj
            simp -implicitDefEqProofs [r6, r10, hlj]
            refine ACall.eq (c_refParse (1 : Nat) L[1] (hm _ (List.getElem_mem (by omega)))) ?_
            simp -implicitDefEqProofs [fAV]
            refine AAlloc.intro fun b10 h10 => ?_
            have n107 : b10 ≠ b7 := by intro e; subst e; rw [k7] at h10; cases h10
            have n102 : b10 ≠ b2 := by intro e; subst e; rw [k2] at h10; cases h10
            have n710 := n107.symm
            have n210 := n102.symm
            have e10 : H b10 = none := kW.none h10
            rw [hdrop, goX] at hgo
            generalize parseK (1 : Nat) L[1] = pr at *
            obtain ⟨f, er⟩ := pr
            simp only at hgo ⊢
            by_cases he : er = 0
            · rw [if_neg (by simp [he])] at hgo
              simp -implicitDefEqProofs [n710, he, r9, r10, k7, wrap_i64]
              refine AGo.again ih (m' := 3) (by omega) (HLe.refl _) ⟨2, x.set 1 f, by omega, rfl, by simp [r2], by simp [r6], by simp [r9], by simp, hgo, ?_, ?_, ?_⟩
              · simp [Heap.set, n210, n72.symm, k2]
              · simp [Heap.set, Ex.set]
              · repeat (first | exact kW | refine HWk.new (by assumption) ?_)
            · rw [if_pos he] at hgo
              subst hgo
              simp -implicitDefEqProofs [n210, he, r2, k2, ex0, f0]
              repeat (first | exact kW | refine HWk.new (by assumption) ?_)
          · have hlj : 2 < L.length := by omega
            have hdrop : L.drop 2 = L[2] :: L.drop (2 + 1) := List.drop_eq_getElem_cons hlj
            simp -implicitDefEqProofs [r6, r10, hlj]
            refine ACall.eq (c_refParse (2 : Nat) L[2] (hm _ (List.getElem_mem (by omega)))) ?_
            simp -implicitDefEqProofs [fAV]
            refine AAlloc.intro fun b10 h10 => ?_
            have n107 : b10 ≠ b7 := by intro e; subst e; rw [k7] at h10; cases h10
            have n102 : b10 ≠ b2 := by intro e; subst e; rw [k2] at h10; cases h10
            have n710 := n107.symm
            have n210 := n102.symm
            have e10 : H b10 = none := kW.none h10
            rw [hdrop, goX] at hgo
            generalize parseK (2 : Nat) L[2] = pr at *
            obtain ⟨f, er⟩ := pr
            simp only at hgo ⊢
            by_cases he : er = 0
            · rw [if_neg (by simp [he])] at hgo
              simp -implicitDefEqProofs [n710, he, r9, r10, k7, wrap_i64]
              refine AGo.again ih (m' := 2) (by omega) (HLe.refl _) ⟨3, x.set 2 f, by omega, rfl, by simp [r2], by simp [r6], by simp [r9], by simp, hgo, ?_, ?_, ?_⟩
              · simp [Heap.set, n210, n72.symm, k2]
              · simp [Heap.set, Ex.set]
              · repeat (first | exact kW | refine HWk.new (by assumption) ?_)
            · rw [if_pos he] at hgo
              subst hgo
              simp -implicitDefEqProofs [n210, he, r2, k2, ex0, f0]
              repeat (first | exact kW | refine HWk.new (by assumption) ?_)
          · have hlj : 3 < L.length := by omega
            have hdrop : L.drop 3 = L[3] :: L.drop (3 + 1) := List.drop_eq_getElem_cons hlj
            simp -implicitDefEqProofs [r6, r10, hlj]
            refine ACall.eq (c_refParse (3 : Nat) L[3] (hm _ (List.getElem_mem (by omega)))) ?_
            simp -implicitDefEqProofs [fAV]
            refine AAlloc.intro fun b10 h10 => ?_
            have n107 : b10 ≠ b7 := by intro e; subst e; rw [k7] at h10; cases h10
            have n102 : b10 ≠ b2 := by intro e; subst e; rw [k2] at h10; cases h10
            have n710 := n107.symm
            have n210 := n102.symm
            have e10 : H b10 = none := kW.none h10
            rw [hdrop, goX] at hgo
            generalize parseK (3 : Nat) L[3] = pr at *
            obtain ⟨f, er⟩ := pr
            simp only at hgo ⊢
            by_cases he : er = 0
            · rw [if_neg (by simp [he])] at hgo
              simp -implicitDefEqProofs [n710, he, r9, r10, k7, wrap_i64]
              refine AGo.again ih (m' := 1) (by omega) (HLe.refl _) ⟨4, x.set 3 f, by omega, rfl, by simp [r2], by simp [r6], by simp [r9], by simp, hgo, ?_, ?_, ?_⟩
              · simp [Heap.set, n210, n72.symm, k2]
              · simp [Heap.set, Ex.set]
              · repeat (first | exact kW | refine HWk.new (by assumption) ?_)
            · rw [if_pos he] at hgo
              subst hgo
              simp -implicitDefEqProofs [n210, he, r2, k2, ex0, f0]
              repeat (first | exact kW | refine HWk.new (by assumption) ?_)
          · have hlj : 4 < L.length := by omega
            have hdrop : L.drop 4 = L[4] :: L.drop (4 + 1) := List.drop_eq_getElem_cons hlj
            simp -implicitDefEqProofs [r6, r10, hlj]
            refine ACall.eq (c_refParse (4 : Nat) L[4] (hm _ (List.getElem_mem (by omega)))) ?_
            simp -implicitDefEqProofs [fAV]
            refine AAlloc.intro fun b10 h10 => ?_
            have n107 : b10 ≠ b7 := by intro e; subst e; rw [k7] at h10; cases h10
            have n102 : b10 ≠ b2 := by intro e; subst e; rw [k2] at h10; cases h10
            have n710 := n107.symm
            have n210 := n102.symm
            have e10 : H b10 = none := kW.none h10
            rw [hdrop, goX] at hgo
            generalize parseK (4 : Nat) L[4] = pr at *
            obtain ⟨f, er⟩ := pr
            simp only at hgo ⊢
            by_cases he : er = 0
            · rw [if_neg (by simp [he])] at hgo
              simp -implicitDefEqProofs [n710, he, r9, r10, k7, wrap_i64]
              refine AGo.again ih (m' := 0) (by omega) (HLe.refl _) ⟨5, x.set 4 f, by omega, rfl, by simp [r2], by simp [r6], by simp [r9], by simp, hgo, ?_, ?_, ?_⟩
              · simp [Heap.set, n210, n72.symm, k2]
              · simp [Heap.set, Ex.set]
              · repeat (first | exact kW | refine HWk.new (by assumption) ?_)
            · rw [if_pos he] at hgo
              subst hgo
              simp -implicitDefEqProofs [n210, he, r2, k2, ex0, f0]
              repeat (first | exact kW | refine HWk.new (by assumption) ?_)
          · rw [List.drop_eq_nil_of_le (by omega), goX] at hgo
            subst hgo
            simp -implicitDefEqProofs [r2, r9, r10, k2, k7]
            exact HWk.new h2 kW
        · have h5' : ¬ ((sp 32 s).length : Int) = 5 := by omega
          have hr := h5n h5
          subst hr
          simp -implicitDefEqProofs [r2, r6, h5', k2, ex0, f0]
          exact HWk.new h2 kW
    · simp -implicitDefEqProofs [hl', c0, c1']
      generalize hK : Heap.set _ b2 _ = K0
      have k20 : K0 b2 = some (.cells (exC ex0) 42) := by rw [← hK]; simp [Heap.set, ex0, f0]
      have kW0 : HWk H K0 := by rw [← hK]; exact HWk.new h2 (HWk.refl _)
      clear hK
      refine AGo.joinLoop (fun ρ K => ∃ t K', ρ 2 = .sc (.pointer (some ⟨b2, 0, none⟩)) ∧ ρ 6 = .sl (strL (sp 32 s)) t ∧ Grows K0 (strL (sp 32 s)) 1 9 t K' ∧ HLe K' K ∧ [] ∉ sp 32 s) (fun k' hk' => ?_) ?_
      · refine AGo.rounds (fun m ρ K => ∃ (a i : Nat) (out : List (List UInt8)) (t : Tok), m = s.length + 2 - i ∧ i ≤ s.length + 1 ∧ ρ 0 = str s ∧ ρ 2 = .sc (.pointer (some ⟨b2, 0, none⟩)) ∧ ρ 6 = .sl (strL out) t ∧ ρ 7 = .sc (.int .i64 a) ∧ ρ 8 = .sc (.int .i64 i) ∧
          [] ∉ out ∧ out.length ≤ a ∧ a ≤ s.length + 1 ∧ Grows K0 (strL out) 1 9 t K ∧ ((a ≤ i ∧ i ≤ s.length ∧ out ++ sp 32 (s.drop a) = sp 32 s ∧ 32 ∉ (s.drop a).take (i - a)) ∨ (i = s.length + 1 ∧ out = sp 32 s))) ?_ (m := s.length + 2) (HLe.refl _)
          ⟨0, 0, [], .nil, by omega, by omega, by simp, by simp, by simp, by simp, by simp, by simp, by simp, by omega, Grows.zero, .inl ⟨by omega, by omega, by simp, by simp⟩⟩
        rintro m ρ K ih ⟨a, i, out, t, rfl, hi1, r0, r2, r6, r7, r8, hno, hol, ha1, hg, hor⟩
        rcases hor with ⟨hai, hi, hsp, hnot⟩ | ⟨hi, hout⟩
        · have hle' : (i : Int) ≤ s.length := by omega
          have hwi : IntKind.i64.wrap ((i : Int) + 1) = ((i + 1 : Nat) : Int) := by rw [wrap_i64 (by omega) (by omega)]; push_cast; rfl
          have kb2 : K b2 = some (.cells (exC ex0) 42) := hg.le b2 _ k20
          have kWg : HWk H K := kW0.trans hg.le.wk
          by_cases hlt : i < s.length
          · have hne : ¬ i = s.length := by omega
            have hne' : ¬ (i : Int) = s.length := by omega
            have hd : (s.drop a).drop (i - a) = s[i] :: s.drop (i + 1) := by
              rw [List.drop_drop, show a + (i - a) = i by omega, List.drop_eq_getElem_cons hlt]
            have hsplit : s.drop a = (s.drop a).take (i - a) ++ s[i] :: s.drop (i + 1) := by rw [← hd, List.take_append_drop]
            by_cases hc : s[i] = 32
            · have hc' : s[i].toNat = 32 := by rw [hc]; rfl
              have hcut0 : sp 32 (s.drop a) = (s.drop a).take (i - a) :: sp 32 (s.drop (i + 1)) := by
                have e := hsplit
                rw [hc] at e
                generalize (s.drop a).take (i - a) = pc at e hnot ⊢
                rw [e, sp_app, sp_not hnot]
                rfl
              have hcut : sp 32 s = out ++ ((s.drop a).take (i - a) :: sp 32 (s.drop (i + 1))) := by rw [← hsp, hcut0]
              by_cases hia : i = a
              · have hr := hnil (by rw [hcut, hia]; simp)
                subst hr
                subst hia
                simp -implicitDefEqProofs [r0, r2, r7, r8, hle', hlt, hne', hc', kb2, ex0, f0]
                exact HWk.new h2 kWg
              · have hia' : ¬ (i : Int) = a := by omega
                have hai' : (a : Int) ≤ i := by omega
                have hcur : (s.drop a).take (i - a) = (s.take i).drop a := by rw [List.drop_take]
                have hcn : ¬ ((s.take i).drop a = []) := by
                  rw [← hcur]
                  intro h
                  have := congrArg List.length h
                  simp at this
                  omega
                simp -implicitDefEqProofs [r0, r6, r7, r8, hle', hlt, hne', hc', hia', hai']
                refine AApp.grows el_89 hg (HLe.refl _) (by simp) (szs_strs _) (by simp [szs, AV.cells]) (by simp; omega) (by simp [maxLen]; omega) fun t' K' Hn hg' hl' => ?_
                simp -implicitDefEqProofs [r8, hwi]
                refine AGo.again ih (m' := s.length + 2 - (i + 1)) (by omega) hl' ⟨i + 1, i + 1, out ++ [(s.take i).drop a], t', rfl, by omega, by simp [r0], by simp [r2], by simp, by simp, by simp, ?_, by simp; omega, by omega, by simpa using hg', .inl ⟨by omega, by omega, ?_, by simp⟩⟩
                · simp only [List.mem_append, List.mem_singleton, not_or]
                  exact ⟨hno, fun h => hcn h.symm⟩
                · rw [hcut, hcur]; simp
            · have hc' : ¬ s[i].toNat = 32 := fun h => hc (UInt8.toNat_inj.1 (by rw [h]; rfl))
              have hc2 : ¬ (s[i].toNat : Int) = 32 := by omega
              simp -implicitDefEqProofs [r0, r8, hle', hlt, hne', hc2, hwi]
              refine AGo.again ih (m' := s.length + 2 - (i + 1)) (by omega) (HLe.refl _) ⟨a, i + 1, out, t, rfl, by omega, by simp [r0], by simp [r2], by simp [r6], by simp [r7], by simp, hno, hol, ha1, hg, .inl ⟨by omega, by omega, hsp, ?_⟩⟩
              rw [show i + 1 - a = (i - a) + 1 by omega, List.take_add_one]
              have he : (s.drop a)[i - a]? = some s[i] := by rw [List.getElem?_drop, show a + (i - a) = i by omega, List.getElem?_eq_getElem hlt]
              rw [he]
              simp only [Option.toList_some, List.mem_append, List.mem_singleton, not_or]
              exact ⟨hnot, fun h => hc h.symm⟩
          · obtain rfl : i = s.length := by omega
            have hnot' : 32 ∉ s.drop a := by rw [List.take_of_length_le (by simp)] at hnot; exact hnot
            have hcut : sp 32 s = out ++ [s.drop a] := by rw [← hsp, sp_not hnot']
            by_cases hia : s.length = a
            · have hr := hnil (by rw [hcut, ← hia]; simp)
              subst hr
              have hia' : (s.length : Int) = a := by omega
              simp -implicitDefEqProofs [r0, r2, r7, r8, hia, kb2, ex0, f0]
              exact HWk.new h2 kWg
            · have hia' : ¬ (s.length : Int) = a := by omega
              have hai' : (a : Int) ≤ s.length := by omega
              have hcn : ¬ (s.drop a = []) := by
                intro h
                have := congrArg List.length h
                simp at this
                omega
              simp -implicitDefEqProofs [r0, r6, r7, r8, hia', hai']
              refine AApp.grows el_89 hg (HLe.refl _) (by simp) (szs_strs _) (by simp [szs, AV.cells]) (by simp; omega) (by simp [maxLen]; omega) fun t' K' Hn hg' hl' => ?_
              simp -implicitDefEqProofs [r8, hwi]
              refine AGo.again ih (m' := 1) (by omega) hl' ⟨s.length + 1, s.length + 1, out ++ [s.drop a], t', by omega, by omega, by simp [r0], by simp [r2], by simp, by simp, by simp, ?_, by simp; omega, by omega, by simpa using hg', .inr ⟨rfl, hcut.symm⟩⟩
              simp only [List.mem_append, List.mem_singleton, not_or]
              exact ⟨hno, fun h => hcn h.symm⟩
        · subst hout
          have hle' : ¬ (i : Int) ≤ s.length := by omega
          have hle2 : ¬ i ≤ s.length := by omega
          simp -implicitDefEqProofs [r0, r8, hle']
          exact hk' _ _ ⟨t, K, by simp [r2], by simp [r6], hg, HLe.refl _, hno⟩
      · rintro ρ K ⟨t, K', r2, r6, hg, hle, hnin⟩
        have k2 : K b2 = some (.cells (exC ex0) 42) := hle _ _ (hg.le b2 _ k20)
        have kW : HWk H K := kW0.trans (hg.le.trans hle).wk
        clear hg hle k20 kW0
        by_cases h5 : (sp 32 s).length = 5
        · unfold cronB at hres
          rw [if_neg (by omega), if_neg hnin] at hres
          generalize sp 32 s = L at *
          have h5' : (L.length : Int) = 5 := by omega
          simp -implicitDefEqProofs [r6, h5]
          refine AAlloc.intro fun b7 h7 => ?_
          have n72 : b7 ≠ b2 := by intro e; subst e; rw [k2] at h7; cases h7
          have n27 := n72.symm
          have e7 : H b7 = none := kW.none h7
          simp -implicitDefEqProofs
          generalize hK : Heap.set _ b7 _ = K3
          have k7 : K3 b7 = some (.cells (exC ex0) 42) := by rw [← hK]; simp [Heap.set, ex0, f0]
          have k2' : K3 b2 = some (.cells (exC ex0) 42) := by rw [← hK]; simp [Heap.set, n27, k2]
          have kW' : HWk H K3 := by rw [← hK]; exact HWk.new e7 kW
          clear hK h7 k2 kW
          refine AGo.rounds (fun m ρ K2 => ∃ (j : Nat) (x : Ex), j ≤ 5 ∧ m = 5 - j ∧ ρ 2 = .sc (.pointer (some ⟨b2, 0, none⟩)) ∧ ρ 6 = .sl (strL L) t ∧ ρ 9 = .sc (.pointer (some ⟨b7, 0, none⟩)) ∧ ρ 10 = .sc (.int .i64 j) ∧ goX (L.drop j) j x = res ∧
            K2 b2 = some (.cells (exC ex0) 42) ∧ K2 b7 = some (.cells (exC x) 42) ∧ HWk H K2) ?_ (m := 5) (HLe.refl _)
            ⟨0, ex0, by omega, rfl, by simp [r2], by simp [r6], by simp, by simp, by simpa using hres, k2', k7, kW'⟩
          clear k7 k2' kW' r2 r6
          rintro m ρ K2 ih ⟨j, x, hj, rfl, r2, r6, r9, r10, hgo, k2, k7, kW⟩
          have hc : j = 0 ∨ j = 1 ∨ j = 2 ∨ j = 3 ∨ j = 4 ∨ j = 5 := by omega
          rcases hc with rfl | rfl | rfl | rfl | rfl | rfl
          · have hlj : 0 < L.length := by omega
            have hdrop : L.drop 0 = L[0] :: L.drop (0 + 1) := List.drop_eq_getElem_cons hlj
            simp -implicitDefEqProofs [r6, r10, hlj]
            refine ACall.eq (c_refParse (0 : Nat) L[0] (hm _ (List.getElem_mem (by omega)))) ?_
            simp -implicitDefEqProofs [fAV]
            refine AAlloc.intro fun b10 h10 => ?_
            have n107 : b10 ≠ b7 := by intro e; subst e; rw [k7] at h10; cases h10
            have n102 : b10 ≠ b2 := by intro e; subst e; rw [k2] at h10; cases h10
            have n710 := n107.symm
            have n210 := n102.symm
            have e10 : H b10 = none := kW.none h10
            rw [hdrop, goX] at hgo
            generalize parseK (0 : Nat) L[0] = pr at *
            obtain ⟨f, er⟩ := pr
            simp only at hgo ⊢
            by_cases he : er = 0
            · rw [if_neg (by simp [he])] at hgo
              simp -implicitDefEqProofs [n710, he, r9, r10, k7, wrap_i64]
              refine AGo.again ih (m' := 4) (by omega) (HLe.refl _) ⟨1, x.set 0 f, by omega, rfl, by simp [r2], by simp [r6], by simp [r9], by simp, hgo, ?_, ?_, ?_⟩
              · simp [Heap.set, n210, n72.symm, k2]
              · simp [Heap.set, Ex.set]
              · repeat (first | exact kW | refine HWk.new (by assumption) ?_)
            · rw [if_pos he] at hgo
              subst hgo
              simp -implicitDefEqProofs [n210, he, r2, k2, ex0, f0]
              repeat (first | exact kW | refine HWk.new (by assumption) ?_)
          · have hlj : 1 < L.length := by omega
            have hdrop : L.drop 1 = L[1] :: L.drop (1 + 1) := List.drop_eq_getElem_cons hlj
            simp -implicitDefEqProofs [r6, r10, hlj]
            refine ACall.eq (c_refParse (1 : Nat) L[1] (hm _ (List.getElem_mem (by omega)))) ?_
            simp -implicitDefEqProofs [fAV]
            refine AAlloc.intro fun b10 h10 => ?_
            have n107 : b10 ≠ b7 := by intro e; subst e; rw [k7] at h10; cases h10
            have n102 : b10 ≠ b2 := by intro e; subst e; rw [k2] at h10; cases h10
            have n710 := n107.symm
            have n210 := n102.symm
            have e10 : H b10 = none := kW.none h10
            rw [hdrop, goX] at hgo
            generalize parseK (1 : Nat) L[1] = pr at *
            obtain ⟨f, er⟩ := pr
            simp only at hgo ⊢
            by_cases he : er = 0
            · rw [if_neg (by simp [he])] at hgo
              simp -implicitDefEqProofs [n710, he, r9, r10, k7, wrap_i64]
              refine AGo.again ih (m' := 3) (by omega) (HLe.refl _) ⟨2, x.set 1 f, by omega, rfl, by simp [r2], by simp [r6], by simp [r9], by simp, hgo, ?_, ?_, ?_⟩
              · simp [Heap.set, n210, n72.symm, k2]
              · simp [Heap.set, Ex.set]
              · repeat (first | exact kW | refine HWk.new (by assumption) ?_)
            · rw [if_pos he] at hgo
              subst hgo
              simp -implicitDefEqProofs [n210, he, r2, k2, ex0, f0]
              repeat (first | exact kW | refine HWk.new (by assumption) ?_)
          · have hlj : 2 < L.length := by omega
            have hdrop : L.drop 2 = L[2] :: L.drop (2 + 1) := List.drop_eq_getElem_cons hlj
            simp -implicitDefEqProofs [r6, r10, hlj]
            refine ACall.eq (c_refParse (2 : Nat) L[2] (hm _ (List.getElem_mem (by omega)))) ?_
            simp -implicitDefEqProofs [fAV]
            refine AAlloc.intro fun b10 h10 => ?_
            have n107 : b10 ≠ b7 := by intro e; subst e; rw [k7] at h10; cases h10
            have n102 : b10 ≠ b2 := by intro e; subst e; rw [k2] at h10; cases h10
            have n710 := n107.symm
            have n210 := n102.symm
            have e10 : H b10 = none := kW.none h10
            rw [hdrop, goX] at hgo
            generalize parseK (2 : Nat) L[2] = pr at *
            obtain ⟨f, er⟩ := pr
            simp only at hgo ⊢
            by_cases he : er = 0
            · rw [if_neg (by simp [he])] at hgo
              simp -implicitDefEqProofs [n710, he, r9, r10, k7, wrap_i64]
              refine AGo.again ih (m' := 2) (by omega) (HLe.refl _) ⟨3, x.set 2 f, by omega, rfl, by simp [r2], by simp [r6], by simp [r9], by simp, hgo, ?_, ?_, ?_⟩
              · simp [Heap.set, n210, n72.symm, k2]
              · simp [Heap.set, Ex.set]
              · repeat (first | exact kW | refine HWk.new (by assumption) ?_)
            · rw [if_pos he] at hgo
              subst hgo
              simp -implicitDefEqProofs [n210, he, r2, k2, ex0, f0]
              repeat (first | exact kW | refine HWk.new (by assumption) ?_)
          · have hlj : 3 < L.length := by omega
            have hdrop : L.drop 3 = L[3] :: L.drop (3 + 1) := List.drop_eq_getElem_cons hlj
            simp -implicitDefEqProofs [r6, r10, hlj]
            refine ACall.eq (c_refParse (3 : Nat) L[3] (hm _ (List.getElem_mem (by omega)))) ?_
            simp -implicitDefEqProofs [fAV]
            refine AAlloc.intro fun b10 h10 => ?_
            have n107 : b10 ≠ b7 := by intro e; subst e; rw [k7] at h10; cases h10
            have n102 : b10 ≠ b2 := by intro e; subst e; rw [k2] at h10; cases h10
            have n710 := n107.symm
            have n210 := n102.symm
            have e10 : H b10 = none := kW.none h10
            rw [hdrop, goX] at hgo
            generalize parseK (3 : Nat) L[3] = pr at *
            obtain ⟨f, er⟩ := pr
            simp only at hgo ⊢
            by_cases he : er = 0
            · rw [if_neg (by simp [he])] at hgo
              simp -implicitDefEqProofs [n710, he, r9, r10, k7, wrap_i64]
              refine AGo.again ih (m' := 1) (by omega) (HLe.refl _) ⟨4, x.set 3 f, by omega, rfl, by simp [r2], by simp [r6], by simp [r9], by simp, hgo, ?_, ?_, ?_⟩
              · simp [Heap.set, n210, n72.symm, k2]
              · simp [Heap.set, Ex.set]
              · repeat (first | exact kW | refine HWk.new (by assumption) ?_)
            · rw [if_pos he] at hgo
              subst hgo
              simp -implicitDefEqProofs [n210, he, r2, k2, ex0, f0]
              repeat (first | exact kW | refine HWk.new (by assumption) ?_)
          · have hlj : 4 < L.length := by omega
            have hdrop : L.drop 4 = L[4] :: L.drop (4 + 1) := List.drop_eq_getElem_cons hlj
            simp -implicitDefEqProofs [r6, r10, hlj]
            refine ACall.eq (c_refParse (4 : Nat) L[4] (hm _ (List.getElem_mem (by omega)))) ?_
            simp -implicitDefEqProofs [fAV]
            refine AAlloc.intro fun b10 h10 => ?_
            have n107 : b10 ≠ b7 := by intro e; subst e; rw [k7] at h10; cases h10
            have n102 : b10 ≠ b2 := by intro e; subst e; rw [k2] at h10; cases h10
            have n710 := n107.symm
            have n210 := n102.symm
            have e10 : H b10 = none := kW.none h10
            rw [hdrop, goX] at hgo
            generalize parseK (4 : Nat) L[4] = pr at *
            obtain ⟨f, er⟩ := pr
            simp only at hgo ⊢
            by_cases he : er = 0
            · rw [if_neg (by simp [he])] at hgo
              simp -implicitDefEqProofs [n710, he, r9, r10, k7, wrap_i64]
              refine AGo.again ih (m' := 0) (by omega) (HLe.refl _) ⟨5, x.set 4 f, by omega, rfl, by simp [r2], by simp [r6], by simp [r9], by simp, hgo, ?_, ?_, ?_⟩
              · simp [Heap.set, n210, n72.symm, k2]
              · simp [Heap.set, Ex.set]
              · repeat (first | exact kW | refine HWk.new (by assumption) ?_)
            · rw [if_pos he] at hgo
              subst hgo
              simp -implicitDefEqProofs [n210, he, r2, k2, ex0, f0]
              repeat (first | exact kW | refine HWk.new (by assumption) ?_)
          · rw [List.drop_eq_nil_of_le (by omega), goX] at hgo
            subst hgo
            simp -implicitDefEqProofs [r2, r9, r10, k2, k7]
            exact HWk.new h2 kW
        · have h5' : ¬ ((sp 32 s).length : Int) = 5 := by omega
          have hr := h5n h5
          subst hr
          simp -implicitDefEqProofs [r2, r6, h5', k2, ex0, f0]
          exact HWk.new h2 kW
end Go.Proofs.YtmoncokklkiikaaGreatDoor
namespace Go.Proofs.YtmoncokklkiikaaGreatDoor
open Rg Go
variable {H : Heap}
theorem cronK_name {n x : List UInt8} (hl : ¬ 400 < n.length) (hp : Lib.hasPrefix n [64] = true) (h : namedL n = x) : cronK n = cronB x := by
  unfold cronK
  rw [if_neg hl, if_pos hp, h]
theorem prefix64 (s : List UInt8) : (Lib.hasPrefix s [64] = false ∧ (¬ 0 < s.length ∨ ∃ h : 0 < s.length, ¬ s[0].toNat = 64)) ∨ (Lib.hasPrefix s [64] = true ∧ ∃ h : 0 < s.length, s[0].toNat = 64) := by
  cases s with
  | nil => exact .inl ⟨rfl, .inl (by simp)⟩
  | cons c r =>
    have e : Lib.hasPrefix (c :: r) [64] = (64 == c) := by unfold Lib.hasPrefix; simp [List.isPrefixOf]
    by_cases hc : c = 64
    · exact .inr ⟨by rw [e, hc]; rfl, by simp, by simp [hc]⟩
    · exact .inl ⟨by rw [e]; simpa using Ne.symm hc, .inr ⟨by simp, fun h => hc (UInt8.toNat_inj.1 (by simpa using h))⟩⟩
theorem namedL_none {s : List UInt8} (h : ∀ q, q < 7 → nmL.getD (2 * q) [] ≠ s) : namedL s = [] := by
  have h0 := h 0 (by omega)
  have h1 := h 1 (by omega)
  have h2 := h 2 (by omega)
  have h3 := h 3 (by omega)
  have h4 := h 4 (by omega)
  have h5 := h 5 (by omega)
  have h6 := h 6 (by omega)
  unfold namedL
  rw [if_neg (fun e => h0 e.symm), if_neg (fun e => h1 e.symm), if_neg (fun e => h2 e.symm), if_neg (fun e => h3 e.symm), if_neg (fun e => h4 e.symm), if_neg (fun e => h5 e.symm), if_neg (fun e => h6 e.symm)]
set_option maxHeartbeats 1000000 in
theorem c_ref7Parse (s : List UInt8) (hs : s.length ≤ 1000000) : AOk Tryz.prog 64 [str s] H (.tup [exAV (cronK s).1, .sc (.int .i64 (cronK s).2)]) H := by
  rcases prefix64 s with ⟨hp, hnp⟩ | ⟨hp, h0, h64⟩
  · have h := c_ref7Plain (H := H) s hs hnp
    have e : cronK s = if 400 < s.length then (ex0, 3) else cronB s := by unfold cronK; rw [hp]; rfl
    rw [e]; exact h
  · by_cases hl : 400 < s.length
    · have hl' : (400 : Int) < s.length := by omega
      have e : cronK s = (ex0, 3) := by unfold cronK; rw [if_pos hl]
      rw [e]
      refine ACalls.into Tryz.func64 rfl Tryz.ntmps64 Tryz.results64 (by simp) ?_
      simp -implicitDefEqProofs [ex0, f0]
      refine AAlloc.intro fun b2 h2 => ?_
      simp -implicitDefEqProofs [hl, hl']
      exact HWk.new h2 (HWk.refl _)
    · have hl' : ¬ (400 : Int) < s.length := by omega
      have h0' : (0 : Int) < s.length := by omega
      have h64' : (s[0].toNat : Int) = 64 := by omega
      refine ACalls.into Tryz.func64 rfl Tryz.ntmps64 Tryz.results64 (by simp) ?_
      simp -implicitDefEqProofs
      refine AAlloc.intro fun b2 h2 => ?_
      simp -implicitDefEqProofs [hl, hl', h0, h0', h64, h64']
      generalize hK : Heap.set _ b2 _ = K0
      have k2 : K0 b2 = some (.cells (exC ex0) 42) := by rw [← hK]; simp [Heap.set, ex0, f0]
      have kW : HWk H K0 := by rw [← hK]; exact HWk.new h2 (HWk.refl _)
      clear hK h64 h64'
      refine ACall.eq c_refNames ?_
      simp -implicitDefEqProofs
      refine AGo.rounds (fun m ρ K => ∃ q : Nat, q ≤ 7 ∧ m = 7 - q ∧ ρ 0 = str s ∧ ρ 2 = .sc (.pointer (some ⟨b2, 0, none⟩)) ∧ ρ 4 = .sl (strL nmL) .no ∧ ρ 5 = .sc (.int .i64 (2 * q : Nat)) ∧ (∀ q', q' < q → nmL.getD (2 * q') [] ≠ s) ∧ K = K0) ?_ (m := 7) (HLe.refl _)
        ⟨0, by omega, rfl, by simp, by simp, by simp, by simp, fun q' hq => by omega, rfl⟩
      rintro m ρ K ih ⟨q, hq, rfl, r0, r2, r4, r5, hne, rfl⟩
      have hc : q = 0 ∨ q = 1 ∨ q = 2 ∨ q = 3 ∨ q = 4 ∨ q = 5 ∨ q = 6 ∨ q = 7 := by omega
      rcases hc with rfl | rfl | rfl | rfl | rfl | rfl | rfl | rfl
      · skip
        by_cases hs : nHourly = s
        · subst hs
          have e : cronK nHourly = cronB xHourly := cronK_name (by decide) (by decide) (by decide)
          have hpl := c_ref7Plain (H := K) xHourly (by decide) (.inr ⟨by decide, by decide⟩)
          rw [if_neg (by decide)] at hpl
          rw [e]
          simp -implicitDefEqProofs [r0, r2, r4, r5, nmL, wrap_i64]
          refine ACall.eq hpl ?_
          simp -implicitDefEqProofs [r2, k2]
          exact HWk.new h2 kW
        · have hb : (nHourly == s) = false := by simpa using hs
          simp -implicitDefEqProofs [r0, r2, r4, r5, nmL, hb, wrap_i64]
          exact AGo.again ih (m' := 6) (by omega) (HLe.refl _) ⟨1, by omega, rfl, by simp [r0], by simp [r2], by simp [r4, nmL], by simp, lt_succ_all (P := fun q : Nat => nmL.getD (2 * q) [] ≠ s) hne hs, rfl⟩
      · skip
        by_cases hs : nDaily = s
        · subst hs
          have e : cronK nDaily = cronB xDaily := cronK_name (by decide) (by decide) (by decide)
          have hpl := c_ref7Plain (H := K) xDaily (by decide) (.inr ⟨by decide, by decide⟩)
          rw [if_neg (by decide)] at hpl
          rw [e]
          simp -implicitDefEqProofs [r0, r2, r4, r5, nmL, wrap_i64]
          refine ACall.eq hpl ?_
          simp -implicitDefEqProofs [r2, k2]
          exact HWk.new h2 kW
        · have hb : (nDaily == s) = false := by simpa using hs
          simp -implicitDefEqProofs [r0, r2, r4, r5, nmL, hb, wrap_i64]
          exact AGo.again ih (m' := 5) (by omega) (HLe.refl _) ⟨2, by omega, rfl, by simp [r0], by simp [r2], by simp [r4, nmL], by simp, lt_succ_all (P := fun q : Nat => nmL.getD (2 * q) [] ≠ s) hne hs, rfl⟩
      · skip
        by_cases hs : nMidnight = s
        · subst hs
          have e : cronK nMidnight = cronB xDaily := cronK_name (by decide) (by decide) (by decide)
          have hpl := c_ref7Plain (H := K) xDaily (by decide) (.inr ⟨by decide, by decide⟩)
          rw [if_neg (by decide)] at hpl
          rw [e]
          simp -implicitDefEqProofs [r0, r2, r4, r5, nmL, wrap_i64]
          refine ACall.eq hpl ?_
          simp -implicitDefEqProofs [r2, k2]
          exact HWk.new h2 kW
        · have hb : (nMidnight == s) = false := by simpa using hs
          simp -implicitDefEqProofs [r0, r2, r4, r5, nmL, hb, wrap_i64]
          exact AGo.again ih (m' := 4) (by omega) (HLe.refl _) ⟨3, by omega, rfl, by simp [r0], by simp [r2], by simp [r4, nmL], by simp, lt_succ_all (P := fun q : Nat => nmL.getD (2 * q) [] ≠ s) hne hs, rfl⟩
      · skip
        by_cases hs : nWeekly = s
        · subst hs
          have e : cronK nWeekly = cronB xWeekly := cronK_name (by decide) (by decide) (by decide)
          have hpl := c_ref7Plain (H := K) xWeekly (by decide) (.inr ⟨by decide, by decide⟩)
          rw [if_neg (by decide)] at hpl
          rw [e]
          simp -implicitDefEqProofs [r0, r2, r4, r5, nmL, wrap_i64]
          refine ACall.eq hpl ?_
          simp -implicitDefEqProofs [r2, k2]
          exact HWk.new h2 kW
        · have hb : (nWeekly == s) = false := by simpa using hs
          simp -implicitDefEqProofs [r0, r2, r4, r5, nmL, hb, wrap_i64]
          exact AGo.again ih (m' := 3) (by omega) (HLe.refl _) ⟨4, by omega, rfl, by simp [r0], by simp [r2], by simp [r4, nmL], by simp, lt_succ_all (P := fun q : Nat => nmL.getD (2 * q) [] ≠ s) hne hs, rfl⟩
      · skip
        by_cases hs : nMonthly = s
        · subst hs
          have e : cronK nMonthly = cronB xMonthly := cronK_name (by decide) (by decide) (by decide)
          have hpl := c_ref7Plain (H := K) xMonthly (by decide) (.inr ⟨by decide, by decide⟩)
          rw [if_neg (by decide)] at hpl
          rw [e]
          simp -implicitDefEqProofs [r0, r2, r4, r5, nmL, wrap_i64]
          refine ACall.eq hpl ?_
          simp -implicitDefEqProofs [r2, k2]
          exact HWk.new h2 kW
        · have hb : (nMonthly == s) = false := by simpa using hs
          simp -implicitDefEqProofs [r0, r2, r4, r5, nmL, hb, wrap_i64]
          exact AGo.again ih (m' := 2) (by omega) (HLe.refl _) ⟨5, by omega, rfl, by simp [r0], by simp [r2], by simp [r4, nmL], by simp, lt_succ_all (P := fun q : Nat => nmL.getD (2 * q) [] ≠ s) hne hs, rfl⟩
      · skip
        by_cases hs : nYearly = s
        · subst hs
          have e : cronK nYearly = cronB xYearly := cronK_name (by decide) (by decide) (by decide)
          have hpl := c_ref7Plain (H := K) xYearly (by decide) (.inr ⟨by decide, by decide⟩)
          rw [if_neg (by decide)] at hpl
          rw [e]
          simp -implicitDefEqProofs [r0, r2, r4, r5, nmL, wrap_i64]
          refine ACall.eq hpl ?_
          simp -implicitDefEqProofs [r2, k2]
          exact HWk.new h2 kW
        · have hb : (nYearly == s) = false := by simpa using hs
          simp -implicitDefEqProofs [r0, r2, r4, r5, nmL, hb, wrap_i64]
          exact AGo.again ih (m' := 1) (by omega) (HLe.refl _) ⟨6, by omega, rfl, by simp [r0], by simp [r2], by simp [r4, nmL], by simp, lt_succ_all (P := fun q : Nat => nmL.getD (2 * q) [] ≠ s) hne hs, rfl⟩
      · skip
        by_cases hs : nAnnually = s
        · subst hs
          have e : cronK nAnnually = cronB xYearly := cronK_name (by decide) (by decide) (by decide)
          have hpl := c_ref7Plain (H := K) xYearly (by decide) (.inr ⟨by decide, by decide⟩)
          rw [if_neg (by decide)] at hpl
          rw [e]
          simp -implicitDefEqProofs [r0, r2, r4, r5, nmL, wrap_i64]
          refine ACall.eq hpl ?_
          simp -implicitDefEqProofs [r2, k2]
          exact HWk.new h2 kW
        · have hb : (nAnnually == s) = false := by simpa using hs
          simp -implicitDefEqProofs [r0, r2, r4, r5, nmL, hb, wrap_i64]
          exact AGo.again ih (m' := 0) (by omega) (HLe.refl _) ⟨7, by omega, rfl, by simp [r0], by simp [r2], by simp [r4, nmL], by simp, lt_succ_all (P := fun q : Nat => nmL.getD (2 * q) [] ≠ s) hne hs, rfl⟩
      · have e : cronK s = (ex0, 70) := by
          unfold cronK
          rw [if_neg hl, if_pos hp, namedL_none hne]
          rfl
        rw [e]
        simp -implicitDefEqProofs [r4, r5, r2, nmL, k2, ex0, f0]
        exact HWk.new h2 kW
end Go.Proofs.YtmoncokklkiikaaGreatDoor
namespace Go.Proofs.YtmoncokklkiikaaGreatDoor
open Rg Go
variable {H : Heap}
theorem c_ref7May (x : Ex) (hx : x.ok) : AOk Tryz.prog 30 [exAV x] H (.sc (.bool (mayX x))) H := by
  refine ACalls.into Tryz.func30 rfl Tryz.ntmps30 Tryz.results30 (by simp) ?_
  simp -implicitDefEqProofs
  refine AAlloc.intro fun b1 h1 => ?_
  simp -implicitDefEqProofs
  generalize hK : Heap.set _ b1 _ = K0
  have k1 : K0 b1 = some (.cells (exC x) 42) := by rw [← hK]; simp [Heap.set]
  have kW : HWk H K0 := by rw [← hK]; exact HWk.new h1 (HWk.refl _)
  clear hK
  refine AGo.rounds (fun m ρ K => ∃ j : Nat, j ≤ 5 ∧ m = 5 - j ∧ ρ 1 = .sc (.pointer (some ⟨b1, 0, none⟩)) ∧ ρ 3 = .sc (.int .i64 j) ∧ (∀ i, i < j → mayB (i : Int) (x.get i).bits = true) ∧ K = K0) ?_ (m := 5) (HLe.refl _)
    ⟨0, by omega, rfl, by simp, by simp, fun i hi => by omega, rfl⟩
  rintro m ρ K ih ⟨j, hj, rfl, r1, r3, hm, rfl⟩
  have hc : j = 0 ∨ j = 1 ∨ j = 2 ∨ j = 3 ∨ j = 4 ∨ j = 5 := by omega
  rcases hc with rfl | rfl | rfl | rfl | rfl | rfl
  · simp -implicitDefEqProofs [r1, r3, k1]
    refine ACall.eq (c_refMay 0 x.a hx.a) ?_
    cases he : mayB 0 x.a.bits with
    | false => simp -implicitDefEqProofs [mayX, he]; exact kW
    | true =>
      simp -implicitDefEqProofs [r3, wrap_i64]
      exact AGo.again ih (m' := 4) (by omega) (HLe.refl _) ⟨1, by omega, rfl, by simp [r1], by simp, lt_succ_all (P := fun i : Nat => mayB (i : Int) (x.get i).bits = true) hm he, rfl⟩
  · simp -implicitDefEqProofs [r1, r3, k1]
    refine ACall.eq (c_refMay 1 x.b hx.b) ?_
    cases he : mayB 1 x.b.bits with
    | false => simp -implicitDefEqProofs [mayX, he]; exact kW
    | true =>
      simp -implicitDefEqProofs [r3, wrap_i64]
      exact AGo.again ih (m' := 3) (by omega) (HLe.refl _) ⟨2, by omega, rfl, by simp [r1], by simp, lt_succ_all (P := fun i : Nat => mayB (i : Int) (x.get i).bits = true) hm he, rfl⟩
  · simp -implicitDefEqProofs [r1, r3, k1]
    refine ACall.eq (c_refMay 2 x.c hx.c) ?_
    cases he : mayB 2 x.c.bits with
    | false => simp -implicitDefEqProofs [mayX, he]; exact kW
    | true =>
      simp -implicitDefEqProofs [r3, wrap_i64]
      exact AGo.again ih (m' := 2) (by omega) (HLe.refl _) ⟨3, by omega, rfl, by simp [r1], by simp, lt_succ_all (P := fun i : Nat => mayB (i : Int) (x.get i).bits = true) hm he, rfl⟩
  · simp -implicitDefEqProofs [r1, r3, k1]
    refine ACall.eq (c_refMay 3 x.d hx.d) ?_
    cases he : mayB 3 x.d.bits with
    | false => simp -implicitDefEqProofs [mayX, he]; exact kW
    | true =>
      simp -implicitDefEqProofs [r3, wrap_i64]
      exact AGo.again ih (m' := 1) (by omega) (HLe.refl _) ⟨4, by omega, rfl, by simp [r1], by simp, lt_succ_all (P := fun i : Nat => mayB (i : Int) (x.get i).bits = true) hm he, rfl⟩
  · simp -implicitDefEqProofs [r1, r3, k1]
    refine ACall.eq (c_refMay 4 x.e hx.e) ?_
    cases he : mayB 4 x.e.bits with
    | false => simp -implicitDefEqProofs [mayX, he]; exact kW
    | true =>
      simp -implicitDefEqProofs [r3, wrap_i64]
      exact AGo.again ih (m' := 0) (by omega) (HLe.refl _) ⟨5, by omega, rfl, by simp [r1], by simp, lt_succ_all (P := fun i : Nat => mayB (i : Int) (x.get i).bits = true) hm he, rfl⟩
  · have g0 : mayB 0 x.a.bits = true := hm 0 (by omega)
    have g1 : mayB 1 x.b.bits = true := hm 1 (by omega)
    have g2 : mayB 2 x.c.bits = true := hm 2 (by omega)
    have g3 : mayB 3 x.d.bits = true := hm 3 (by omega)
    have g4 : mayB 4 x.e.bits = true := hm 4 (by omega)
    simp -implicitDefEqProofs [r1, r3, mayX, g0, g1, g2, g3, g4]
    exact kW
end Go.Proofs.YtmoncokklkiikaaGreatDoor
namespace Go.Proofs.YtmoncokklkiikaaGreatDoor
open Rg Go
variable {H : Heap}
end Go.Proofs.YtmoncokklkiikaaGreatDoor
namespace Go.Proofs.YtmoncokklkiikaaGreatDoor
open Rg Go
theorem byc {p : Prop} [Decidable p] (h : ¬p → False) : p := Decidable.byContradiction h
theorem false_of {x : Ex} {k : Nat} (h : fireB x k = true → False) : fireB x k = false := by
  cases e : fireB x k with
  | false => rfl
  | true => exact absurd (h e) id
theorem bits_ok {x : Ex} (hx : x.ok) (hm : mayX x = true) : (∀ j, x.a.bits.testBit j = true → j ≤ 59) ∧ (∀ j, x.b.bits.testBit j = true → j ≤ 23) := by
  simp only [mayX, Bool.and_eq_true] at hm
  obtain ⟨⟨⟨⟨h0, h1⟩, h2⟩, h3⟩, h4⟩ := hm
  refine ⟨fun j hj => ?_, fun j hj => ?_⟩
  · have := (may_bits hx.a h0).2.2 j hj; simp [mostK] at this; omega
  · have := (may_bits hx.b h1).2.2 j hj; simp [mostK] at this; omega
theorem has_bit {b : Nat} {n : Nat} (h : n ≤ 63) : hasB b (n : Int) = b.testBit n := hasB_nat2 b n h
section
variable {x : Ex} {t n mm h m D : Nat}
end
def OutN (x : Ex) (t n mm : Nat) : Prop := mm ≤ 1439 ∧ n ≤ 157054 ∧ t < n * 86400 + mm * 60 ∧ ∀ k, t < k → k < n * 86400 + mm * 60 → fireB x k = false
def InN (x : Ex) (t n h mm : Nat) : Prop := mm ≤ 59 ∧ h ≤ 24 ∧ n < 157054 ∧ dayB x n = true ∧ t < n * 86400 + min (h * 3600 + mm * 60) 86400 ∧ ∀ k, t < k → k < n * 86400 + h * 3600 + mm * 60 → fireB x k = false
section
variable {x : Ex} {t n mm h m D : Nat}
theorem outN_init (ht : t < 13569465600) : OutN x t ((t / 60 * 60 + 60) / 86400) ((t / 60 * 60 + 60) % 86400 / 60) :=
  ⟨byc fun _ => by omega, byc fun _ => by omega, byc fun _ => by omega, fun k h1 h2 => false_of fun hf => by
    obtain ⟨n, h, m, g1, g2, g3, rfl, _⟩ := fire_inv (byc fun _ => by omega) hf
    omega⟩
theorem outN_end (hO : OutN x t 157054 mm) : IsNext x t none := fun k h1 h2 => hO.2.2.2 k h1 (byc fun _ => by omega)
theorem outN_month (hO : OutN x t n mm) (hn : n < 157054) (hb : hasB x.d.bits ((civ n).2.1 : Int) = false) : OutN x t (n + (mLong (civ n).1 (civ n).2.1 - (civ n).2.2) + 1) 0 := by
  obtain ⟨h1, h2, h3, h4⟩ := hO
  obtain ⟨c1, c2, c3, c4, c5, c6, c7, c8⟩ := civ_month (n := n) (byc fun _ => by omega)
  have c9 := (civ_same (n := n) (k := n + (mLong (civ n).1 (civ n).2.1 - (civ n).2.2)) (byc fun _ => by omega) (byc fun _ => by omega) (byc fun _ => by omega)).1
  refine ⟨byc fun _ => by omega, byc fun _ => by omega, byc fun _ => by omega, fun k g1 g2 => ?_⟩
  by_cases hk : k < n * 86400 + mm * 60
  · exact h4 k g1 hk
  · refine false_of fun hf => ?_
    obtain ⟨q, h, m, q1, q2, q3, rfl, q4, q5, _⟩ := fire_inv (byc fun _ => by omega) hf
    have := civ_same (n := n) (k := q) (byc fun _ => by omega) (byc fun _ => by omega) (byc fun _ => by omega)
    unfold dayB at q5
    rw [this.2, hb] at q5
    simp at q5
theorem outN_day (hO : OutN x t n mm) (hn : n < 157054) (hb : dayB x n = false) : OutN x t (n + 1) 0 := by
  obtain ⟨h1, h2, h3, h4⟩ := hO
  refine ⟨byc fun _ => by omega, byc fun _ => by omega, byc fun _ => by omega, fun k g1 g2 => ?_⟩
  by_cases hk : k < n * 86400 + mm * 60
  · exact h4 k g1 hk
  · refine false_of fun hf => ?_
    obtain ⟨q, h, m, q1, q2, q3, rfl, q4, q5, _⟩ := fire_inv (byc fun _ => by omega) hf
    obtain rfl : q = n := byc fun _ => by omega
    rw [hb] at q5; cases q5
theorem inN_init (hO : OutN x t n mm) (hn : n < 157054) (hb : dayB x n = true) : InN x t n (mm / 60) (mm % 60) := by
  obtain ⟨h1, h2, h3, h4⟩ := hO
  exact ⟨byc fun _ => by omega, byc fun _ => by omega, hn, hb, byc fun _ => by omega, fun k g1 g2 => h4 k g1 (byc fun _ => by omega)⟩
theorem inN_none (hI : InN x t n h mm) (hb : ∀ j : Nat, h ≤ j → hasB x.b.bits (j : Int) = false) : OutN x t (n + 1) 0 := by
  obtain ⟨h1, h2, h3, h4, h5, h6⟩ := hI
  refine ⟨byc fun _ => by omega, byc fun _ => by omega, byc fun _ => by omega, fun k g1 g2 => ?_⟩
  by_cases hk : k < n * 86400 + h * 3600 + mm * 60
  · exact h6 k g1 hk
  · refine false_of fun hf => ?_
    obtain ⟨q, h', m, q1, q2, q3, rfl, q4, q5, q6, q7⟩ := fire_inv (byc fun _ => by omega) hf
    rw [hb h' (byc fun _ => by omega)] at q7; cases q7
theorem inN_up {h' : Nat} (hI : InN x t n h mm) (hh : h < h') (hh' : h' ≤ 24) (hb : ∀ j : Nat, h ≤ j → j < h' → hasB x.b.bits (j : Int) = false) : InN x t n h' 0 := by
  obtain ⟨h1, h2, h3, h4, h5, h6⟩ := hI
  refine ⟨byc fun _ => by omega, byc fun _ => by omega, byc fun _ => by omega, h4, byc fun _ => by omega, fun k g1 g2 => ?_⟩
  by_cases hk : k < n * 86400 + h * 3600 + mm * 60
  · exact h6 k g1 hk
  · refine false_of fun hf => ?_
    obtain ⟨q, h'', m, q1, q2, q3, rfl, q4, q5, q6, q7⟩ := fire_inv (byc fun _ => by omega) hf
    rw [hb h'' (byc fun _ => by omega) (byc fun _ => by omega)] at q7; cases q7
theorem inN_found (hx : mayX x = true) (hI : InN x t n h mm) (hh : h < 24) (hb : hasB x.b.bits (h : Int) = true) (ha : hasB x.a.bits (m : Int) = true) (hm : mm ≤ m) (hm2 : m < 60) (hn : ∀ j : Nat, mm ≤ j → j < m → hasB x.a.bits (j : Int) = false) :
    IsNext x t (some (n * 86400 + h * 3600 + m * 60)) := by
  obtain ⟨h1, h2, h3, h4, h5, h6⟩ := hI
  refine ⟨byc fun _ => by omega, byc fun _ => by omega, fire_mk h3 (byc fun _ => by omega) (byc fun _ => by omega) hx h4 ha hb, fun k g1 g2 => ?_⟩
  by_cases hk : k < n * 86400 + h * 3600 + mm * 60
  · exact h6 k g1 hk
  · refine false_of fun hf => ?_
    obtain ⟨q, h'', m', q1, q2, q3, rfl, q4, q5, q6, q7⟩ := fire_inv (byc fun _ => by omega) hf
    rw [hn m' (byc fun _ => by omega) (byc fun _ => by omega)] at q6; cases q6
theorem inN_min (hI : InN x t n h mm) (hh : h < 24) (hn : ∀ j : Nat, mm ≤ j → hasB x.a.bits (j : Int) = false) : InN x t n (h + 1) 0 := by
  obtain ⟨h1, h2, h3, h4, h5, h6⟩ := hI
  refine ⟨byc fun _ => by omega, byc fun _ => by omega, byc fun _ => by omega, h4, byc fun _ => by omega, fun k g1 g2 => ?_⟩
  by_cases hk : k < n * 86400 + h * 3600 + mm * 60
  · exact h6 k g1 hk
  · refine false_of fun hf => ?_
    obtain ⟨q, h'', m', q1, q2, q3, rfl, q4, q5, q6, q7⟩ := fire_inv (byc fun _ => by omega) hf
    rw [hn m' (byc fun _ => by omega)] at q6; cases q6
end
end Go.Proofs.YtmoncokklkiikaaGreatDoor
