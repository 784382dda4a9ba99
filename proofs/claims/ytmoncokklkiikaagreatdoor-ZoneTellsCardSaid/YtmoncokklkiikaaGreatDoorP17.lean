/- Expressions: a text's. The document's parse of an expression. The document's parse of any expression. The document's expressions: which may be, which clocks fit. -/
import Derived.Test.YtmoncokklkiikaaGreatDoorP15
import Derived.Test.YtmoncokklkiikaaGreatDoorP16
import Derived.Test.YtmoncokklkiikaaGreatDoorP14
set_option linter.unusedSimpArgs false
set_option linter.unusedVariables false
set_option linter.unnecessarySimpa false
namespace Go.Proofs.YtmoncokklkiikaaGreatDoor
open Rg Go
variable {H : Heap}
def nHourly : List UInt8 := [64, 104, 111, 117, 114, 108, 121]
def nDaily : List UInt8 := [64, 100, 97, 105, 108, 121]
def nMidnight : List UInt8 := [64, 109, 105, 100, 110, 105, 103, 104, 116]
def nWeekly : List UInt8 := [64, 119, 101, 101, 107, 108, 121]
def nMonthly : List UInt8 := [64, 109, 111, 110, 116, 104, 108, 121]
def nYearly : List UInt8 := [64, 121, 101, 97, 114, 108, 121]
def nAnnually : List UInt8 := [64, 97, 110, 110, 117, 97, 108, 108, 121]
def xHourly : List UInt8 := [48, 32, 42, 32, 42, 32, 42, 32, 42]
def xDaily : List UInt8 := [48, 32, 48, 32, 42, 32, 42, 32, 42]
def xWeekly : List UInt8 := [48, 32, 48, 32, 42, 32, 42, 32, 48]
def xMonthly : List UInt8 := [48, 32, 48, 32, 49, 32, 42, 32, 42]
def xYearly : List UInt8 := [48, 32, 48, 32, 49, 32, 49, 32, 42]
def namedL (s : List UInt8) : List UInt8 :=
  if s = nHourly then xHourly else if s = nDaily then xDaily else if s = nMidnight then xDaily else if s = nWeekly then xWeekly else if s = nMonthly then xMonthly else if s = nYearly then xYearly else if s = nAnnually then xYearly else []
def Ex.set (x : Ex) (j : Nat) (f : Fld) : Ex :=
  match j with
  | 0 => { x with a := f }
  | 1 => { x with b := f }
  | 2 => { x with c := f }
  | 3 => { x with d := f }
  | _ => { x with e := f }
def goX : List (List UInt8) → Nat → Ex → Ex × Int
  | [], _, x => (x, 0)
  | p :: r, j, x => if (parseK (j : Int) p).2 ≠ 0 then (ex0, (parseK (j : Int) p).2) else goX r (j + 1) (x.set j (parseK (j : Int) p).1)
def cronB (s : List UInt8) : Ex × Int := if (sp 32 s).length ≠ 5 then (ex0, 70) else if [] ∈ sp 32 s then (ex0, 70) else goX (sp 32 s) 0 ex0
def cronK (s : List UInt8) : Ex × Int := if 400 < s.length then (ex0, 3) else cronB (if Lib.hasPrefix s [64] = true then namedL s else s)
end Go.Proofs.YtmoncokklkiikaaGreatDoor
namespace Go.Proofs.YtmoncokklkiikaaGreatDoor
open Rg Go
variable {H : Heap}
def nmL : List (List UInt8) := [nHourly, xHourly, nDaily, xDaily, nMidnight, xDaily, nWeekly, xWeekly, nMonthly, xMonthly, nYearly, xYearly, nAnnually, xYearly]
theorem c_refNames : AOk Tryz.prog 131 [] H (.sl (strL nmL) .no) H := by
  refine ACalls.into Tryz.func131 rfl Tryz.ntmps131 Tryz.results131 (by simp) ?_
  simp -implicitDefEqProofs [nmL, nHourly, xHourly, nDaily, xDaily, nMidnight, xDaily, nWeekly, xWeekly, nMonthly, xMonthly, nYearly, xYearly, nAnnually, xYearly]
theorem cronB_nil {s : List UInt8} (h : [] ∈ sp 32 s) : cronB s = (ex0, 70) := by
  unfold cronB
  split
  · rfl
  · rfl
theorem cronB_len {s : List UInt8} (h : (sp 32 s).length ≠ 5) : cronB s = (ex0, 70) := by
  unfold cronB
  rw [if_pos h]
set_option maxHeartbeats 1000000 in
theorem c_ref7Plain (s : List UInt8) (hs : s.length ≤ 1000000) (hnp : ¬ 0 < s.length ∨ ∃ h : 0 < s.length, ¬ s[0].toNat = 64) : AOk Tryz.prog 64 [str s] H (.tup [exAV (if 400 < s.length then (ex0, 3) else cronB s).1, .sc (.int .i64 (if 400 < s.length then (ex0, 3) else cronB s).2)]) H := by
  refine ACalls.into Tryz.func64 rfl Tryz.ntmps64 Tryz.results64 (by simp) ?_
  by_cases hl : 400 < s.length
  · have hl' : (400 : Int) < s.length := by omega
    rw [if_pos hl]
    simp -implicitDefEqProofs [ex0, f0]
    refine AAlloc.intro fun b2 h2 => ?_
    simp -implicitDefEqProofs [hl']
    exact HWk.new h2 (HWk.refl _)
  · have hl' : ¬ (400 : Int) < s.length := by omega
    rw [if_neg hl]
    obtain ⟨res, hres⟩ : ∃ res, cronB s = res := ⟨_, rfl⟩
    have hL := split_length s [32] (by decide)
    rw [split_sp] at hL
    have hm : ∀ x ∈ sp 32 s, x.length ≤ 1000000 := fun x hx => Nat.le_trans (sp_len _ _ x hx) hs
    have hnil : [] ∈ sp 32 s → res = (ex0, 70) := fun h => by rw [← hres]; exact cronB_nil h
    have h5n : (sp 32 s).length ≠ 5 → res = (ex0, 70) := fun h => by rw [← hres]; exact cronB_len h
    rw [hres]
    simp -implicitDefEqProofs
    refine AAlloc.intro fun b2 h2 => ?_
    have c0 : (¬ 0 < s.length ∧ ¬ (0 : Int) < s.length) ∨ (∃ h : 0 < s.length, (0 : Int) < s.length ∧ ¬ s[0].toNat = 64 ∧ ¬ (s[0].toNat : Int) = 64) := by
      rcases hnp with h | ⟨h, h2⟩
      · exact .inl ⟨h, by omega⟩
      · exact .inr ⟨h, by omega, h2, by omega⟩
    rcases c0 with ⟨c0, c0'⟩ | ⟨c0, c0', c1, c1'⟩
    · simp -implicitDefEqProofs [hl', c0]
      generalize hK : Heap.set _ b2 _ = K0
      have k20 : K0 b2 = some (.cells (exC ex0) 42) := by rw [← hK]; simp [Heap.set, ex0, f0]
      have kW0 : HWk H K0 := by rw [← hK]; exact HWk.new h2 (HWk.refl _)
      clear hK
      refine AGo.joinLoop (fun ρ K => ∃ t K', ρ 2 = .sc (.pointer (some ⟨b2, 0, none⟩)) ∧ ρ 6 = .sl (strL (sp 32 s)) t ∧ Grows K0 (strL (sp 32 s)) 1 9 t K' ∧ HLe K' K ∧ [] ∉ sp 32 s) (fun k' hk' => ?_) ?_
      · refine AGo.rounds (fun m ρ K => ∃ (a i : Nat) (out : List (List UInt8)) (t : Tok), m = s.length + 2 - i ∧ i ≤ s.length + 1 ∧ ρ 0 = str s ∧ ρ 2 = .sc (.pointer (some ⟨b2, 0, none⟩)) ∧ ρ 6 = .sl (strL out) t ∧ ρ 7 = .sc (.int .i64 a) ∧ ρ 8 = .sc (.int .i64 i) ∧
          [] ∉ out ∧ out.length ≤ a ∧ a ≤ s.length + 1 ∧ Grows K0 (strL out) 1 9 t K ∧ ((a ≤ i ∧ i ≤ s.length ∧ out ++ sp 32 (s.drop a) = sp 32 s ∧ 32 ∉ (s.drop a).take (i - a)) ∨ (i = s.length + 1 ∧ out = sp 32 s))) ?_ (m := s.length + 2) (HLe.refl _)
          ⟨0, 0, [], .nil, by omega, by omega, by simp, by simp, by simp, by simp, by simp, by simp, by simp, by omega, Grows.zero, .inl ⟨by omega, by omega, by simp, by simp⟩⟩
        rintro m ρ K ih ⟨a, i, out, t, rfl, hi1, r0, r2, r6, r7, r8, hno, hol, ha1, hg, hor⟩
        rcases hor with ⟨hai, hi, hsp, hnot⟩ | ⟨hi, hout⟩
        · have hle' : (i : Int) ≤ s.length := by omega
          have hwi : IntKind.i64.wrap ((i : Int) + 1) = ((i + 1 : Nat) : Int) := by rw [wrap_i64 (by omega) (by omega)]; push_cast; rfl
          have kb2 : K b2 = some (.cells (exC ex0) 42) := hg.le b2 _ k20
          have kWg : HWk H K := kW0.trans hg.le.wk
          by_cases hlt : i < s.length
          · have hne : ¬ i = s.length := by omega
            have hne' : ¬ (i : Int) = s.length := by omega
            have hd : (s.drop a).drop (i - a) = s[i] :: s.drop (i + 1) := by
              rw [List.drop_drop, show a + (i - a) = i by omega, List.drop_eq_getElem_cons hlt]
            have hsplit : s.drop a = (s.drop a).take (i - a) ++ s[i] :: s.drop (i + 1) := by rw [← hd, List.take_append_drop]
            by_cases hc : s[i] = 32
            · have hc' : s[i].toNat = 32 := by rw [hc]; rfl
              have hcut0 : sp 32 (s.drop a) = (s.drop a).take (i - a) :: sp 32 (s.drop (i + 1)) := by
                have e := hsplit
                rw [hc] at e
                generalize (s.drop a).take (i - a) = pc at e hnot ⊢
                rw [e, sp_app, sp_not hnot]
                rfl
              have hcut : sp 32 s = out ++ ((s.drop a).take (i - a) :: sp 32 (s.drop (i + 1))) := by rw [← hsp, hcut0]
              by_cases hia : i = a
              · have hr := hnil (by rw [hcut, hia]; simp)
                subst hr
                subst hia
                simp -implicitDefEqProofs [r0, r2, r7, r8, hle', hlt, hne', hc', kb2, ex0, f0]
                exact HWk.new h2 kWg
              · have hia' : ¬ (i : Int) = a := by omega
                have hai' : (a : Int) ≤ i := by omega
                have hcur : (s.drop a).take (i - a) = (s.take i).drop a := by rw [List.drop_take]
                have hcn : ¬ ((s.take i).drop a = []) := by
                  rw [← hcur]
                  intro h
                  have := congrArg List.length h
                  simp at this
                  omega
                simp -implicitDefEqProofs [r0, r6, r7, r8, hle', hlt, hne', hc', hia', hai']
                refine AApp.grows el_89 hg (HLe.refl _) (by simp) (szs_strs _) (by simp [szs, AV.cells]) (by simp; omega) (by simp [maxLen]; omega) fun t' K' Hn hg' hl' => ?_
                simp -implicitDefEqProofs [r8, hwi]
                refine AGo.again ih (m' := s.length + 2 - (i + 1)) (by omega) hl' ⟨i + 1, i + 1, out ++ [(s.take i).drop a], t', rfl, by omega, by simp [r0], by simp [r2], by simp, by simp, by simp, ?_, by simp; omega, by omega, by simpa using hg', .inl ⟨by omega, by omega, ?_, by simp⟩⟩
                · simp only [List.mem_append, List.mem_singleton, not_or]
                  exact ⟨hno, fun h => hcn h.symm⟩
                · rw [hcut, hcur]; simp
            · have hc' : ¬ s[i].toNat = 32 := fun h => hc (UInt8.toNat_inj.1 (by rw [h]; rfl))
              have hc2 : ¬ (s[i].toNat : Int) = 32 := by omega
              simp -implicitDefEqProofs [r0, r8, hle', hlt, hne', hc2, hwi]
              refine AGo.again ih (m' := s.length + 2 - (i + 1)) (by omega) (HLe.refl _) ⟨a, i + 1, out, t, rfl, by omega, by simp [r0], by simp [r2], by simp [r6], by simp [r7], by simp, hno, hol, ha1, hg, .inl ⟨by omega, by omega, hsp, ?_⟩⟩
              rw [show i + 1 - a = (i - a) + 1 by omega, List.take_add_one]
              have he : (s.drop a)[i - a]? = some s[i] := by rw [List.getElem?_drop, show a + (i - a) = i by omega, List.getElem?_eq_getElem hlt]
              rw [he]
              simp only [Option.toList_some, List.mem_append, List.mem_singleton, not_or]
              exact ⟨hnot, fun h => hc h.symm⟩
          · obtain rfl : i = s.length := by omega
            have hnot' : 32 ∉ s.drop a := by rw [List.take_of_length_le (by simp)] at hnot; exact hnot
            have hcut : sp 32 s = out ++ [s.drop a] := by rw [← hsp, sp_not hnot']
            by_cases hia : s.length = a
            · have hr := hnil (by rw [hcut, ← hia]; simp)
              subst hr
              have hia' : (s.length : Int) = a := by omega
              simp -implicitDefEqProofs [r0, r2, r7, r8, hia, kb2, ex0, f0]
              exact HWk.new h2 kWg
            · have hia' : ¬ (s.length : Int) = a := by omega
              have hai' : (a : Int) ≤ s.length := by omega
              have hcn : ¬ (s.drop a = []) := by
                intro h
                have := congrArg List.length h
                simp at this
                omega
              simp -implicitDefEqProofs [r0, r6, r7, r8, hia', hai']
              refine AApp.grows el_89 hg (HLe.refl _) (by simp) (szs_strs _) (by simp [szs, AV.cells]) (by simp; omega) (by simp [maxLen]; omega) fun t' K' Hn hg' hl' => ?_
              simp -implicitDefEqProofs [r8, hwi]
              refine AGo.again ih (m' := 1) (by omega) hl' ⟨s.length + 1, s.length + 1, out ++ [s.drop a], t', by omega, by omega, by simp [r0], by simp [r2], by simp, by simp, by simp, ?_, by simp; omega, by omega, by simpa using hg', .inr ⟨rfl, hcut.symm⟩⟩
              simp only [List.mem_append, List.mem_singleton, not_or]
              exact ⟨hno, fun h => hcn h.symm⟩
        · subst hout
          have hle' : ¬ (i : Int) ≤ s.length := by omega
          have hle2 : ¬ i ≤ s.length := by omega
          simp -implicitDefEqProofs [r0, r8, hle']
          exact hk' _ _ ⟨t, K, by simp [r2], by simp [r6], hg, HLe.refl _, hno⟩
      · rintro ρ K ⟨t, K', r2, r6, hg, hle, hnin⟩
        have k2 : K b2 = some (.cells (exC ex0) 42) := hle _ _ (hg.le b2 _ k20)
        have kW : HWk H K := kW0.trans (hg.le.trans hle).wk
        clear hg hle k20 kW0
        by_cases h5 : (sp 32 s).length = 5
        · unfold cronB at hres
          rw [if_neg (by omega), if_neg hnin] at hres
          generalize sp 32 s = L at *
          have h5' : (L.length : Int) = 5 := by omega
          simp -implicitDefEqProofs [r6, h5]
          refine AAlloc.intro fun b7 h7 => ?_
          have n72 : b7 ≠ b2 := by intro e; subst e; rw [k2] at h7; cases h7
          have n27 := n72.symm
          have e7 : H b7 = none := kW.none h7
          simp -implicitDefEqProofs
          generalize hK : Heap.set _ b7 _ = K3
          have k7 : K3 b7 = some (.cells (exC ex0) 42) := by rw [← hK]; simp [Heap.set, ex0, f0]
          have k2' : K3 b2 = some (.cells (exC ex0) 42) := by rw [← hK]; simp [Heap.set, n27, k2]
          have kW' : HWk H K3 := by rw [← hK]; exact HWk.new e7 kW
          clear hK h7 k2 kW
          refine AGo.rounds (fun m ρ K2 => ∃ (j : Nat) (x : Ex), j ≤ 5 ∧ m = 5 - j ∧ ρ 2 = .sc (.pointer (some ⟨b2, 0, none⟩)) ∧ ρ 6 = .sl (strL L) t ∧ ρ 9 = .sc (.pointer (some ⟨b7, 0, none⟩)) ∧ ρ 10 = .sc (.int .i64 j) ∧ goX (L.drop j) j x = res ∧
            K2 b2 = some (.cells (exC ex0) 42) ∧ K2 b7 = some (.cells (exC x) 42) ∧ HWk H K2) ?_ (m := 5) (HLe.refl _)
            ⟨0, ex0, by omega, rfl, by simp [r2], by simp [r6], by simp, by simp, by simpa using hres, k2', k7, kW'⟩
          clear k7 k2' kW' r2 r6
          rintro m ρ K2 ih ⟨j, x, hj, rfl, r2, r6, r9, r10, hgo, k2, k7, kW⟩
          have hc : j = 0 ∨ j = 1 ∨ j = 2 ∨ j = 3 ∨ j = 4 ∨ j = 5 := by omega
          rcases hc with rfl | rfl | rfl | rfl | rfl | rfl
          · have hlj : 0 < L.length := by omega
            have hdrop : L.drop 0 = L[0] :: L.drop (0 + 1) := List.drop_eq_getElem_cons hlj
            simp -implicitDefEqProofs [r6, r10, hlj]
            refine ACall.eq (c_refParse (0 : Nat) L[0] (hm _ (List.getElem_mem (by omega)))) ?_
            simp -implicitDefEqProofs [fAV]
            refine AAlloc.intro fun b10 h10 => ?_
            have n107 : b10 ≠ b7 := by intro e; subst e; rw [k7] at h10; cases h10
            have n102 : b10 ≠ b2 := by intro e; subst e; rw [k2] at h10; cases h10
            have n710 := n107.symm
            have n210 := n102.symm
            have e10 : H b10 = none := kW.none h10
            rw [hdrop, goX] at hgo
            generalize parseK (0 : Nat) L[0] = pr at *
            obtain ⟨f, er⟩ := pr
            simp only at hgo ⊢
            by_cases he : er = 0
            · rw [if_neg (by simp [he])] at hgo
              simp -implicitDefEqProofs [n710, he, r9, r10, k7, wrap_i64]
              refine AGo.again ih (m' := 4) (by omega) (HLe.refl _) ⟨1, x.set 0 f, by omega, rfl, by simp [r2], by simp [r6], by simp [r9], by simp, hgo, ?_, ?_, ?_⟩
              · simp [Heap.set, n210, n72.symm, k2]
              · simp [Heap.set, Ex.set]
              · repeat (first | exact kW | refine HWk.new (by assumption) ?_)
            · rw [if_pos he] at hgo
              subst hgo
              simp -implicitDefEqProofs [n210, he, r2, k2, ex0, f0]
              repeat (first | exact kW | refine HWk.new (by assumption) ?_)
          · have hlj : 1 < L.length := by omega
            have hdrop : L.drop 1 = L[1] :: L.drop (1 + 1) := List.drop_eq_getElem_cons hlj
            simp -implicitDefEqProofs [r6, r10, hlj]
            refine ACall.eq (c_refParse (1 : Nat) L[1] (hm _ (List.getElem_mem (by omega)))) ?_
            simp -implicitDefEqProofs [fAV]
            refine AAlloc.intro fun b10 h10 => ?_
            have n107 : b10 ≠ b7 := by intro e; subst e; rw [k7] at h10; cases h10
            have n102 : b10 ≠ b2 := by intro e; subst e; rw [k2] at h10; cases h10
            have n710 := n107.symm
            have n210 := n102.symm
            have e10 : H b10 = none := kW.none h10
            rw [hdrop, goX] at hgo
            generalize parseK (1 : Nat) L[1] = pr at *
            obtain ⟨f, er⟩ := pr
            simp only at hgo ⊢
            by_cases he : er = 0
            · rw [if_neg (by simp [he])] at hgo
              simp -implicitDefEqProofs [n710, he, r9, r10, k7, wrap_i64]
              refine AGo.again ih (m' := 3) (by omega) (HLe.refl _) ⟨2, x.set 1 f, by omega, rfl, by simp [r2], by simp [r6], by simp [r9], by simp, hgo, ?_, ?_, ?_⟩
              · simp [Heap.set, n210, n72.symm, k2]
              · simp [Heap.set, Ex.set]
              · repeat (first | exact kW | refine HWk.new (by assumption) ?_)
            · rw [if_pos he] at hgo
              subst hgo
              simp -implicitDefEqProofs [n210, he, r2, k2, ex0, f0]
              repeat (first | exact kW | refine HWk.new (by assumption) ?_)
          · have hlj : 2 < L.length := by omega
            have hdrop : L.drop 2 = L[2] :: L.drop (2 + 1) := List.drop_eq_getElem_cons hlj
            simp -implicitDefEqProofs [r6, r10, hlj]
            refine ACall.eq (c_refParse (2 : Nat) L[2] (hm _ (List.getElem_mem (by omega)))) ?_
            simp -implicitDefEqProofs [fAV]
            refine AAlloc.intro fun b10 h10 => ?_
            have n107 : b10 ≠ b7 := by intro e; subst e; rw [k7] at h10; cases h10
            have n102 : b10 ≠ b2 := by intro e; subst e; rw [k2] at h10; cases h10
            have n710 := n107.symm
            have n210 := n102.symm
            have e10 : H b10 = none := kW.none h10
            rw [hdrop, goX] at hgo
            generalize parseK (2 : Nat) L[2] = pr at *
            obtain ⟨f, er⟩ := pr
            simp only at hgo ⊢
            by_cases he : er = 0
            · rw [if_neg (by simp [he])] at hgo
              simp -implicitDefEqProofs [n710, he, r9, r10, k7, wrap_i64]
              refine AGo.again ih (m' := 2) (by omega) (HLe.refl _) ⟨3, x.set 2 f, by omega, rfl, by simp [r2], by simp [r6], by simp [r9], by simp, hgo, ?_, ?_, ?_⟩
              · simp [Heap.set, n210, n72.symm, k2]
              · simp [Heap.set, Ex.set]
              · repeat (first | exact kW | refine HWk.new (by assumption) ?_)
            · rw [if_pos he] at hgo
              subst hgo
              simp -implicitDefEqProofs [n210, he, r2, k2, ex0, f0]
              repeat (first | exact kW | refine HWk.new (by assumption) ?_)
          · have hlj : 3 < L.length := by omega
            have hdrop : L.drop 3 = L[3] :: L.drop (3 + 1) := List.drop_eq_getElem_cons hlj
            simp -implicitDefEqProofs [r6, r10, hlj]
            refine ACall.eq (c_refParse (3 : Nat) L[3] (hm _ (List.getElem_mem (by omega)))) ?_
            simp -implicitDefEqProofs [fAV]
            refine AAlloc.intro fun b10 h10 => ?_
            have n107 : b10 ≠ b7 := by intro e; subst e; rw [k7] at h10; cases h10
            have n102 : b10 ≠ b2 := by intro e; subst e; rw [k2] at h10; cases h10
            have n710 := n107.symm
            have n210 := n102.symm
            have e10 : H b10 = none := kW.none h10
            rw [hdrop, goX] at hgo
            generalize parseK (3 : Nat) L[3] = pr at *
            obtain ⟨f, er⟩ := pr
            simp only at hgo ⊢
            by_cases he : er = 0
            · rw [if_neg (by simp [he])] at hgo
              simp -implicitDefEqProofs [n710, he, r9, r10, k7, wrap_i64]
              refine AGo.again ih (m' := 1) (by omega) (HLe.refl _) ⟨4, x.set 3 f, by omega, rfl, by simp [r2], by simp [r6], by simp [r9], by simp, hgo, ?_, ?_, ?_⟩
              · simp [Heap.set, n210, n72.symm, k2]
              · simp [Heap.set, Ex.set]
              · repeat (first | exact kW | refine HWk.new (by assumption) ?_)
            · rw [if_pos he] at hgo
              subst hgo
              simp -implicitDefEqProofs [n210, he, r2, k2, ex0, f0]
              repeat (first | exact kW | refine HWk.new (by assumption) ?_)
          · have hlj : 4 < L.length := by omega
            have hdrop : L.drop 4 = L[4] :: L.drop (4 + 1) := List.drop_eq_getElem_cons hlj
            simp -implicitDefEqProofs [r6, r10, hlj]
            refine ACall.eq (c_refParse (4 : Nat) L[4] (hm _ (List.getElem_mem (by omega)))) ?_
            simp -implicitDefEqProofs [fAV]
            refine AAlloc.intro fun b10 h10 => ?_
            have n107 : b10 ≠ b7 := by intro e; subst e; rw [k7] at h10; cases h10
            have n102 : b10 ≠ b2 := by intro e; subst e; rw [k2] at h10; cases h10
            have n710 := n107.symm
            have n210 := n102.symm
            have e10 : H b10 = none := kW.none h10
            rw [hdrop, goX] at hgo
            generalize parseK (4 : Nat) L[4] = pr at *
            obtain ⟨f, er⟩ := pr
            simp only at hgo ⊢
            by_cases he : er = 0
            · rw [if_neg (by simp [he])] at hgo
              simp -implicitDefEqProofs [n710, he, r9, r10, k7, wrap_i64]
              refine AGo.again ih (m' := 0) (by omega) (HLe.refl _) ⟨5, x.set 4 f, by omega, rfl, by simp [r2], by simp [r6], by simp [r9], by simp, hgo, ?_, ?_, ?_⟩
              · simp [Heap.set, n210, n72.symm, k2]
              · simp [Heap.set, Ex.set]
              · repeat (first | exact kW | refine HWk.new (by assumption) ?_)
            · rw [if_pos he] at hgo
              subst hgo
              simp -implicitDefEqProofs [n210, he, r2, k2, ex0, f0]
              repeat (first | exact kW | refine HWk.new (by assumption) ?_)
          · rw [List.drop_eq_nil_of_le (by omega), goX] at hgo
            subst hgo
            simp -implicitDefEqProofs [r2, r9, r10, k2, k7]
            exact HWk.new h2 kW
        · have h5' : ¬ ((sp 32 s).length : Int) = 5 := by omega
          have hr := h5n h5
          subst hr
          simp -implicitDefEqProofs [r2, r6, h5', k2, ex0, f0]
          exact HWk.new h2 kW
    · simp -implicitDefEqProofs [hl', c0, c1']
      generalize hK : Heap.set _ b2 _ = K0
      have k20 : K0 b2 = some (.cells (exC ex0) 42) := by rw [← hK]; simp [Heap.set, ex0, f0]
      have kW0 : HWk H K0 := by rw [← hK]; exact HWk.new h2 (HWk.refl _)
      clear hK
      refine AGo.joinLoop (fun ρ K => ∃ t K', ρ 2 = .sc (.pointer (some ⟨b2, 0, none⟩)) ∧ ρ 6 = .sl (strL (sp 32 s)) t ∧ Grows K0 (strL (sp 32 s)) 1 9 t K' ∧ HLe K' K ∧ [] ∉ sp 32 s) (fun k' hk' => ?_) ?_
      · refine AGo.rounds (fun m ρ K => ∃ (a i : Nat) (out : List (List UInt8)) (t : Tok), m = s.length + 2 - i ∧ i ≤ s.length + 1 ∧ ρ 0 = str s ∧ ρ 2 = .sc (.pointer (some ⟨b2, 0, none⟩)) ∧ ρ 6 = .sl (strL out) t ∧ ρ 7 = .sc (.int .i64 a) ∧ ρ 8 = .sc (.int .i64 i) ∧
          [] ∉ out ∧ out.length ≤ a ∧ a ≤ s.length + 1 ∧ Grows K0 (strL out) 1 9 t K ∧ ((a ≤ i ∧ i ≤ s.length ∧ out ++ sp 32 (s.drop a) = sp 32 s ∧ 32 ∉ (s.drop a).take (i - a)) ∨ (i = s.length + 1 ∧ out = sp 32 s))) ?_ (m := s.length + 2) (HLe.refl _)
          ⟨0, 0, [], .nil, by omega, by omega, by simp, by simp, by simp, by simp, by simp, by simp, by simp, by omega, Grows.zero, .inl ⟨by omega, by omega, by simp, by simp⟩⟩
        rintro m ρ K ih ⟨a, i, out, t, rfl, hi1, r0, r2, r6, r7, r8, hno, hol, ha1, hg, hor⟩
        rcases hor with ⟨hai, hi, hsp, hnot⟩ | ⟨hi, hout⟩
        · have hle' : (i : Int) ≤ s.length := by omega
          have hwi : IntKind.i64.wrap ((i : Int) + 1) = ((i + 1 : Nat) : Int) := by rw [wrap_i64 (by omega) (by omega)]; push_cast; rfl
          have kb2 : K b2 = some (.cells (exC ex0) 42) := hg.le b2 _ k20
          have kWg : HWk H K := kW0.trans hg.le.wk
          by_cases hlt : i < s.length
          · have hne : ¬ i = s.length := by omega
            have hne' : ¬ (i : Int) = s.length := by omega
            have hd : (s.drop a).drop (i - a) = s[i] :: s.drop (i + 1) := by
              rw [List.drop_drop, show a + (i - a) = i by omega, List.drop_eq_getElem_cons hlt]
            have hsplit : s.drop a = (s.drop a).take (i - a) ++ s[i] :: s.drop (i + 1) := by rw [← hd, List.take_append_drop]
            by_cases hc : s[i] = 32
            · have hc' : s[i].toNat = 32 := by rw [hc]; rfl
              have hcut0 : sp 32 (s.drop a) = (s.drop a).take (i - a) :: sp 32 (s.drop (i + 1)) := by
                have e := hsplit
                rw [hc] at e
                generalize (s.drop a).take (i - a) = pc at e hnot ⊢
                rw [e, sp_app, sp_not hnot]
                rfl
              have hcut : sp 32 s = out ++ ((s.drop a).take (i - a) :: sp 32 (s.drop (i + 1))) := by rw [← hsp, hcut0]
              by_cases hia : i = a
              · have hr := hnil (by rw [hcut, hia]; simp)
                subst hr
                subst hia
                simp -implicitDefEqProofs [r0, r2, r7, r8, hle', hlt, hne', hc', kb2, ex0, f0]
                exact HWk.new h2 kWg
              · have hia' : ¬ (i : Int) = a := by omega
                have hai' : (a : Int) ≤ i := by omega
                have hcur : (s.drop a).take (i - a) = (s.take i).drop a := by rw [List.drop_take]
                have hcn : ¬ ((s.take i).drop a = []) := by
                  rw [← hcur]
                  intro h
                  have := congrArg List.length h
                  simp at this
                  omega
                simp -implicitDefEqProofs [r0, r6, r7, r8, hle', hlt, hne', hc', hia', hai']
                refine AApp.grows el_89 hg (HLe.refl _) (by simp) (szs_strs _) (by simp [szs, AV.cells]) (by simp; omega) (by simp [maxLen]; omega) fun t' K' Hn hg' hl' => ?_
                simp -implicitDefEqProofs [r8, hwi]
                refine AGo.again ih (m' := s.length + 2 - (i + 1)) (by omega) hl' ⟨i + 1, i + 1, out ++ [(s.take i).drop a], t', rfl, by omega, by simp [r0], by simp [r2], by simp, by simp, by simp, ?_, by simp; omega, by omega, by simpa using hg', .inl ⟨by omega, by omega, ?_, by simp⟩⟩
                · simp only [List.mem_append, List.mem_singleton, not_or]
                  exact ⟨hno, fun h => hcn h.symm⟩
                · rw [hcut, hcur]; simp
            · have hc' : ¬ s[i].toNat = 32 := fun h => hc (UInt8.toNat_inj.1 (by rw [h]; rfl))
              have hc2 : ¬ (s[i].toNat : Int) = 32 := by omega
              simp -implicitDefEqProofs [r0, r8, hle', hlt, hne', hc2, hwi]
              refine AGo.again ih (m' := s.length + 2 - (i + 1)) (by omega) (HLe.refl _) ⟨a, i + 1, out, t, rfl, by omega, by simp [r0], by simp [r2], by simp [r6], by simp [r7], by simp, hno, hol, ha1, hg, .inl ⟨by omega, by omega, hsp, ?_⟩⟩
              rw [show i + 1 - a = (i - a) + 1 by omega, List.take_add_one]
              have he : (s.drop a)[i - a]? = some s[i] := by rw [List.getElem?_drop, show a + (i - a) = i by omega, List.getElem?_eq_getElem hlt]
              rw [he]
              simp only [Option.toList_some, List.mem_append, List.mem_singleton, not_or]
              exact ⟨hnot, fun h => hc h.symm⟩
          · obtain rfl : i = s.length := by omega
            have hnot' : 32 ∉ s.drop a := by rw [List.take_of_length_le (by simp)] at hnot; exact hnot
            have hcut : sp 32 s = out ++ [s.drop a] := by rw [← hsp, sp_not hnot']
            by_cases hia : s.length = a
            · have hr := hnil (by rw [hcut, ← hia]; simp)
              subst hr
              have hia' : (s.length : Int) = a := by omega
              simp -implicitDefEqProofs [r0, r2, r7, r8, hia, kb2, ex0, f0]
              exact HWk.new h2 kWg
            · have hia' : ¬ (s.length : Int) = a := by omega
              have hai' : (a : Int) ≤ s.length := by omega
              have hcn : ¬ (s.drop a = []) := by
                intro h
                have := congrArg List.length h
                simp at this
                omega
              simp -implicitDefEqProofs [r0, r6, r7, r8, hia', hai']
              refine AApp.grows el_89 hg (HLe.refl _) (by simp) (szs_strs _) (by simp [szs, AV.cells]) (by simp; omega) (by simp [maxLen]; omega) fun t' K' Hn hg' hl' => ?_
              simp -implicitDefEqProofs [r8, hwi]
              refine AGo.again ih (m' := 1) (by omega) hl' ⟨s.length + 1, s.length + 1, out ++ [s.drop a], t', by omega, by omega, by simp [r0], by simp [r2], by simp, by simp, by simp, ?_, by simp; omega, by omega, by simpa using hg', .inr ⟨rfl, hcut.symm⟩⟩
              simp only [List.mem_append, List.mem_singleton, not_or]
              exact ⟨hno, fun h => hcn h.symm⟩
        · subst hout
          have hle' : ¬ (i : Int) ≤ s.length := by omega
          have hle2 : ¬ i ≤ s.length := by omega
          simp -implicitDefEqProofs [r0, r8, hle']
          exact hk' _ _ ⟨t, K, by simp [r2], by simp [r6], hg, HLe.refl _, hno⟩
      · rintro ρ K ⟨t, K', r2, r6, hg, hle, hnin⟩
        have k2 : K b2 = some (.cells (exC ex0) 42) := hle _ _ (hg.le b2 _ k20)
        have kW : HWk H K := kW0.trans (hg.le.trans hle).wk
        clear hg hle k20 kW0
        by_cases h5 : (sp 32 s).length = 5
        · unfold cronB at hres
          rw [if_neg (by omega), if_neg hnin] at hres
          generalize sp 32 s = L at *
          have h5' : (L.length : Int) = 5 := by omega
          simp -implicitDefEqProofs [r6, h5]
          refine AAlloc.intro fun b7 h7 => ?_
          have n72 : b7 ≠ b2 := by intro e; subst e; rw [k2] at h7; cases h7
          have n27 := n72.symm
          have e7 : H b7 = none := kW.none h7
          simp -implicitDefEqProofs
          generalize hK : Heap.set _ b7 _ = K3
          have k7 : K3 b7 = some (.cells (exC ex0) 42) := by rw [← hK]; simp [Heap.set, ex0, f0]
          have k2' : K3 b2 = some (.cells (exC ex0) 42) := by rw [← hK]; simp [Heap.set, n27, k2]
          have kW' : HWk H K3 := by rw [← hK]; exact HWk.new e7 kW
          clear hK h7 k2 kW
          refine AGo.rounds (fun m ρ K2 => ∃ (j : Nat) (x : Ex), j ≤ 5 ∧ m = 5 - j ∧ ρ 2 = .sc (.pointer (some ⟨b2, 0, none⟩)) ∧ ρ 6 = .sl (strL L) t ∧ ρ 9 = .sc (.pointer (some ⟨b7, 0, none⟩)) ∧ ρ 10 = .sc (.int .i64 j) ∧ goX (L.drop j) j x = res ∧
            K2 b2 = some (.cells (exC ex0) 42) ∧ K2 b7 = some (.cells (exC x) 42) ∧ HWk H K2) ?_ (m := 5) (HLe.refl _)
            ⟨0, ex0, by omega, rfl, by simp [r2], by simp [r6], by simp, by simp, by simpa using hres, k2', k7, kW'⟩
          clear k7 k2' kW' r2 r6
          rintro m ρ K2 ih ⟨j, x, hj, rfl, r2, r6, r9, r10, hgo, k2, k7, kW⟩
          have hc : j = 0 ∨ j = 1 ∨ j = 2 ∨ j = 3 ∨ j = 4 ∨ j = 5 := by omega
          rcases hc with rfl | rfl | rfl | rfl | rfl | rfl
          · have hlj : 0 < L.length := by omega
            have hdrop : L.drop 0 = L[0] :: L.drop (0 + 1) := List.drop_eq_getElem_cons hlj
            simp -implicitDefEqProofs [r6, r10, hlj]
            refine ACall.eq (c_refParse (0 : Nat) L[0] (hm _ (List.getElem_mem (by omega)))) ?_
            simp -implicitDefEqProofs [fAV]
            refine AAlloc.intro fun b10 h10 => ?_
            have n107 : b10 ≠ b7 := by intro e; subst e; rw [k7] at h10; cases h10
            have n102 : b10 ≠ b2 := by intro e; subst e; rw [k2] at h10; cases h10
            have n710 := n107.symm
            have n210 := n102.symm
            have e10 : H b10 = none := kW.none h10
            rw [hdrop, goX] at hgo
            generalize parseK (0 : Nat) L[0] = pr at *
            obtain ⟨f, er⟩ := pr
            simp only at hgo ⊢
            by_cases he : er = 0
            · rw [if_neg (by simp [he])] at hgo
              simp -implicitDefEqProofs [n710, he, r9, r10, k7, wrap_i64]
              refine AGo.again ih (m' := 4) (by omega) (HLe.refl _) ⟨1, x.set 0 f, by omega, rfl, by simp [r2], by simp [r6], by simp [r9], by simp, hgo, ?_, ?_, ?_⟩
              · simp [Heap.set, n210, n72.symm, k2]
              · simp [Heap.set, Ex.set]
              · repeat (first | exact kW | refine HWk.new (by assumption) ?_)
            · rw [if_pos he] at hgo
              subst hgo
              simp -implicitDefEqProofs [n210, he, r2, k2, ex0, f0]
              repeat (first | exact kW | refine HWk.new (by assumption) ?_)
          · have hlj : 1 < L.length := by omega
            have hdrop : L.drop 1 = L[1] :: L.drop (1 + 1) := List.drop_eq_getElem_cons hlj
            simp -implicitDefEqProofs [r6, r10, hlj]
            refine ACall.eq (c_refParse (1 : Nat) L[1] (hm _ (List.getElem_mem (by omega)))) ?_
            simp -implicitDefEqProofs [fAV]
            refine AAlloc.intro fun b10 h10 => ?_
            have n107 : b10 ≠ b7 := by intro e; subst e; rw [k7] at h10; cases h10
            have n102 : b10 ≠ b2 := by intro e; subst e; rw [k2] at h10; cases h10
            have n710 := n107.symm
            have n210 := n102.symm
            have e10 : H b10 = none := kW.none h10
            rw [hdrop, goX] at hgo
            generalize parseK (1 : Nat) L[1] = pr at *
            obtain ⟨f, er⟩ := pr
            simp only at hgo ⊢
            by_cases he : er = 0
            · rw [if_neg (by simp [he])] at hgo
              simp -implicitDefEqProofs [n710, he, r9, r10, k7, wrap_i64]
              refine AGo.again ih (m' := 3) (by omega) (HLe.refl _) ⟨2, x.set 1 f, by omega, rfl, by simp [r2], by simp [r6], by simp [r9], by simp, hgo, ?_, ?_, ?_⟩
              · simp [Heap.set, n210, n72.symm, k2]
              · simp [Heap.set, Ex.set]
              · repeat (first | exact kW | refine HWk.new (by assumption) ?_)
            · rw [if_pos he] at hgo
              subst hgo
              simp -implicitDefEqProofs [n210, he, r2, k2, ex0, f0]
              repeat (first | exact kW | refine HWk.new (by assumption) ?_)
          · have hlj : 2 < L.length := by omega
            have hdrop : L.drop 2 = L[2] :: L.drop (2 + 1) := List.drop_eq_getElem_cons hlj
            simp -implicitDefEqProofs [r6, r10, hlj]
            refine ACall.eq (c_refParse (2 : Nat) L[2] (hm _ (List.getElem_mem (by omega)))) ?_
            simp -implicitDefEqProofs [fAV]
            refine AAlloc.intro fun b10 h10 => ?_
            have n107 : b10 ≠ b7 := by intro e; subst e; rw [k7] at h10; cases h10
            have n102 : b10 ≠ b2 := by intro e; subst e; rw [k2] at h10; cases h10
            have n710 := n107.symm
            have n210 := n102.symm
            have e10 : H b10 = none := kW.none h10
            rw [hdrop, goX] at hgo
            generalize parseK (2 : Nat) L[2] = pr at *
            obtain ⟨f, er⟩ := pr
            simp only at hgo ⊢
            by_cases he : er = 0
            · rw [if_neg (by simp [he])] at hgo
              simp -implicitDefEqProofs [n710, he, r9, r10, k7, wrap_i64]
              refine AGo.again ih (m' := 2) (by omega) (HLe.refl _) ⟨3, x.set 2 f, by omega, rfl, by simp [r2], by simp [r6], by simp [r9], by simp, hgo, ?_, ?_, ?_⟩
              · simp [Heap.set, n210, n72.symm, k2]
              · simp [Heap.set, Ex.set]
              · repeat (first | exact kW | refine HWk.new (by assumption) ?_)
            · rw [if_pos he] at hgo
              subst hgo
              simp -implicitDefEqProofs [n210, he, r2, k2, ex0, f0]
              repeat (first | exact kW | refine HWk.new (by assumption) ?_)
          · have hlj : 3 < L.length := by omega
            have hdrop : L.drop 3 = L[3] :: L.drop (3 + 1) := List.drop_eq_getElem_cons hlj
            simp -implicitDefEqProofs [r6, r10, hlj]
            refine ACall.eq (c_refParse (3 : Nat) L[3] (hm _ (List.getElem_mem (by omega)))) ?_
            simp -implicitDefEqProofs [fAV]
            refine AAlloc.intro fun b10 h10 => ?_
            have n107 : b10 ≠ b7 := by intro e; subst e; rw [k7] at h10; cases h10
            have n102 : b10 ≠ b2 := by intro e; subst e; rw [k2] at h10; cases h10
            have n710 := n107.symm
            have n210 := n102.symm
            have e10 : H b10 = none := kW.none h10
            rw [hdrop, goX] at hgo
            generalize parseK (3 : Nat) L[3] = pr at *
            obtain ⟨f, er⟩ := pr
            simp only at hgo ⊢
            by_cases he : er = 0
            · rw [if_neg (by simp [he])] at hgo
              simp -implicitDefEqProofs [n710, he, r9, r10, k7, wrap_i64]
              refine AGo.again ih (m' := 1) (by omega) (HLe.refl _) ⟨4, x.set 3 f, by omega, rfl, by simp [r2], by simp [r6], by simp [r9], by simp, hgo, ?_, ?_, ?_⟩
              · simp [Heap.set, n210, n72.symm, k2]
              · simp [Heap.set, Ex.set]
              · repeat (first | exact kW | refine HWk.new (by assumption) ?_)
            · rw [if_pos he] at hgo
              subst hgo
              simp -implicitDefEqProofs [n210, he, r2, k2, ex0, f0]
              repeat (first | exact kW | refine HWk.new (by assumption) ?_)
          · have hlj : 4 < L.length := by omega
            have hdrop : L.drop 4 = L[4] :: L.drop (4 + 1) := List.drop_eq_getElem_cons hlj
            simp -implicitDefEqProofs [r6, r10, hlj]
            refine ACall.eq (c_refParse (4 : Nat) L[4] (hm _ (List.getElem_mem (by omega)))) ?_
            simp -implicitDefEqProofs [fAV]
            refine AAlloc.intro fun b10 h10 => ?_
            have n107 : b10 ≠ b7 := by intro e; subst e; rw [k7] at h10; cases h10
            have n102 : b10 ≠ b2 := by intro e; subst e; rw [k2] at h10; cases h10
            have n710 := n107.symm
            have n210 := n102.symm
            have e10 : H b10 = none := kW.none h10
            rw [hdrop, goX] at hgo
            generalize parseK (4 : Nat) L[4] = pr at *
            obtain ⟨f, er⟩ := pr
            simp only at hgo ⊢
            by_cases he : er = 0
            · rw [if_neg (by simp [he])] at hgo
              simp -implicitDefEqProofs [n710, he, r9, r10, k7, wrap_i64]
              refine AGo.again ih (m' := 0) (by omega) (HLe.refl _) ⟨5, x.set 4 f, by omega, rfl, by simp [r2], by simp [r6], by simp [r9], by simp, hgo, ?_, ?_, ?_⟩
              · simp [Heap.set, n210, n72.symm, k2]
              · simp [Heap.set, Ex.set]
              · repeat (first | exact kW | refine HWk.new (by assumption) ?_)
            · rw [if_pos he] at hgo
              subst hgo
              simp -implicitDefEqProofs [n210, he, r2, k2, ex0, f0]
              repeat (first | exact kW | refine HWk.new (by assumption) ?_)
          · rw [List.drop_eq_nil_of_le (by omega), goX] at hgo
            subst hgo
            simp -implicitDefEqProofs [r2, r9, r10, k2, k7]
            exact HWk.new h2 kW
        · have h5' : ¬ ((sp 32 s).length : Int) = 5 := by omega
          have hr := h5n h5
          subst hr
          simp -implicitDefEqProofs [r2, r6, h5', k2, ex0, f0]
          exact HWk.new h2 kW
end Go.Proofs.YtmoncokklkiikaaGreatDoor
namespace Go.Proofs.YtmoncokklkiikaaGreatDoor
open Rg Go
variable {H : Heap}
theorem cronK_name {n x : List UInt8} (hl : ¬ 400 < n.length) (hp : Lib.hasPrefix n [64] = true) (h : namedL n = x) : cronK n = cronB x := by
  unfold cronK
  rw [if_neg hl, if_pos hp, h]
theorem prefix64 (s : List UInt8) : (Lib.hasPrefix s [64] = false ∧ (¬ 0 < s.length ∨ ∃ h : 0 < s.length, ¬ s[0].toNat = 64)) ∨ (Lib.hasPrefix s [64] = true ∧ ∃ h : 0 < s.length, s[0].toNat = 64) := by
  cases s with
  | nil => exact .inl ⟨rfl, .inl (by simp)⟩
  | cons c r =>
    have e : Lib.hasPrefix (c :: r) [64] = (64 == c) := by unfold Lib.hasPrefix; simp [List.isPrefixOf]
    by_cases hc : c = 64
    · exact .inr ⟨by rw [e, hc]; rfl, by simp, by simp [hc]⟩
    · exact .inl ⟨by rw [e]; simpa using Ne.symm hc, .inr ⟨by simp, fun h => hc (UInt8.toNat_inj.1 (by simpa using h))⟩⟩
theorem namedL_none {s : List UInt8} (h : ∀ q, q < 7 → nmL.getD (2 * q) [] ≠ s) : namedL s = [] := by
  have h0 := h 0 (by omega)
  have h1 := h 1 (by omega)
  have h2 := h 2 (by omega)
  have h3 := h 3 (by omega)
  have h4 := h 4 (by omega)
  have h5 := h 5 (by omega)
  have h6 := h 6 (by omega)
  unfold namedL
  rw [if_neg (fun e => h0 e.symm), if_neg (fun e => h1 e.symm), if_neg (fun e => h2 e.symm), if_neg (fun e => h3 e.symm), if_neg (fun e => h4 e.symm), if_neg (fun e => h5 e.symm), if_neg (fun e => h6 e.symm)]
set_option maxHeartbeats 1000000 in
theorem c_ref7Parse (s : List UInt8) (hs : s.length ≤ 1000000) : AOk Tryz.prog 64 [str s] H (.tup [exAV (cronK s).1, .sc (.int .i64 (cronK s).2)]) H := by
  rcases prefix64 s with ⟨hp, hnp⟩ | ⟨hp, h0, h64⟩
  · have h := c_ref7Plain (H := H) s hs hnp
    have e : cronK s = if 400 < s.length then (ex0, 3) else cronB s := by unfold cronK; rw [hp]; rfl
    rw [e]; exact h
  · by_cases hl : 400 < s.length
    · have hl' : (400 : Int) < s.length := by omega
      have e : cronK s = (ex0, 3) := by unfold cronK; rw [if_pos hl]
      rw [e]
      refine ACalls.into Tryz.func64 rfl Tryz.ntmps64 Tryz.results64 (by simp) ?_
      simp -implicitDefEqProofs [ex0, f0]
      refine AAlloc.intro fun b2 h2 => ?_
      simp -implicitDefEqProofs [hl, hl']
      exact HWk.new h2 (HWk.refl _)
    · have hl' : ¬ (400 : Int) < s.length := by omega
      have h0' : (0 : Int) < s.length := by omega
      have h64' : (s[0].toNat : Int) = 64 := by omega
      refine ACalls.into Tryz.func64 rfl Tryz.ntmps64 Tryz.results64 (by simp) ?_
      simp -implicitDefEqProofs
      refine AAlloc.intro fun b2 h2 => ?_
      simp -implicitDefEqProofs [hl, hl', h0, h0', h64, h64']
      generalize hK : Heap.set _ b2 _ = K0
      have k2 : K0 b2 = some (.cells (exC ex0) 42) := by rw [← hK]; simp [Heap.set, ex0, f0]
      have kW : HWk H K0 := by rw [← hK]; exact HWk.new h2 (HWk.refl _)
      clear hK h64 h64'
      refine ACall.eq c_refNames ?_
      simp -implicitDefEqProofs
      refine AGo.rounds (fun m ρ K => ∃ q : Nat, q ≤ 7 ∧ m = 7 - q ∧ ρ 0 = str s ∧ ρ 2 = .sc (.pointer (some ⟨b2, 0, none⟩)) ∧ ρ 4 = .sl (strL nmL) .no ∧ ρ 5 = .sc (.int .i64 (2 * q : Nat)) ∧ (∀ q', q' < q → nmL.getD (2 * q') [] ≠ s) ∧ K = K0) ?_ (m := 7) (HLe.refl _)
        ⟨0, by omega, rfl, by simp, by simp, by simp, by simp, fun q' hq => by omega, rfl⟩
      rintro m ρ K ih ⟨q, hq, rfl, r0, r2, r4, r5, hne, rfl⟩
      have hc : q = 0 ∨ q = 1 ∨ q = 2 ∨ q = 3 ∨ q = 4 ∨ q = 5 ∨ q = 6 ∨ q = 7 := by omega
      rcases hc with rfl | rfl | rfl | rfl | rfl | rfl | rfl | rfl
      · skip
        by_cases hs : nHourly = s
        · subst hs
          have e : cronK nHourly = cronB xHourly := cronK_name (by decide) (by decide) (by decide)
          have hpl := c_ref7Plain (H := K) xHourly (by decide) (.inr ⟨by decide, by decide⟩)
          rw [if_neg (by decide)] at hpl
          rw [e]
          simp -implicitDefEqProofs [r0, r2, r4, r5, nmL, wrap_i64]
          refine ACall.eq hpl ?_
          simp -implicitDefEqProofs [r2, k2]
          exact HWk.new h2 kW
        · have hb : (nHourly == s) = false := by simpa using hs
          simp -implicitDefEqProofs [r0, r2, r4, r5, nmL, hb, wrap_i64]
          exact AGo.again ih (m' := 6) (by omega) (HLe.refl _) ⟨1, by omega, rfl, by simp [r0], by simp [r2], by simp [r4, nmL], by simp, lt_succ_all (P := fun q : Nat => nmL.getD (2 * q) [] ≠ s) hne hs, rfl⟩
      · skip
        by_cases hs : nDaily = s
        · subst hs
          have e : cronK nDaily = cronB xDaily := cronK_name (by decide) (by decide) (by decide)
          have hpl := c_ref7Plain (H := K) xDaily (by decide) (.inr ⟨by decide, by decide⟩)
          rw [if_neg (by decide)] at hpl
          rw [e]
          simp -implicitDefEqProofs [r0, r2, r4, r5, nmL, wrap_i64]
          refine ACall.eq hpl ?_
          simp -implicitDefEqProofs [r2, k2]
          exact HWk.new h2 kW
        · have hb : (nDaily == s) = false := by simpa using hs
          simp -implicitDefEqProofs [r0, r2, r4, r5, nmL, hb, wrap_i64]
          exact AGo.again ih (m' := 5) (by omega) (HLe.refl _) ⟨2, by omega, rfl, by simp [r0], by simp [r2], by simp [r4, nmL], by simp, lt_succ_all (P := fun q : Nat => nmL.getD (2 * q) [] ≠ s) hne hs, rfl⟩
      · skip
        by_cases hs : nMidnight = s
        · subst hs
          have e : cronK nMidnight = cronB xDaily := cronK_name (by decide) (by decide) (by decide)
          have hpl := c_ref7Plain (H := K) xDaily (by decide) (.inr ⟨by decide, by decide⟩)
          rw [if_neg (by decide)] at hpl
          rw [e]
          simp -implicitDefEqProofs [r0, r2, r4, r5, nmL, wrap_i64]
          refine ACall.eq hpl ?_
          simp -implicitDefEqProofs [r2, k2]
          exact HWk.new h2 kW
        · have hb : (nMidnight == s) = false := by simpa using hs
          simp -implicitDefEqProofs [r0, r2, r4, r5, nmL, hb, wrap_i64]
          exact AGo.again ih (m' := 4) (by omega) (HLe.refl _) ⟨3, by omega, rfl, by simp [r0], by simp [r2], by simp [r4, nmL], by simp, lt_succ_all (P := fun q : Nat => nmL.getD (2 * q) [] ≠ s) hne hs, rfl⟩
      · skip
        by_cases hs : nWeekly = s
        · subst hs
          have e : cronK nWeekly = cronB xWeekly := cronK_name (by decide) (by decide) (by decide)
          have hpl := c_ref7Plain (H := K) xWeekly (by decide) (.inr ⟨by decide, by decide⟩)
          rw [if_neg (by decide)] at hpl
          rw [e]
          simp -implicitDefEqProofs [r0, r2, r4, r5, nmL, wrap_i64]
          refine ACall.eq hpl ?_
          simp -implicitDefEqProofs [r2, k2]
          exact HWk.new h2 kW
        · have hb : (nWeekly == s) = false := by simpa using hs
          simp -implicitDefEqProofs [r0, r2, r4, r5, nmL, hb, wrap_i64]
          exact AGo.again ih (m' := 3) (by omega) (HLe.refl _) ⟨4, by omega, rfl, by simp [r0], by simp [r2], by simp [r4, nmL], by simp, lt_succ_all (P := fun q : Nat => nmL.getD (2 * q) [] ≠ s) hne hs, rfl⟩
      · skip
        by_cases hs : nMonthly = s
        · subst hs
          have e : cronK nMonthly = cronB xMonthly := cronK_name (by decide) (by decide) (by decide)
          have hpl := c_ref7Plain (H := K) xMonthly (by decide) (.inr ⟨by decide, by decide⟩)
          rw [if_neg (by decide)] at hpl
          rw [e]
          simp -implicitDefEqProofs [r0, r2, r4, r5, nmL, wrap_i64]
          refine ACall.eq hpl ?_
          simp -implicitDefEqProofs [r2, k2]
          exact HWk.new h2 kW
        · have hb : (nMonthly == s) = false := by simpa using hs
          simp -implicitDefEqProofs [r0, r2, r4, r5, nmL, hb, wrap_i64]
          exact AGo.again ih (m' := 2) (by omega) (HLe.refl _) ⟨5, by omega, rfl, by simp [r0], by simp [r2], by simp [r4, nmL], by simp, lt_succ_all (P := fun q : Nat => nmL.getD (2 * q) [] ≠ s) hne hs, rfl⟩
      · skip
        by_cases hs : nYearly = s
        · subst hs
          have e : cronK nYearly = cronB xYearly := cronK_name (by decide) (by decide) (by decide)
          have hpl := c_ref7Plain (H := K) xYearly (by decide) (.inr ⟨by decide, by decide⟩)
          rw [if_neg (by decide)] at hpl
          rw [e]
          simp -implicitDefEqProofs [r0, r2, r4, r5, nmL, wrap_i64]
          refine ACall.eq hpl ?_
          simp -implicitDefEqProofs [r2, k2]
          exact HWk.new h2 kW
        · have hb : (nYearly == s) = false := by simpa using hs
          simp -implicitDefEqProofs [r0, r2, r4, r5, nmL, hb, wrap_i64]
          exact AGo.again ih (m' := 1) (by omega) (HLe.refl _) ⟨6, by omega, rfl, by simp [r0], by simp [r2], by simp [r4, nmL], by simp, lt_succ_all (P := fun q : Nat => nmL.getD (2 * q) [] ≠ s) hne hs, rfl⟩
      · skip
        by_cases hs : nAnnually = s
        · subst hs
          have e : cronK nAnnually = cronB xYearly := cronK_name (by decide) (by decide) (by decide)
          have hpl := c_ref7Plain (H := K) xYearly (by decide) (.inr ⟨by decide, by decide⟩)
          rw [if_neg (by decide)] at hpl
          rw [e]
          simp -implicitDefEqProofs [r0, r2, r4, r5, nmL, wrap_i64]
          refine ACall.eq hpl ?_
          simp -implicitDefEqProofs [r2, k2]
          exact HWk.new h2 kW
        · have hb : (nAnnually == s) = false := by simpa using hs
          simp -implicitDefEqProofs [r0, r2, r4, r5, nmL, hb, wrap_i64]
          exact AGo.again ih (m' := 0) (by omega) (HLe.refl _) ⟨7, by omega, rfl, by simp [r0], by simp [r2], by simp [r4, nmL], by simp, lt_succ_all (P := fun q : Nat => nmL.getD (2 * q) [] ≠ s) hne hs, rfl⟩
      · have e : cronK s = (ex0, 70) := by
          unfold cronK
          rw [if_neg hl, if_pos hp, namedL_none hne]
          rfl
        rw [e]
        simp -implicitDefEqProofs [r4, r5, r2, nmL, k2, ex0, f0]
        exact HWk.new h2 kW
end Go.Proofs.YtmoncokklkiikaaGreatDoor
namespace Go.Proofs.YtmoncokklkiikaaGreatDoor
open Rg Go
variable {H : Heap}
theorem c_ref4LongOut {y m : Int} (h : m < 1 ∨ 12 < m) : AOk Tryz.prog 159 [.sc (.int .i64 y), .sc (.int .i64 m)] H (.sc (.int .i64 0)) H := by
  have e1 : ¬ m = 1 := by omega
  have e2 : ¬ m = 2 := by omega
  have e3 : ¬ m = 3 := by omega
  have e4 : ¬ m = 4 := by omega
  have e5 : ¬ m = 5 := by omega
  have e6 : ¬ m = 6 := by omega
  have e7 : ¬ m = 7 := by omega
  have e8 : ¬ m = 8 := by omega
  have e9 : ¬ m = 9 := by omega
  have e10 : ¬ m = 10 := by omega
  have e11 : ¬ m = 11 := by omega
  have e12 : ¬ m = 12 := by omega
  refine ACalls.into Tryz.func159 rfl Tryz.ntmps159 Tryz.results159 (by simp) ?_
  simp -implicitDefEqProofs [e1, e2, e3, e4, e5, e6, e7, e8, e9, e10, e11, e12]
theorem c_ref4LongI {y : Nat} {m : Int} : AOk Tryz.prog 159 [.sc (.int .i64 y), .sc (.int .i64 m)] H (.sc (.int .i64 (longI y m))) H := by
  by_cases h : m < 1 ∨ 12 < m
  · have e : longI y m = 0 := by unfold longI; rw [if_pos h]
    rw [e]
    exact c_ref4LongOut h
  · obtain ⟨M, rfl⟩ := Int.eq_ofNat_of_zero_le (a := m) (by omega)
    rw [long_nat y (by omega) (by omega)]
    exact c_ref4Long (by omega) (by omega)
theorem c_ref4May (y m d : Int) : AOk Tryz.prog 157 [dAV y m d] H (.sc (.bool (mayD y m d))) H := by
  refine ACalls.into Tryz.func157 rfl Tryz.ntmps157 Tryz.results157 (by simp) ?_
  simp -implicitDefEqProofs
  refine AAlloc.intro fun b hb => ?_
  have hW : ∀ o, HWk H (H.set b o) := fun o => HWk.new hb (HWk.refl _)
  unfold mayD
  simp -implicitDefEqProofs
  refine go_draw 24 f_mixed (by decide +kernel) ?_
  by_cases h1 : 1970 ≤ y
  · by_cases h2 : y ≤ 2399
    · by_cases h3 : 1 ≤ d
      · obtain ⟨Y, rfl⟩ := Int.eq_ofNat_of_zero_le (a := y) (by omega)
        simp -implicitDefEqProofs [h1, h2, h3]
        refine AQS.eq (c_ref4LongI (y := Y) (m := m)) ?_
        simp -implicitDefEqProofs
        exact hW _
      · simp -implicitDefEqProofs [h1, h2, h3]
        exact hW _
    · simp -implicitDefEqProofs [h1, h2]
      exact hW _
  · simp -implicitDefEqProofs [h1]
    exact hW _
theorem c_ref4Days_bad {y m d : Int} (h : mayD y m d = false) : AOk Tryz.prog 109 [dAV y m d] H (.tup [.sc (.int .i64 0), .sc (.int .i64 2)]) H := by
  refine ACalls.into Tryz.func109 rfl Tryz.ntmps109 Tryz.results109 (by simp) ?_
  simp -implicitDefEqProofs
  refine AAlloc.intro fun b hb => ?_
  simp -implicitDefEqProofs
  refine ACall.eq (c_ref4May y m d) ?_
  simp -implicitDefEqProofs [h]
  exact HWk.new hb (HWk.refl _)
theorem c_ref4Days {y m d : Nat} (h : mayD (y : Int) (m : Int) (d : Int) = true) : AOk Tryz.prog 109 [dAV y m d] H (.tup [.sc (.int .i64 (daysN y m d)), .sc (.int .i64 0)]) H := by
  obtain ⟨i, dd, hi, hdd, h1, h2, h3⟩ := mayD_in h
  have e : daysN y m d = mFirst i + dd := by rw [← days_of i dd]; congr 1 <;> omega
  have hlt := mFirst_mono (i := i + 1) (j := 5160) (by omega) (Nat.le_refl _)
  rw [mFirst_succ hi, mFirst_end] at hlt
  rw [e]
  obtain ⟨r, hr⟩ : ∃ r, mFirst i + dd = r := ⟨_, rfl⟩
  rw [hr]
  have hy : y = 1970 + i / 12 := by omega
  have hmm : m = i % 12 + 1 := by omega
  have hd : d = dd + 1 := by omega
  clear h1 h2 h3 e
  refine ACalls.into Tryz.func109 rfl Tryz.ntmps109 Tryz.results109 (by simp) ?_
  simp -implicitDefEqProofs
  refine AAlloc.intro fun b hb => ?_
  simp -implicitDefEqProofs
  generalize hK : Heap.set _ b _ = K0
  have kb : K0 b = some (.cells [.sc (.int .i64 y), .sc (.int .i64 m), .sc (.int .i64 d)] 46) := by rw [← hK]; simp [Heap.set]
  have kW : HWk H K0 := by rw [← hK]; exact HWk.new hb (HWk.refl _)
  clear hK
  refine ACall.eq (c_ref4May y m d) ?_
  obtain ⟨B, hB⟩ : ∃ B, mFirst (12 * (i / 12)) = B := ⟨_, rfl⟩
  simp -implicitDefEqProofs [h]
  refine AGo.joinLoop (fun ρ K => K = K0 ∧ ρ 1 = .sc (.pointer (some ⟨b, 0, none⟩)) ∧ ρ 4 = .sc (.int .i64 B)) (fun k' hk' => ?_) ?_
  · refine AGo.rounds (fun mm ρ K => ∃ j Y N : Nat, j ≤ i / 12 ∧ mm = 430 - j ∧ Y = 1970 + j ∧ N = mFirst (12 * j) ∧ ρ 1 = .sc (.pointer (some ⟨b, 0, none⟩)) ∧ ρ 4 = .sc (.int .i64 N) ∧ ρ 5 = .sc (.int .i64 Y) ∧ K = K0) ?_ (m := 430) (HLe.refl _)
      ⟨0, 1970, 0, by omega, rfl, rfl, by rw [show 12 * 0 = 0 from rfl, mFirst_zero], by simp, by simp, by simp, rfl⟩
    rintro mm ρ K ih ⟨j, Y, N, hj, rfl, hY, hN, r1, r4, r5, rfl⟩
    by_cases hlast : j = i / 12
    · have c1 : ¬ (Y : Int) < (y : Int) := by omega
      have c1' : ¬ Y < y := by omega
      have hNB : N = B := by rw [hN, hlast, hB]
      simp -implicitDefEqProofs [r1, r5, kb, c1, c1']
      exact hk' _ _ ⟨rfl, by simp [r1], by simp [r4, hNB]⟩
    · have c1 : (Y : Int) < (y : Int) := by omega
      have c1' : Y < y := by omega
      have hj4 : j < 430 := by omega
      have hys := year_succ hj4
      rw [← hY, ← hN] at hys
      have hb2 : mFirst (12 * (j + 1)) ≤ mFirst i := mFirst_mono (by omega) (by omega)
      obtain ⟨N', hN'⟩ : ∃ x, x = mFirst (12 * (j + 1)) := ⟨_, rfl⟩
      rw [← hN'] at hys hb2
      obtain ⟨Y', hY'⟩ : ∃ x, x = 1970 + (j + 1) := ⟨_, rfl⟩
      have wY : IntKind.i64.wrap ((Y : Int) + 1) = (Y' : Int) := wadd (b := 1) (by omega) (by omega)
      obtain ⟨N1, hN1⟩ : ∃ x, N + 365 = x := ⟨_, rfl⟩
      have w1 : IntKind.i64.wrap ((N : Int) + 365) = (N1 : Int) := wadd (b := 365) hN1 (by omega)
      simp -implicitDefEqProofs [r1, r4, r5, kb, c1, c1', w1]
      refine ACall.eq (c_ref4Leap Y) ?_
      unfold yearLen at hys
      cases hl : leapN Y with
      | true =>
        rw [if_pos hl] at hys
        have w2 : IntKind.i64.wrap ((N1 : Int) + 1) = (N' : Int) := wadd (b := 1) (by omega) (by omega)
        simp -implicitDefEqProofs [r5, w2, wY]
        exact AGo.again ih (m' := 430 - (j + 1)) (by omega) (HLe.refl _) ⟨j + 1, Y', N', by omega, rfl, hY', hN', by simp [r1], by simp, by simp, rfl⟩
      | false =>
        rw [if_neg (by simp [hl])] at hys
        have e2 : N1 = N' := by omega
        simp -implicitDefEqProofs [r5, wY]
        exact AGo.again ih (m' := 430 - (j + 1)) (by omega) (HLe.refl _) ⟨j + 1, Y', N', by omega, rfl, hY', hN', by simp [r1], by simp [e2], by simp, rfl⟩
  · rintro ρ K ⟨rfl, r1, r4⟩
    simp -implicitDefEqProofs [r1, r4]
    refine AGo.rounds (fun mm ρ K2 => ∃ q M N : Nat, q ≤ i % 12 ∧ mm = 12 - q ∧ M = q + 1 ∧ N = mFirst (12 * (i / 12) + q) ∧ ρ 1 = .sc (.pointer (some ⟨b, 0, none⟩)) ∧ ρ 4 = .sc (.int .i64 N) ∧ ρ 6 = .sc (.int .i64 M) ∧ K2 = K) ?_ (m := 12) (HLe.refl _)
      ⟨0, 1, B, by omega, rfl, rfl, hB.symm, by simp [r1], by simp [r4], by simp, rfl⟩
    rintro mm ρ K2 ih ⟨q, M, N, hq, rfl, hM, hN, r1, r4, r6, rfl⟩
    by_cases hlast : q = i % 12
    · have c1 : ¬ (M : Int) < (m : Int) := by omega
      have c1' : ¬ M < m := by omega
      have hii : 12 * (i / 12) + q = i := by omega
      rw [hii] at hN
      obtain ⟨N1, hN1⟩ : ∃ x, N + d = x := ⟨_, rfl⟩
      have w1 : IntKind.i64.wrap ((N : Int) + (d : Int)) = (N1 : Int) := wadd hN1 (by omega)
      have w2 : IntKind.i64.wrap ((N1 : Int) - 1) = (r : Int) := wsub (b := 1) (by omega) (by omega) (by omega)
      simp -implicitDefEqProofs [r1, r4, r6, kb, c1, c1', w1, w2]
      exact kW
    · have c1 : (M : Int) < (m : Int) := by omega
      have c1' : M < m := by omega
      have hil : 12 * (i / 12) + q < 5160 := by omega
      have hms := mFirst_succ hil
      have hlen : mLen (12 * (i / 12) + q) = mLong y M := by
        unfold mLen
        rw [show (12 * (i / 12) + q) / 12 = i / 12 by omega, show (12 * (i / 12) + q) % 12 = q by omega, ← hy, ← hM]
      rw [hlen, ← hN] at hms
      have hb2 : mFirst (12 * (i / 12) + q + 1) ≤ mFirst i := mFirst_mono (by omega) (by omega)
      obtain ⟨N', hN'⟩ : ∃ x, x = mFirst (12 * (i / 12) + (q + 1)) := ⟨_, rfl⟩
      have hms' : N' = N + mLong y M := by rw [hN']; exact hms
      have hb3 : N' ≤ mFirst i := by rw [hN']; exact hb2
      obtain ⟨L, hL⟩ : ∃ x, mLong y M = x := ⟨_, rfl⟩
      rw [hL] at hms'
      obtain ⟨M', hM'⟩ : ∃ x, x = q + 1 + 1 := ⟨_, rfl⟩
      have w1 : IntKind.i64.wrap ((N : Int) + (L : Int)) = (N' : Int) := wadd hms'.symm (by omega)
      have w2 : IntKind.i64.wrap ((M : Int) + 1) = (M' : Int) := wadd (b := 1) (by omega) (by omega)
      simp -implicitDefEqProofs [r1, r4, r6, kb, c1, c1']
      refine ACall.eq (c_ref4Long (y := y) (m := M) (by omega) (by omega)) ?_
      rw [hL]
      simp -implicitDefEqProofs [r4, r6, w1, w2]
      exact AGo.again ih (m' := 12 - (q + 1)) (by omega) (HLe.refl _) ⟨q + 1, M', N', by omega, rfl, hM', hN', by simp [r1], by simp, by simp, rfl⟩
end Go.Proofs.YtmoncokklkiikaaGreatDoor
