/- What a law's arguments are. What a law's arguments are: jobs. The chapter's rows on jobs; the law's walk. JobBack: the walk. What a law's arguments are: jobs with their bounds, rows of bytes. -/
import Derived.Test.YtmoncokklkiikaaGreatDoorP15
import Derived.Test.YtmoncokklkiikaaGreatDoorP25
import Derived.Test.YtmoncokklkiikaaGreatDoorTie
import Derived.Test.YtmoncokklkiikaaGreatDoorCards
import Derived.Test.YtmoncokklkiikaaGreatDoorP23
import Derived.Test.YtmoncokklkiikaaGreatDoorP24
set_option linter.unusedSimpArgs false
set_option linter.unusedVariables false
set_option linter.unnecessarySimpa false
namespace Go.Proofs.YtmoncokklkiikaaGreatDoor
open Rg Go Go.RowKit
theorem laidOut : laidOutB Tryz.prog = true := by kernel_rfl
theorem fits_i64 {a : AV} (h : fits (.int .i64) a) : ∃ n : Int, a = .sc (.int .i64 n) ∧ -9223372036854775808 ≤ n ∧ n ≤ 9223372036854775807 := by
  simp only [fits] at h
  obtain ⟨n, rfl, h⟩ := h
  exact ⟨n, rfl, by simpa [Lit.wf, IntKind.min, IntKind.max, IntKind.bits, IntKind.signed] using h⟩
theorem fits_u64 {a : AV} (h : fits (.int .u64) a) : ∃ n : Nat, a = .sc (.int .u64 (n : Int)) ∧ n < 18446744073709551616 := by
  simp only [fits] at h
  obtain ⟨n, rfl, h⟩ := h
  have h2 : 0 ≤ n ∧ n ≤ 18446744073709551615 := by simpa [Lit.wf, IntKind.min, IntKind.max, IntKind.bits, IntKind.signed] using h
  obtain ⟨m, rfl⟩ := Int.eq_ofNat_of_zero_le h2.1
  exact ⟨m, rfl, by omega⟩
theorem fits_str {a : AV} (h : fits .str a) : ∃ s : List UInt8, a = str s ∧ s.length ≤ maxLen := by
  simp only [fits] at h
  obtain ⟨s, rfl, h⟩ := h
  refine ⟨s.data.toList, rfl, ?_⟩
  rw [Lib.size_eq] at h
  exact h
theorem fits_fld {a : AV} (h : fits (.st [.int .u64, .bool]) a) : ∃ f : Fld, a = fAV f ∧ f.bits < 18446744073709551616 := by
  simp only [fits] at h
  obtain ⟨cs, rfl, h⟩ := h
  simp only [fitsL] at h
  obtain ⟨x, r, rfl, hx, y, r2, rfl, hy, rfl⟩ := h
  obtain ⟨n, rfl, hn⟩ := fits_u64 hx
  simp only [fits] at hy
  obtain ⟨b, rfl⟩ := hy
  exact ⟨⟨n, b⟩, by simp [AV.cells, fAV], hn⟩
theorem bool_type : Tryz.prog.underlying 4 = some .bool := by kernel_rfl
end Go.Proofs.YtmoncokklkiikaaGreatDoor
namespace Go.Proofs.YtmoncokklkiikaaGreatDoor
open Rg Go
theorem fits_nats : ∀ {xs : List AV}, (∀ x ∈ xs, fits (.int .u64) x) → ∃ L : List Nat, xs = L.map fun n : Nat => (.sc (.int .u64 n) : AV)
  | [], _ => ⟨[], rfl⟩
  | x :: r, h => by
    obtain ⟨n, rfl, _⟩ := fits_u64 (h x (by simp))
    obtain ⟨L, rfl⟩ := fits_nats (xs := r) fun y hy => h y (List.mem_cons_of_mem _ hy)
    exact ⟨n :: L, rfl⟩
theorem fits_job {a : AV} (h : fits (.st [.int .u64, .str, .str, .int .i64, .int .i64, .int .i64, .int .i64, .int .i64, .sl (.int .u64), .bool, .int .u64, .int .i64]) a) : ∃ j : Jb, a = jbAV j .no ∧ True := by
  rw [fits] at h
  obtain ⟨cs, rfl, h⟩ := h
  simp only [fitsL] at h
  obtain ⟨a0, r0, rfl, h0, a1, r1, rfl, h1, a2, r2, rfl, h2, a3, r3, rfl, h3, a4, r4, rfl, h4, a5, r5, rfl, h5, a6, r6, rfl, h6, a7, r7, rfl, h7, a8, r8, rfl, h8, a9, r9, rfl, h9, a10, r10, rfl, h10, a11, r11, rfl, h11, rfl⟩ := h
  obtain ⟨id, rfl, _⟩ := fits_u64 h0
  obtain ⟨name, rfl, _⟩ := fits_str h1
  obtain ⟨ex, rfl, _⟩ := fits_str h2
  obtain ⟨pol, rfl, _⟩ := fits_i64 h3
  obtain ⟨gr, rfl, _⟩ := fits_i64 h4
  obtain ⟨lim, rfl, _⟩ := fits_i64 h5
  obtain ⟨ret, rfl, _⟩ := fits_i64 h6
  obtain ⟨tim, rfl, _⟩ := fits_i64 h7
  rw [fits] at h8
  obtain ⟨xs, rfl, _, h8⟩ := h8
  obtain ⟨deps, rfl⟩ := fits_nats h8
  rw [fits] at h9
  obtain ⟨pau, rfl⟩ := h9
  obtain ⟨ver, rfl, _⟩ := fits_u64 h10
  obtain ⟨seen, rfl, _⟩ := fits_i64 h11
  exact ⟨⟨id, name, ex, pol, gr, lim, ret, tim, deps, pau, ver, seen⟩, rfl, trivial⟩
end Go.Proofs.YtmoncokklkiikaaGreatDoor
namespace Go.Proofs.YtmoncokklkiikaaGreatDoor
open Rg Go
variable {H : Heap}
def jy : Jb := ⟨0, [97], [64, 100, 97, 105, 108, 121], 1, 0, 1, 0, 1, [], false, 0, 0⟩
def jyx : Ex := ⟨⟨1, false⟩, ⟨1, false⟩, ⟨4294967294, true⟩, ⟨8190, true⟩, ⟨127, true⟩⟩
set_option maxRecDepth 100000 in
theorem jy_cron : cronK [64, 100, 97, 105, 108, 121] = (jyx, 0) := by decide +kernel
set_option maxRecDepth 100000 in
theorem jy_x : cronK [120] = (ex0, 70) := by decide +kernel
theorem jy_ok : mayX jyx = true := by decide +kernel
theorem jy_bit : (∀ m, m < 60 → hasB jyx.a.bits ((m : Nat) : Int) = true → m = 0) ∧ ∀ h, h < 24 → hasB jyx.b.bits ((h : Nat) : Int) = true → h = 0 := by decide +kernel
theorem jy_may : mayJ jy = 0 := by
  have e : (cronK jy.ex).2 = 0 := by rw [show jy.ex = [64, 100, 97, 105, 108, 121] from rfl, jy_cron]
  unfold mayJ
  rw [e]
  decide
theorem jy_may2 : mayJ { jy with name := [] } = 140 := by unfold mayJ; decide
theorem jy_may3 : mayJ { jy with ex := [120] } = 70 := by
  have e : (cronK ({ jy with ex := [120] } : Jb).ex).2 = 70 := by rw [show ({ jy with ex := [120] } : Jb).ex = [120] from rfl, jy_x]
  unfold mayJ
  rw [e]
  decide
theorem jy_fire {k : Nat} (h : k ≤ 172800) (hf : fireB jyx k = true) : k = 0 ∨ k = 86400 ∨ k = 172800 := by
  obtain ⟨h1, _, _, h2, h3⟩ := (fire_eq jyx (by omega)).1 hf
  have e2 := jy_bit.1 _ (by omega) h2
  have e3 := jy_bit.2 _ (by omega) h3
  omega
theorem jy_f : fireB jyx 0 = true ∧ fireB jyx 86400 = true ∧ fireB jyx 172800 = true := by decide +kernel
theorem jy_rows : firesL jyx (-1) 172800 = [0, 86400, 172800] := by
  have l3 : IsLast jyx 172800 (some 172800) := ⟨by omega, jy_f.2.2, fun k h1 h2 => by omega⟩
  have no : ∀ k : Nat, k ≤ 172800 → k ≠ 0 → k ≠ 86400 → k ≠ 172800 → fireB jyx k = false := fun k h0 h1 h2 h3 => by
    cases hf : fireB jyx k with
    | false => rfl
    | true => rcases jy_fire h0 hf with h | h | h <;> omega
  have l2 : IsLast jyx 172799 (some 86400) := ⟨by omega, jy_f.2.1, fun k h1 h2 => no k (by omega) (by omega) (by omega) (by omega)⟩
  have l1 : IsLast jyx 86399 (some 0) := ⟨by omega, jy_f.1, fun k h1 h2 => no k (by omega) (by omega) (by omega) (by omega)⟩
  have e3 := fires_last (x := jyx) (a := -1) (by omega) (by omega) l3
  have e2 := fires_last (x := jyx) (a := -1) (by omega) (by omega) l2
  have e1 := fires_last (x := jyx) (a := -1) (by omega) (by omega) l1
  rw [show ((172800 : Nat) : Int) = 172800 from rfl] at e3
  rw [e3, show (172800 : Int) - 1 = ((172799 : Nat) : Int) by omega, e2, show ((86400 : Nat) : Int) - 1 = ((86399 : Nat) : Int) by omega, e1, fires_none (fun k _ h => by omega)]
  rfl
theorem jy_9 : firesB jy (-1) 172800 9 = [0, 86400, 172800] := by
  unfold firesB firesJ
  rw [if_neg (by rw [jy_may]; omega), show jy.ex = [64, 100, 97, 105, 108, 121] from rfl, jy_cron, jy_rows]
  rfl
theorem jy_2 : firesB jy (-1) 172800 2 = [86400, 172800] := by
  unfold firesB firesJ
  rw [if_neg (by rw [jy_may]; omega), show jy.ex = [64, 100, 97, 105, 108, 121] from rfl, jy_cron, jy_rows]
  rfl
theorem c_mom (L : List Int) (t u : Rg.Tok) (ys : List AV) (hy : ys = L.map i64) (hL : L.length ≤ 1000000) : AOk Tryz.prog 21 [.sl (L.map i64) t, .sl ys u] H (.sc (.bool true)) H := by
  subst hy
  exact c_moments L t u hL
abbrev jyL (nm ex : List UInt8) : List AV := [.sc (.int .u64 0), str nm, str ex, .sc (.int .i64 1), .sc (.int .i64 0), .sc (.int .i64 1), .sc (.int .i64 0), .sc (.int .i64 1), .sl [] .nil, .sc (.bool false), .sc (.int .u64 0), .sc (.int .i64 0)]
theorem jy_m1 (hG : Glob H) : AOk Tryz.prog 16 [.agg (jyL [97] [64, 100, 97, 105, 108, 121])] H (.sc (.int .i64 0)) H := by
  have := c_jobMay (H := H) hG jy .nil (by decide)
  rw [jy_may] at this
  exact this
theorem jy_m2 (hG : Glob H) : AOk Tryz.prog 16 [.agg (jyL [] [64, 100, 97, 105, 108, 121])] H (.sc (.int .i64 140)) H := by
  have := c_jobMay (H := H) hG { jy with name := [] } .nil (by decide)
  rw [jy_may2] at this
  exact this
theorem jy_m3 (hG : Glob H) : AOk Tryz.prog 16 [.agg (jyL [97] [120])] H (.sc (.int .i64 70)) H := by
  have := c_jobMay (H := H) hG { jy with ex := [120] } .nil (by decide)
  rw [jy_may3] at this
  exact this
theorem jy_f9 (hG : Glob H) : AOk Tryz.prog 20 [.agg (jyL [97] [64, 100, 97, 105, 108, 121]), .sc (.int .i64 (-1)), .sc (.int .i64 172800), .sc (.int .i64 9)] H (.sl (([0, 86400, 172800] : List Int).map i64) .no) H := by
  have := c_jobFires (H := H) hG jy .nil (by decide) (a := -1) (b := 172800) (m := 9) (by decide)
  rw [jy_9] at this
  exact this
theorem jy_f2 (hG : Glob H) : AOk Tryz.prog 20 [.agg (jyL [97] [64, 100, 97, 105, 108, 121]), .sc (.int .i64 (-1)), .sc (.int .i64 172800), .sc (.int .i64 2)] H (.sl (([86400, 172800] : List Int).map i64) .no) H := by
  have := c_jobFires (H := H) hG jy .nil (by decide) (a := -1) (b := 172800) (m := 2) (by decide)
  rw [jy_2] at this
  exact this
set_option maxHeartbeats 2000000 in
theorem c_known14 (hG : Glob H) : AOk Tryz.prog 14 [] H (.sc (.bool true)) H := by
  refine ACalls.into Tryz.func14 rfl Tryz.ntmps14 Tryz.results14 (by simp) ?_
  simp -implicitDefEqProofs
  refine AAlloc.intro fun b1 h1 => ?_
  simp -implicitDefEqProofs
  generalize hK : Heap.set _ b1 _ = K1
  have k1 : K1 b1 = some (.cells (jyL [97] [64, 100, 97, 105, 108, 121]) 25) := by rw [← hK]; simp [Heap.set]
  have kG : Glob K1 := by rw [← hK]; exact hG.new h1
  have kG0 := kG
  have kW : HWk H K1 := by rw [← hK]; exact HWk.new h1 (HWk.refl _)
  clear hK
  obtain ⟨J, hJ⟩ : ∃ J : (Nat → AV) → Heap → Prop, J = fun ρ K => ∃ b2 b3, b1 ≠ b2 ∧ b1 ≠ b3 ∧ b2 ≠ b3 ∧ K1 b2 = none ∧ K1 b3 = none ∧ ρ 1 = .sc (.pointer (some ⟨b1, 0, none⟩)) ∧ ρ 2 = .sc (.pointer (some ⟨b2, 0, none⟩)) ∧ ρ 3 = .sc (.pointer (some ⟨b3, 0, none⟩)) ∧
    K b1 = some (.cells (jyL [97] [64, 100, 97, 105, 108, 121]) 25) ∧ K b2 = some (.cells (jyL [97] [64, 100, 97, 105, 108, 121]) 25) ∧ K b3 = some (.cells (jyL [97] [64, 100, 97, 105, 108, 121]) 25) ∧
    Glob K ∧ HLe K1 K := ⟨_, rfl⟩
  refine go_draw3J J [0, 1] K1 f_mixed (by decide +kernel) (HC.refl _) ?_ ?_
  · simp -implicitDefEqProofs
    repeat (refine aq3_op ?_; simp -implicitDefEqProofs [k1])
    refine AWK.two 2 3 (by decide +kernel) ?_ ?_
    · refine AWE.op rfl ?_
      simp -implicitDefEqProofs
      refine AWS.alloc fun b2 h2 => ?_
      refine AWK.one 3 (by decide +kernel) ?_
      refine AWE.op rfl ?_
      simp -implicitDefEqProofs
      refine AWS.alloc fun b3 h3 => ?_
      have n1x : b1 ≠ b2 := by intro e; subst e; rw [k1] at h2; cases h2
      have n1y : b1 ≠ b3 := by intro e; subst e; simp [Heap.set, n1x, k1] at h3
      have nxy : b2 ≠ b3 := by intro e; subst e; simp [Heap.set] at h3
      have h3' : K1 b3 = none := (HLe.set_fresh h2).none h3
      refine AWK.one 4 (by decide +kernel) ?_
      refine AWE.op rfl ?_
      simp -implicitDefEqProofs [nxy]
      refine AWS.store (by simp [Heap.set, nxy]; exact ⟨rfl, rfl⟩) (by repeat (first | exact HC.refl _ | refine HC.setn ?_ (by assumption))) ?_
      refine AWK.one 5 (by decide +kernel) ?_
      refine AWE.op rfl ?_
      simp -implicitDefEqProofs [nxy.symm]
      refine AWS.store (by simp [Heap.set, nxy.symm]; exact ⟨rfl, rfl⟩) (by repeat (first | exact HC.refl _ | refine HC.setn ?_ (by assumption))) ?_
      refine AWK.fin (by decide +kernel) ?_
      rw [hJ]
      refine ⟨b2, b3, by assumption, by assumption, by first | exact nxy | exact nxy.symm, by assumption, by assumption, by simp, by simp, by simp, by simp [Heap.set, n1x, n1y, k1], by simp [Heap.set, nxy], by simp [Heap.set], ?_, ?_⟩
      · exact kG.le (by repeat (first | exact HLe.refl _ | refine HLe.set_new ?_ (by assumption)))
      · repeat (first | exact HLe.refl _ | refine HLe.set_new ?_ (by assumption))
    · refine AWE.op rfl ?_
      simp -implicitDefEqProofs
      refine AWS.alloc fun b3 h2 => ?_
      refine AWK.one 2 (by decide +kernel) ?_
      refine AWE.op rfl ?_
      simp -implicitDefEqProofs
      refine AWS.alloc fun b2 h3 => ?_
      have n1x : b1 ≠ b3 := by intro e; subst e; rw [k1] at h2; cases h2
      have n1y : b1 ≠ b2 := by intro e; subst e; simp [Heap.set, n1x, k1] at h3
      have nxy : b3 ≠ b2 := by intro e; subst e; simp [Heap.set] at h3
      have h3' : K1 b2 = none := (HLe.set_fresh h2).none h3
      refine AWK.one 4 (by decide +kernel) ?_
      refine AWE.op rfl ?_
      simp -implicitDefEqProofs
      refine AWS.store (by simp [Heap.set]; exact ⟨rfl, rfl⟩) (by repeat (first | exact HC.refl _ | refine HC.setn ?_ (by assumption))) ?_
      refine AWK.one 5 (by decide +kernel) ?_
      refine AWE.op rfl ?_
      simp -implicitDefEqProofs [nxy]
      refine AWS.store (by simp [Heap.set, nxy]; exact ⟨rfl, rfl⟩) (by repeat (first | exact HC.refl _ | refine HC.setn ?_ (by assumption))) ?_
      refine AWK.fin (by decide +kernel) ?_
      rw [hJ]
      refine ⟨b2, b3, by assumption, by assumption, by first | exact nxy | exact nxy.symm, by assumption, by assumption, by simp, by simp, by simp, by simp [Heap.set, n1x, n1y, k1], by simp [Heap.set, nxy.symm], by simp [Heap.set], ?_, ?_⟩
      · exact kG.le (by repeat (first | exact HLe.refl _ | refine HLe.set_new ?_ (by assumption)))
      · repeat (first | exact HLe.refl _ | refine HLe.set_new ?_ (by assumption))
  · rw [hJ]
    clear hJ
    rintro ρ K ⟨b2, b3, n12, n13, n23, hb2, hb3, r1, r2, r3, k1', k2, k3, kG, kL⟩
    simp -implicitDefEqProofs [r1, r2, r3, k1', k2, k3, n12, n13, n23.symm]
    generalize hK : Heap.set (Heap.set K b2 _) b3 _ = K4
    have g1 : K4 b1 = some (.cells (jyL [97] [64, 100, 97, 105, 108, 121]) 25) := by rw [← hK]; simp [Heap.set, n12, n13, k1']
    have g2 : K4 b2 = some (.cells (jyL [] [64, 100, 97, 105, 108, 121]) 25) := by rw [← hK]; simp [Heap.set, n23]
    have g3 : K4 b3 = some (.cells (jyL [97] [120]) 25) := by rw [← hK]; simp [Heap.set]
    have gL : HLe K1 K4 := by rw [← hK]; exact HLe.set_new (HLe.set_new kL hb2) hb3
    have gG : Glob K4 := kG0.le gL
    clear hK
    refine ACall.eq (jy_m1 gG) ?_
    simp -implicitDefEqProofs [r2, g2]
    refine ACall.eq (jy_m2 gG) ?_
    simp -implicitDefEqProofs [r3, g3]
    refine ACall.eq (jy_m3 gG) ?_
    simp -implicitDefEqProofs [r1, g1]
    refine ACall.eq (jy_f9 gG) ?_
    simp -implicitDefEqProofs
    refine ACall.eq (c_mom [0, 86400, 172800] _ _ _ rfl (by decide)) ?_
    simp -implicitDefEqProofs [r1, g1]
    refine ACall.eq (jy_f2 gG) ?_
    simp -implicitDefEqProofs
    refine ACall.eq (c_mom [86400, 172800] _ _ _ rfl (by decide)) ?_
    simp -implicitDefEqProofs
    exact kW.trans gL.wk
def greatJ (j : Jb) : Bool := decide (100 < j.name.length) || decide (600 < j.ex.length) || decide (20 < j.deps.length)
set_option maxHeartbeats 1000000 in
theorem c_great14 (j : Jb) (t : Rg.Tok) : AOk Tryz.prog 15 [jbAV j t] H (.sc (.bool (greatJ j))) H := by
  unfold greatJ
  refine ACalls.into Tryz.func15 rfl Tryz.ntmps15 Tryz.results15 (by simp) ?_
  simp -implicitDefEqProofs
  refine AAlloc.intro fun b1 h1 => ?_
  have kW : ∀ o, HWk H (H.set b1 o) := fun o => HWk.new h1 (HWk.refl _)
  by_cases c1 : 100 < j.name.length
  · have c1' : (100 : Int) < (j.name.length : Int) := by omega
    simp -implicitDefEqProofs [c1, c1']
    exact kW _
  · have c1' : ¬ (100 : Int) < (j.name.length : Int) := by omega
    by_cases c2 : 600 < j.ex.length
    · have c2' : (600 : Int) < (j.ex.length : Int) := by omega
      simp -implicitDefEqProofs [c1, c1', c2, c2']
      exact kW _
    · have c2' : ¬ (600 : Int) < (j.ex.length : Int) := by omega
      by_cases c3 : 20 < j.deps.length
      · have c3' : (20 : Int) < (j.deps.length : Int) := by omega
        simp -implicitDefEqProofs [c1, c1', c2, c2', c3, c3']
        exact kW _
      · have c3' : ¬ (20 : Int) < (j.deps.length : Int) := by omega
        simp -implicitDefEqProofs [c1, c1', c2, c2', c3, c3']
        exact kW _
end Go.Proofs.YtmoncokklkiikaaGreatDoor
namespace Go.Proofs.YtmoncokklkiikaaGreatDoor
open Rg Go
variable {H : Heap}
theorem putJ_len {j : Jb} (M : JbMay j) (hs : j.ex.length ≤ 600) : (putJ j).length ≤ 5000 := by
  have a1 := numsB_len [j.id]
  have a2 := numsB_len [j.pol.toNat, j.gr.toNat, j.lim.toNat, j.ret.toNat, j.tim.toNat, j.deps.length]
  have a3 := numsB_len j.deps
  have a4 := numsB_len [if j.pau then 1 else 0, j.ver]
  have a5 := putB_len (zig j.seen)
  have a6 := putB_len j.name.length
  have a7 := putB_len j.ex.length
  have := M.deps
  have := M.name
  simp only [putJ, putTextB, List.length_append, List.length_cons, List.length_nil] at *
  omega
theorem fires_cut {j : Jb} {a mid b m : Int} (hm : mayJ j = 0) (q1 : ¬ a < -1) (q2 : ¬ mid < a) (q3 : ¬ b < mid) (q4 : ¬ mid < 0) (q5 : ¬ 13569465600 ≤ b) :
    (firesB j a mid m ++ firesB j mid b m).drop ((firesB j a mid m ++ firesB j mid b m).length - m.toNat) = firesB j a b m := by
  have e1 : firesB j a mid m = firesJ j a mid m := by unfold firesB; rw [if_neg (by omega)]
  have e2 : firesB j mid b m = firesJ j mid b m := by unfold firesB; rw [if_neg (by omega)]
  have e3 : firesB j a b m = firesJ j a b m := by unfold firesB; rw [if_neg (by omega)]
  rw [e1, e2, e3]
  unfold firesJ
  rw [fires_split (a := a) (m := mid) (b := b) (by omega) (by omega) (by omega), newest_app]
  rfl
set_option maxHeartbeats 8000000 in
theorem jobBack_walk (hG : Glob H) (j : Jb) (t : Rg.Tok) (ho : JbOk j) (A B : List UInt8) (tA tB : Rg.Tok) (a mid b m : Int) :
    AOk Tryz.prog 3 [jbAV j t, .sl (u8s A) tA, .sl (u8s B) tB, .sc (.int .i64 a), .sc (.int .i64 mid), .sc (.int .i64 b), .sc (.int .i64 m)] H (.sc (.bool true)) H := by
  refine ACalls.into Tryz.func3 rfl Tryz.ntmps3 Tryz.results3 (by simp) ?_
  simp -implicitDefEqProofs
  refine AAlloc.intro fun b7 h7 => ?_
  simp -implicitDefEqProofs
  generalize hK : Heap.set _ b7 _ = K
  have k7 : K b7 = some (.cells (jbC j t) 25) := by rw [← hK]; simp [Heap.set]
  have kG : Glob K := by rw [← hK]; exact hG.new h7
  have kW : HLe H K := by rw [← hK]; exact HLe.set_fresh h7
  clear hK
  refine ACall.eq (c_known14 kG) ?_
  simp -implicitDefEqProofs [k7]
  refine ACall.eq (c_great14 j t) ?_
  cases hgr : greatJ j with
  | true => simp -implicitDefEqProofs; exact kW.wk
  | false =>
    simp only [greatJ, Bool.or_eq_false_iff, decide_eq_false_iff_not, Nat.not_lt] at hgr
    obtain ⟨⟨g1, g2⟩, g3⟩ := hgr
    by_cases cA : 50 < A.length
    · have cA' : (50 : Int) < (A.length : Int) := by omega
      simp -implicitDefEqProofs [cA, cA']
      exact kW.wk
    · have cA' : ¬ (50 : Int) < (A.length : Int) := by omega
      by_cases cB : 50 < B.length
      · have cB' : (50 : Int) < (B.length : Int) := by omega
        simp -implicitDefEqProofs [cA, cA', cB, cB']
        exact kW.wk
      · have cB' : ¬ (50 : Int) < (B.length : Int) := by omega
        by_cases cm : m < 0
        · simp -implicitDefEqProofs [cA, cA', cB, cB', cm]
          exact kW.wk
        · by_cases cm2 : 20 < m
          · simp -implicitDefEqProofs [cA, cA', cB, cB', cm, cm2]
            exact kW.wk
          · have hmay := c_jobMay kG j t (by omega)
            obtain ⟨em, hem⟩ : ∃ em, mayJ j = em := ⟨_, rfl⟩
            rw [hem] at hmay
            simp -implicitDefEqProofs [cA, cA', cB, cB', cm, cm2, k7]
            refine ACall.eq hmay ?_
            by_cases he0 : em = 0
            · subst he0
              simp -implicitDefEqProofs [k7]
              have hput := c_jobPut kG j t ho hem (by omega)
              refine ACall.eq hput ?_
              have M := JbMay.of hem
              have hPl := putJ_len M g2
              obtain ⟨P, hP⟩ : ∃ P, putJ j = P := ⟨_, rfl⟩
              have hparse : parseJ (A ++ P ++ B) A.length = some (j, A.length + P.length) := by
                rw [← hP]
                exact parse_put (Q := B) (by rw [List.append_assoc, List.drop_left]) ho hem (by omega)
              rw [hP] at hPl ⊢
              have hl2 : (A ++ P).length ≤ 5060 := by rw [List.length_append]; omega
              have hl3 : (A ++ P ++ B).length ≤ 5200 := by rw [List.length_append]; omega
              have hl4 : A.length ≤ (A ++ P ++ B).length := by rw [List.length_append, List.length_append]; omega
              obtain ⟨C2, hC2⟩ : ∃ C, A ++ P = C := ⟨_, rfl⟩
              rw [hC2] at hparse hl2 hl3 hl4
              obtain ⟨C3, hC3⟩ : ∃ C, C2 ++ B = C := ⟨_, rfl⟩
              rw [hC3] at hparse hl3 hl4
              simp -implicitDefEqProofs
              refine AApp.growsF el_26 .zero (HLe.refl _) rfl (szs_u8s _) (by simp; omega) (by simp [maxLen]; omega) fun t1 G1 K1 hg1 hl1 => ?_
              rw [List.nil_append] at hg1 ⊢
              simp -implicitDefEqProofs
              refine AApp.growsF el_26 hg1 hl1 (szs_u8s _) (szs_u8s _) (by simp; omega) (by simp [maxLen]; omega) fun t2 G2 K2 hg2 hle2 => ?_
              rw [← u8s_app, hC2] at hg2 ⊢
              simp -implicitDefEqProofs
              refine AApp.growsF el_26 hg2 hle2 (szs_u8s _) (szs_u8s _) (by simp; omega) (by simp [maxLen]; omega) fun t3 G3 K3 hg3 hle3 => ?_
              rw [← u8s_app, hC3] at hg3 ⊢
              have kW3 : HLe H K3 := kW.trans (hg3.le.trans hle3)
              have k73 : K3 b7 = some (.cells (jbC j t) 25) := (hg3.le.trans hle3) b7 _ k7
              have hcp := c_jobParse (H := K3) (hG.le kW3) C3 t3 A.length hl4 (by omega)
              rw [hparse] at hcp
              simp -implicitDefEqProofs
              refine ACall.eq hcp ?_
              simp -implicitDefEqProofs [parseAV]
              refine AAlloc.intro fun b17 h17 => ?_
              have n17 : b7 ≠ b17 := by rintro rfl; rw [k73] at h17; cases h17
              have hsame := fun K => c_jobSame (H := K) j j .no t (by omega)
              rw [sameJ_iff.2 rfl] at hsame
              have w1 : IntKind.i64.wrap ((A.length : Int) + (P.length : Int)) = (A.length : Int) + (P.length : Int) := wrap_i64 (by omega) (by omega)
              simp -implicitDefEqProofs [n17, k73]
              refine ACall.eq (hsame _) ?_
              simp -implicitDefEqProofs [w1]
              generalize hK4 : Heap.set _ b17 _ = K4
              have k74 : K4 b7 = some (.cells (jbC j t) 25) := by rw [← hK4]; simp [Heap.set, n17, k73]
              have kW4 : HLe H K4 := by rw [← hK4]; exact HLe.set_new kW3 (kW3.none h17)
              clear hK4
              have kG4 : Glob K4 := hG.le kW4
              by_cases q1 : a < -1
              · simp -implicitDefEqProofs [q1]; exact kW4.wk
              by_cases q2 : mid < a
              · simp -implicitDefEqProofs [q1, q2]; exact kW4.wk
              by_cases q3 : b < mid
              · simp -implicitDefEqProofs [q1, q2, q3]; exact kW4.wk
              by_cases q4 : mid < 0
              · simp -implicitDefEqProofs [q1, q2, q3, q4]; exact kW4.wk
              by_cases q5 : 13569465600 ≤ b
              · simp -implicitDefEqProofs [q1, q2, q3, q4, q5]; exact kW4.wk
              have f1 := c_jobFires kG4 j t (by omega) (a := a) (b := b) (m := m) (by omega)
              have f2 := c_jobFires kG4 j t (by omega) (a := a) (b := mid) (m := m) (by omega)
              have f3 := c_jobFires kG4 j t (by omega) (a := mid) (b := b) (m := m) (by omega)
              have hcut := fires_cut (m := m) hem q1 q2 q3 q4 q5
              have b0 := firesB_len j a b m
              have b1 := firesB_len j a mid m
              have b2 := firesB_len j mid b m
              obtain ⟨F0, hF0⟩ : ∃ F, firesB j a b m = F := ⟨_, rfl⟩
              obtain ⟨F1, hF1⟩ : ∃ F, firesB j a mid m = F := ⟨_, rfl⟩
              obtain ⟨F2, hF2⟩ : ∃ F, firesB j mid b m = F := ⟨_, rfl⟩
              rw [hF0] at f1 hcut b0
              rw [hF1] at f2 hcut b1
              rw [hF2] at f3 hcut b2
              obtain ⟨L0, hL0⟩ : ∃ L, (F0.map fun n : Nat => (n : Int)) = L := ⟨_, rfl⟩
              obtain ⟨L1, hL1⟩ : ∃ L, (F1.map fun n : Nat => (n : Int)) = L := ⟨_, rfl⟩
              obtain ⟨L2, hL2⟩ : ∃ L, (F2.map fun n : Nat => (n : Int)) = L := ⟨_, rfl⟩
              rw [hL0] at f1
              rw [hL1] at f2
              rw [hL2] at f3
              have z1 : L1.length = F1.length := by rw [← hL1]; simp
              have z2 : L2.length = F2.length := by rw [← hL2]; simp
              have z0 : L0.length = F0.length := by rw [← hL0]; simp
              have hdrop : (L1 ++ L2).drop ((L1 ++ L2).length - m.toNat) = L0 := by
                rw [← hL0, ← hcut, ← hL1, ← hL2, ← List.map_append, List.map_drop, List.length_map]
              simp -implicitDefEqProofs [q1, q2, q3, q4, q5]
              first | refine go_draw 40 f_mixed (by decide +kernel) ?_ | refine go_draw 18 f_mixed (by decide +kernel) ?_
              simp -implicitDefEqProofs [k74]
              refine AQS.eq f1 ?_
              simp -implicitDefEqProofs [k74]
              refine AQS.eq f2 ?_
              simp -implicitDefEqProofs [k74]
              refine AQS.eq f3 ?_
              simp -implicitDefEqProofs
              have z64 : ∀ L : List Int, szs 1 (L.map i64) = true := fun L => szs_map (f := i64) (fun _ => rfl) L
              refine AApp.growsF el_36 .zero (HLe.refl _) rfl (z64 _) (by simp; omega) (by simp [maxLen]; omega) fun t4 G4 K5 hg4 hle4 => ?_
              rw [List.nil_append] at hg4 ⊢
              simp -implicitDefEqProofs
              refine AApp.growsF el_36 hg4 hle4 (z64 _) (z64 _) (by simp; omega) (by simp [maxLen]; omega) fun t5 G5 K6 hg5 hle5 => ?_
              rw [← List.map_append] at hg5 ⊢
              obtain ⟨L3, hL3⟩ : ∃ L, L1 ++ L2 = L := ⟨_, rfl⟩
              rw [hL3] at hdrop hg5 ⊢
              have z3 : L3.length ≤ 40 := by rw [← hL3, List.length_append]; omega
              obtain ⟨k, hk⟩ : ∃ k, L3.length - m.toNat = k := ⟨_, rfl⟩
              rw [hk] at hdrop
              have w2 : IntKind.i64.wrap ((L3.length : Int) - m) = (L3.length : Int) - m := wrap_i64 (by omega) (by omega)
              have hmx : (if m < (L3.length : Int) then (L3.length : Int) - m else 0) = (k : Int) := by split <;> omega
              have hk1 : (k : Int) ≤ (L3.length : Int) := by omega
              have hk2 : k ≤ L3.length := by omega
              simp -implicitDefEqProofs [w2, hmx, hk1, hk2, z64 L3]
              have kW6 : HLe K4 K6 := hg5.le.trans hle5
              have k76 : K6 b7 = some (.cells (jbC j t) 25) := kW6 b7 _ k74
              have kG6 : Glob K6 := kG4.le kW6
              refine ACall.eq (c_mom L0 .no .no _ (by rw [← List.map_drop, hdrop]) (by omega)) ?_
              simp -implicitDefEqProofs [k76]
              refine ACall.eq (c_cronParse kG6 j.ex (by omega)) ?_
              obtain ⟨x, hx⟩ : ∃ x, cronK j.ex = x := ⟨_, rfl⟩
              have hxok := cronK_lt j.ex
              rw [hx] at hxok
              rw [hx]
              simp -implicitDefEqProofs
              refine AAlloc.intro fun b24 h24 => ?_
              simp -implicitDefEqProofs
              generalize hK8 : Heap.set _ b24 _ = K8
              have k8 : K8 b24 = some (.cells (exC x.1) 42) := by rw [← hK8]; simp [Heap.set]
              have kW8 : HLe H K8 := by rw [← hK8]; exact HLe.set_new (kW4.trans kW6) ((kW4.trans kW6).none h24)
              clear hK8
              have hmem : ∀ n ∈ F0, (n : Int) ≤ b ∧ a < (n : Int) ∧ fireB x.1 n = true := fun n hn => by
                rw [← hF0] at hn
                unfold firesB at hn
                rw [if_neg (by omega)] at hn
                have := fires_mem.1 (newest_sub hn)
                rw [hx] at this
                exact this
              have hsort : F0.Pairwise (· < ·) := by
                rw [← hF0]
                unfold firesB
                rw [if_neg (by omega)]
                exact newest_sorted (fires_sorted _ _ _)
              refine AGo.rounds (fun mm ρ K => ∃ i, mm = F0.length - i ∧ i ≤ F0.length ∧ ρ 26 = .sc (.int .i64 (i : Int)) ∧ ρ 3 = .sc (.int .i64 a) ∧ ρ 5 = .sc (.int .i64 b) ∧ ρ 20 = .sl (L0.map i64) .no ∧ ρ 24 = .sc (.pointer (some ⟨b24, 0, none⟩)) ∧ K = K8) ?_ (m := F0.length) (HLe.refl _)
                ⟨0, rfl, by omega, by simp, by simp, by simp, by simp, by simp, rfl⟩
              rintro mm ρ Kx ih ⟨i, rfl, hi, r26, r3, r5, r20, r24, rfl⟩
              rcases Nat.lt_or_ge i F0.length with hlt | hge
              · obtain ⟨n, hnj, hn⟩ := getAt hlt
                obtain ⟨m1, m2, m3⟩ := hmem n (List.mem_of_getElem? hn)
                have hltL : i < L0.length := by omega
                have hltI : (i : Int) < (L0.length : Int) := by omega
                have hLi : L0[i] = (n : Int) := by simp only [← hL0, List.getElem_map, hnj]
                have hn64 : n < 13569465600 := by omega
                have hfits : fitsX x.1 (clk n) = true := by simp only [fireB, Bool.and_eq_true] at m3; exact m3.2
                have w3 : IntKind.i64.wrap ((i : Int) + 1) = (i : Int) + 1 := wrap_i64 (by omega) (by omega)
                have w4 : IntKind.i64.wrap ((i : Int) - 1) = (i : Int) - 1 := wrap_i64 (by omega) (by omega)
                have c1 : ¬ (n : Int) ≤ a := by omega
                have c2 : ¬ b < (n : Int) := by omega
                simp -implicitDefEqProofs [r26, r3, r5, r20, r24, hltL, hltI, hLi, i64]
                refine ACall.eq (c_split_s hn64) ?_
                simp -implicitDefEqProofs
                refine AAlloc.intro fun b27 h27 => ?_
                have n27 : b24 ≠ b27 := by rintro rfl; rw [k8] at h27; cases h27
                simp -implicitDefEqProofs [r26, r3, r5, r20, r24]
                generalize hK9 : Heap.set Kx b27 _ = K9
                have k91 : K9 b24 = some (.cells (exC x.1) 42) := by rw [← hK9]; simp [Heap.set, n27, k8]
                have k92 : K9 b27 = some (.cells [.sc (.int .i64 (clk n).y), .sc (.int .i64 (clk n).m), .sc (.int .i64 (clk n).d), .sc (.int .i64 (clk n).h), .sc (.int .i64 (clk n).mi), .sc (.int .i64 (clk n).s), .sc (.int .i64 (clk n).w)] 48) := by rw [← hK9]; simp [Heap.set]
                have kl9 : HLe Kx K9 := by rw [← hK9]; exact HLe.set_fresh h27
                clear hK9
                have hcf := c_fits (H := K9) x.1 hxok (clk n)
                rw [hfits] at hcf
                first | refine go_draw 40 f_mixed (by decide +kernel) ?_ | refine go_draw 18 f_mixed (by decide +kernel) ?_
                simp -implicitDefEqProofs [r26, r3, r5, r20, r24, k91, k92]
                refine AQS.eq hcf ?_
                by_cases hi0 : i = 0
                · have hi0' : ¬ (0 : Int) < (i : Int) := by omega
                  have hi0n : ¬ 0 < i := by omega
                  simp -implicitDefEqProofs [r26, r3, r5, r20, r24, hltL, hltI, hLi, i64, c1, c2, hi0', hi0n, w3]
                  exact AGo.again ih (m' := F0.length - (i + 1)) (by omega) kl9 ⟨i + 1, rfl, by omega, by simp, by simp [r3], by simp [r5], by simp [r20], by simp [r24], rfl⟩
                · have hi0' : (0 : Int) < (i : Int) := by omega
                  have hi0n : 0 < i := by omega
                  have hpl : i - 1 < F0.length := by omega
                  obtain ⟨n0, hn0j, hn0⟩ := getAt hpl
                  have hplL : i - 1 < L0.length := by omega
                  have hL0i : L0[i - 1] = (n0 : Int) := by simp only [← hL0, List.getElem_map, hn0j]
                  have hrise : n0 < n := by
                    have := List.pairwise_iff_getElem.1 hsort (i - 1) i hpl hlt (by omega)
                    rw [hn0j, hnj] at this
                    exact this
                  have c3 : ¬ (n : Int) ≤ (n0 : Int) := by omega
                  have w5 : ((i : Int) - 1).toNat = i - 1 := by omega
                  have w6 : ¬ (i : Int) - 1 < 0 := by omega
                  simp -implicitDefEqProofs [r26, r3, r5, r20, r24, hltL, hltI, hLi, i64, c1, c2, hi0', hi0n, w4, w5, w6, hplL, hL0i, c3, w3]
                  exact AGo.again ih (m' := F0.length - (i + 1)) (by omega) kl9 ⟨i + 1, rfl, by omega, by simp, by simp [r3], by simp [r5], by simp [r20], by simp [r24], rfl⟩
              · have hnn : ¬ (i : Int) < (L0.length : Int) := by omega
                have hnn' : ¬ i < L0.length := by omega
                simp -implicitDefEqProofs [r26, r3, r5, r20, r24, hnn, hnn']
                exact kW8.wk
            · simp -implicitDefEqProofs [he0]
              exact kW.wk
end Go.Proofs.YtmoncokklkiikaaGreatDoor
namespace Go.Proofs.YtmoncokklkiikaaGreatDoor
open Rg Go Go.RowKit
theorem fits_natsB : ∀ {xs : List AV}, (∀ x ∈ xs, fits (.int .u64) x) → ∃ L : List Nat, xs = (L.map fun n : Nat => (.sc (.int .u64 n) : AV)) ∧ ∀ n ∈ L, n < 18446744073709551616
  | [], _ => ⟨[], rfl, by simp⟩
  | x :: r, h => by
    obtain ⟨n, rfl, hn⟩ := fits_u64 (h x (by simp))
    obtain ⟨L, rfl, hL⟩ := fits_natsB (xs := r) fun y hy => h y (List.mem_cons_of_mem _ hy)
    exact ⟨n :: L, rfl, fun m hm => by
      rcases List.mem_cons.1 hm with e | hm
      · rw [e]; exact hn
      · exact hL m hm⟩
theorem fits_jobk {a : AV} (h : fits (.st [.int .u64, .str, .str, .int .i64, .int .i64, .int .i64, .int .i64, .int .i64, .sl (.int .u64), .bool, .int .u64, .int .i64]) a) : ∃ j : Jb, a = jbAV j .no ∧ JbOk j := by
  rw [fits] at h
  obtain ⟨cs, rfl, h⟩ := h
  simp only [fitsL] at h
  obtain ⟨a0, r0, rfl, h0, a1, r1, rfl, h1, a2, r2, rfl, h2, a3, r3, rfl, h3, a4, r4, rfl, h4, a5, r5, rfl, h5, a6, r6, rfl, h6, a7, r7, rfl, h7, a8, r8, rfl, h8, a9, r9, rfl, h9, a10, r10, rfl, h10, a11, r11, rfl, h11, rfl⟩ := h
  obtain ⟨id, rfl, hid⟩ := fits_u64 h0
  obtain ⟨name, rfl, _⟩ := fits_str h1
  obtain ⟨ex, rfl, _⟩ := fits_str h2
  obtain ⟨pol, rfl, _⟩ := fits_i64 h3
  obtain ⟨gr, rfl, _⟩ := fits_i64 h4
  obtain ⟨lim, rfl, _⟩ := fits_i64 h5
  obtain ⟨ret, rfl, _⟩ := fits_i64 h6
  obtain ⟨tim, rfl, _⟩ := fits_i64 h7
  rw [fits] at h8
  obtain ⟨xs, rfl, _, h8⟩ := h8
  obtain ⟨deps, rfl, hdeps⟩ := fits_natsB h8
  rw [fits] at h9
  obtain ⟨pau, rfl⟩ := h9
  obtain ⟨ver, rfl, hver⟩ := fits_u64 h10
  obtain ⟨seen, rfl, _⟩ := fits_i64 h11
  exact ⟨⟨id, name, ex, pol, gr, lim, ret, tim, deps, pau, ver, seen⟩, rfl, ⟨hid, hver, hdeps⟩⟩
theorem fits_u8s : ∀ {xs : List AV}, (∀ x ∈ xs, fits (.int .u8) x) → ∃ L : List UInt8, xs = u8s L
  | [], _ => ⟨[], rfl⟩
  | x :: r, h => by
    have hx := h x (by simp)
    simp only [fits] at hx
    obtain ⟨n, rfl, hn⟩ := hx
    have h2 : 0 ≤ n ∧ n ≤ 255 := by simpa [Lit.wf, IntKind.min, IntKind.max, IntKind.bits, IntKind.signed] using hn
    obtain ⟨L, rfl⟩ := fits_u8s (xs := r) fun y hy => h y (List.mem_cons_of_mem _ hy)
    refine ⟨UInt8.ofNat n.toNat :: L, ?_⟩
    have e : ((UInt8.ofNat n.toNat).toNat : Int) = n := by simp; omega
    simp only [u8s, List.map_cons, e]
theorem fits_bytes {a : AV} (h : fits (.sl (.int .u8)) a) : ∃ L : List UInt8, a = .sl (u8s L) .no ∧ L.length ≤ maxLen := by
  rw [fits] at h
  obtain ⟨xs, rfl, h1, h2⟩ := h
  obtain ⟨L, rfl⟩ := fits_u8s h2
  exact ⟨L, rfl, by simpa using h1⟩
end Go.Proofs.YtmoncokklkiikaaGreatDoor
