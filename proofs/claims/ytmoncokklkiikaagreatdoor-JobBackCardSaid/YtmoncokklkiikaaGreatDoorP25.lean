/- Rows that are the same: what slices.Equal tells. Jobs that are the same. A row turned round in place. Rows of moments. What a text's expression is: fields that may be. A job's firings: the program's walk and the document's. A job's firings, as the document has them. What a law's row lists of package variables, as the start heap of its run; a world that meets it. -/
import Derived.Test.YtmoncokklkiikaaGreatDoorP18
import Derived.Test.YtmoncokklkiikaaGreatDoorP23
import Derived.Test.YtmoncokklkiikaaGreatDoorP17
import Derived.Test.YtmoncokklkiikaaGreatDoorP09
import Derived.Test.YtmoncokklkiikaaGreatDoorP16
import Derived.Test.YtmoncokklkiikaaGreatDoorP22
import Derived.Test.YtmoncokklkiikaaGreatDoorP14
import Derived.Lib.LaidU8
set_option linter.unusedSimpArgs false
set_option linter.unusedVariables false
set_option linter.unnecessarySimpa false
namespace Go.Proofs.YtmoncokklkiikaaGreatDoor
open Rg Go
variable {H : Heap}
theorem c_equalU (L M : List Nat) (t u : Rg.Tok) (hL : L.length ≤ 1000000) : AOk Tryz.prog 83 [.sl (L.map (fun n : Nat => (.sc (.int .u64 (n : Int)) : AV))) t, .sl (M.map (fun n : Nat => (.sc (.int .u64 (n : Int)) : AV))) u] H (.sc (.bool (decide (L = M)))) H := by
  refine ACalls.into Tryz.func83 rfl Tryz.ntmps83 Tryz.results83 (by simp) ?_
  simp -implicitDefEqProofs
  by_cases hl : L.length = M.length
  · have hl' : (L.length : Int) = (M.length : Int) := by omega
    simp -implicitDefEqProofs [hl, hl']
    refine AGo.rounds (fun m ρ K => ∃ i, m = L.length - i ∧ i ≤ L.length ∧ L.take i = M.take i ∧ ρ 13 = .sc (.int .i64 (i : Int)) ∧ ρ 0 = .sl (L.map (fun n : Nat => (.sc (.int .u64 (n : Int)) : AV))) t ∧ ρ 1 = .sl (M.map (fun n : Nat => (.sc (.int .u64 (n : Int)) : AV))) u ∧ ρ 12 = .sc (.int .i64 (M.length : Int)) ∧ K = H) ?_ (m := L.length) (HLe.refl _)
      ⟨0, rfl, by omega, by simp, by simp, by simp, by simp, by simp, rfl⟩
    rintro m ρ K ih ⟨i, rfl, hi, hti, r13, r0, r1, r12, rfl⟩
    rcases Nat.lt_or_ge i L.length with hlt | hge
    · have hlm : i < M.length := by omega
      obtain ⟨x, hx, hx2⟩ := getAt hlt
      obtain ⟨y, hy, hy2⟩ := getAt hlm
      have hlt' : (i : Int) < (L.length : Int) := by omega
      have hlm' : (i : Int) < (M.length : Int) := by omega
      have hw1 : IntKind.i64.wrap ((i : Int) + 1) = (i : Int) + 1 := wrap_i64 (by omega) (by omega)
      simp -implicitDefEqProofs [r13, r0, r1, r12, hlm, hlm']
      refine go_draw 9 f_mixed (by decide +kernel) ?_
      by_cases hxy : x = y
      · subst hxy
        simp -implicitDefEqProofs [r13, r0, r1, r12, hlt, hlm, hx, hy, hw1]
        refine AGo.again ih (m' := L.length - (i + 1)) (by omega) (HLe.refl _) ⟨i + 1, rfl, by omega, ?_, by simp, by simp [r0], by simp [r1], by simp [r12], rfl⟩
        rw [List.take_add_one, List.take_add_one, hti, hx2, hy2]
      · have hne : ¬ L = M := by
          intro e
          subst e
          rw [hx2] at hy2
          cases hy2
          exact hxy rfl
        have hxy' : ¬ (x : Int) = (y : Int) := by omega
        simp -implicitDefEqProofs [r13, r0, r1, r12, hlt, hlm, hx, hy, hxy, hxy', hne]
    · have hn : ¬ (i : Int) < (M.length : Int) := by omega
      have hn' : ¬ i < M.length := by omega
      have he : L = M := by rw [List.take_of_length_le hge, List.take_of_length_le (by omega)] at hti; exact hti
      simp -implicitDefEqProofs [r13, r0, r1, r12, hn, hn', he]
  · have hl' : ¬ (L.length : Int) = (M.length : Int) := by omega
    have hne : ¬ L = M := fun e => hl (by rw [e])
    simp -implicitDefEqProofs [hl, hl', hne]
theorem c_equalI (L M : List Int) (t u : Rg.Tok) (hL : L.length ≤ 1000000) : AOk Tryz.prog 42 [.sl (L.map (fun n : Int => (.sc (.int .i64 n) : AV))) t, .sl (M.map (fun n : Int => (.sc (.int .i64 n) : AV))) u] H (.sc (.bool (decide (L = M)))) H := by
  refine ACalls.into Tryz.func42 rfl Tryz.ntmps42 Tryz.results42 (by simp) ?_
  simp -implicitDefEqProofs
  by_cases hl : L.length = M.length
  · have hl' : (L.length : Int) = (M.length : Int) := by omega
    simp -implicitDefEqProofs [hl, hl']
    refine AGo.rounds (fun m ρ K => ∃ i, m = L.length - i ∧ i ≤ L.length ∧ L.take i = M.take i ∧ ρ 13 = .sc (.int .i64 (i : Int)) ∧ ρ 0 = .sl (L.map (fun n : Int => (.sc (.int .i64 n) : AV))) t ∧ ρ 1 = .sl (M.map (fun n : Int => (.sc (.int .i64 n) : AV))) u ∧ ρ 12 = .sc (.int .i64 (M.length : Int)) ∧ K = H) ?_ (m := L.length) (HLe.refl _)
      ⟨0, rfl, by omega, by simp, by simp, by simp, by simp, by simp, rfl⟩
    rintro m ρ K ih ⟨i, rfl, hi, hti, r13, r0, r1, r12, rfl⟩
    rcases Nat.lt_or_ge i L.length with hlt | hge
    · have hlm : i < M.length := by omega
      obtain ⟨x, hx, hx2⟩ := getAt hlt
      obtain ⟨y, hy, hy2⟩ := getAt hlm
      have hlt' : (i : Int) < (L.length : Int) := by omega
      have hlm' : (i : Int) < (M.length : Int) := by omega
      have hw1 : IntKind.i64.wrap ((i : Int) + 1) = (i : Int) + 1 := wrap_i64 (by omega) (by omega)
      simp -implicitDefEqProofs [r13, r0, r1, r12, hlm, hlm']
      refine go_draw 9 f_mixed (by decide +kernel) ?_
      by_cases hxy : x = y
      · subst hxy
        simp -implicitDefEqProofs [r13, r0, r1, r12, hlt, hlm, hx, hy, hw1]
        refine AGo.again ih (m' := L.length - (i + 1)) (by omega) (HLe.refl _) ⟨i + 1, rfl, by omega, ?_, by simp, by simp [r0], by simp [r1], by simp [r12], rfl⟩
        rw [List.take_add_one, List.take_add_one, hti, hx2, hy2]
      · have hne : ¬ L = M := by
          intro e
          subst e
          rw [hx2] at hy2
          cases hy2
          exact hxy rfl
        have hxy' : True := trivial
        simp -implicitDefEqProofs [r13, r0, r1, r12, hlt, hlm, hx, hy, hxy, hxy', hne]
    · have hn : ¬ (i : Int) < (M.length : Int) := by omega
      have hn' : ¬ i < M.length := by omega
      have he : L = M := by rw [List.take_of_length_le hge, List.take_of_length_le (by omega)] at hti; exact hti
      simp -implicitDefEqProofs [r13, r0, r1, r12, hn, hn', he]
  · have hl' : ¬ (L.length : Int) = (M.length : Int) := by omega
    have hne : ¬ L = M := fun e => hl (by rw [e])
    simp -implicitDefEqProofs [hl, hl', hne]
end Go.Proofs.YtmoncokklkiikaaGreatDoor
namespace Go.Proofs.YtmoncokklkiikaaGreatDoor
open Rg Go
variable {H : Heap}
def sameJ (a b : Jb) : Bool := decide (a.id = b.id) && (a.name == b.name) && (a.ex == b.ex) && decide (a.pol = b.pol) && decide (a.gr = b.gr) && decide (a.lim = b.lim) && decide (a.ret = b.ret) && decide (a.tim = b.tim) && decide (a.deps = b.deps) && (a.pau == b.pau) && decide (a.ver = b.ver) && decide (a.seen = b.seen)
theorem sameJ_iff {a b : Jb} : sameJ a b = true ↔ a = b := by
  simp only [sameJ, Bool.and_eq_true, decide_eq_true_eq, beq_iff_eq]
  constructor
  · rintro ⟨⟨⟨⟨⟨⟨⟨⟨⟨⟨⟨h1, h2⟩, h3⟩, h4⟩, h5⟩, h6⟩, h7⟩, h8⟩, h9⟩, h10⟩, h11⟩, h12⟩
    cases a; cases b; simp_all
  · rintro rfl
    simp
theorem ne_beq {a b : Bool} : (a == b) = decide (a = b) := by cases a <;> cases b <;> rfl
set_option maxHeartbeats 4000000 in
theorem c_jobSame (a b : Jb) (t u : Rg.Tok) (hl : a.deps.length ≤ 1000000) : AOk Tryz.prog 19 [jbAV a t, jbAV b u] H (.sc (.bool (sameJ a b))) H := by
  have heq := fun K => c_equalU (H := K) a.deps b.deps t u hl
  unfold sameJ
  obtain ⟨c0, hc0⟩ : ∃ c, decide (a.id = b.id) = c := ⟨_, rfl⟩
  have hi0 : decide ((a.id : Int) = (b.id : Int)) = c0 := by rw [← hc0]; congr 1; exact propext ⟨fun h => by omega, fun h => by omega⟩
  obtain ⟨c1, hc1⟩ : ∃ c, (a.name == b.name) = c := ⟨_, rfl⟩
  obtain ⟨c2, hc2⟩ : ∃ c, (a.ex == b.ex) = c := ⟨_, rfl⟩
  obtain ⟨c3, hc3⟩ : ∃ c, decide (a.pol = b.pol) = c := ⟨_, rfl⟩
  obtain ⟨c4, hc4⟩ : ∃ c, decide (a.gr = b.gr) = c := ⟨_, rfl⟩
  obtain ⟨c5, hc5⟩ : ∃ c, decide (a.lim = b.lim) = c := ⟨_, rfl⟩
  obtain ⟨c6, hc6⟩ : ∃ c, decide (a.ret = b.ret) = c := ⟨_, rfl⟩
  obtain ⟨c7, hc7⟩ : ∃ c, decide (a.tim = b.tim) = c := ⟨_, rfl⟩
  obtain ⟨c8, hc8⟩ : ∃ c, decide (a.deps = b.deps) = c := ⟨_, rfl⟩
  obtain ⟨c9, hc9⟩ : ∃ c, (a.pau == b.pau) = c := ⟨_, rfl⟩
  obtain ⟨c10, hc10⟩ : ∃ c, decide (a.ver = b.ver) = c := ⟨_, rfl⟩
  have hi10 : decide ((a.ver : Int) = (b.ver : Int)) = c10 := by rw [← hc10]; congr 1; exact propext ⟨fun h => by omega, fun h => by omega⟩
  obtain ⟨c11, hc11⟩ : ∃ c, decide (a.seen = b.seen) = c := ⟨_, rfl⟩
  rw [hc0, hc1, hc2, hc3, hc4, hc5, hc6, hc7, hc8, hc9, hc10, hc11]
  rw [hc8] at heq
  refine ACalls.into Tryz.func19 rfl Tryz.ntmps19 Tryz.results19 (by simp) ?_
  simp -implicitDefEqProofs
  refine AAlloc.intro fun p hp => ?_
  simp -implicitDefEqProofs
  refine AAlloc.intro fun q hq => ?_
  have npq : p ≠ q := by rintro rfl; simp [Heap.set] at hq
  simp -implicitDefEqProofs [npq]
  generalize hK : Heap.set _ q _ = K
  have kp : K p = some (.cells (jbC a t) 25) := by rw [← hK]; simp [Heap.set, npq]
  have kq : K q = some (.cells (jbC b u) 25) := by rw [← hK]; simp [Heap.set]
  have kW : HWk H K := by rw [← hK]; exact (HLe.set_new (HLe.set_fresh hp) ((HLe.set_fresh hp).none hq)).wk
  clear hK
  simp -implicitDefEqProofs [kp, kq, hc0, hi0]
  cases c0 with
  | false =>
    simp -implicitDefEqProofs [kp, kq, kW]
  | true =>
    simp -implicitDefEqProofs [kp, kq, hc1]
    cases c1 with
    | false =>
      simp -implicitDefEqProofs [kp, kq, kW]
    | true =>
      simp -implicitDefEqProofs [kp, kq, hc2]
      cases c2 with
      | false =>
        simp -implicitDefEqProofs [kp, kq, kW]
      | true =>
        simp -implicitDefEqProofs [kp, kq, hc3]
        cases c3 with
        | false =>
          simp -implicitDefEqProofs [kp, kq, kW]
        | true =>
          simp -implicitDefEqProofs [kp, kq, hc4]
          cases c4 with
          | false =>
            simp -implicitDefEqProofs [kp, kq, kW]
          | true =>
            simp -implicitDefEqProofs [kp, kq, hc5]
            cases c5 with
            | false =>
              simp -implicitDefEqProofs [kp, kq, kW]
            | true =>
              simp -implicitDefEqProofs [kp, kq, hc6]
              cases c6 with
              | false =>
                simp -implicitDefEqProofs [kp, kq, kW]
              | true =>
                simp -implicitDefEqProofs [kp, kq, hc7]
                cases c7 with
                | false =>
                  simp -implicitDefEqProofs [kp, kq, kW]
                | true =>
                  simp -implicitDefEqProofs [kp, kq, hc8]
                  refine ACall.eq (heq K) ?_
                  simp -implicitDefEqProofs [kp, kq]
                  cases c8 with
                  | false =>
                    simp -implicitDefEqProofs [kp, kq, kW]
                  | true =>
                    simp -implicitDefEqProofs [kp, kq, hc9]
                    cases c9 with
                    | false =>
                      simp -implicitDefEqProofs [kp, kq, kW]
                    | true =>
                      simp -implicitDefEqProofs [kp, kq, hc10, hi10]
                      cases c10 with
                      | false =>
                        simp -implicitDefEqProofs [kp, kq, kW]
                      | true =>
                        simp -implicitDefEqProofs [kp, kq, hc11]
                        cases c11 with
                        | false =>
                          simp -implicitDefEqProofs [kp, kq, kW]
                        | true =>
                          simp -implicitDefEqProofs [kp, kq, kW]
end Go.Proofs.YtmoncokklkiikaaGreatDoor
namespace Go.Proofs.YtmoncokklkiikaaGreatDoor
open Rg Go
theorem i64_lies (z : Int) : (i64 z).lies = true := rfl
theorem i64_cells (z : Int) : (i64 z).cells = [i64 z] := rfl
variable {H : Heap}
def Turned (L M : List Int) (i : Nat) : Prop :=
  M.length = L.length ∧ ∀ k, k < L.length → M[k]? = if k < i ∨ L.length ≤ k + i then L[L.length - 1 - k]? else L[k]?
theorem Turned.zero (L : List Int) : Turned L L 0 := ⟨rfl, fun k hk => by rw [if_neg (by omega)]⟩
theorem Turned.step {L M : List Int} {i j : Nat} (h : Turned L M i) (hij : i < j) (hj : i + j + 1 = L.length) {x y : Int} (hx : M[i]? = some x) (hy : M[j]? = some y) : Turned L ((M.set i y).set j x) (i + 1) := by
  refine ⟨by simp [h.1], fun k hk => ?_⟩
  have hM := h.1
  have hi := h.2 i (by omega)
  have hj' := h.2 j (by omega)
  rw [if_neg (by omega), hx] at hi
  rw [if_neg (by omega), hy] at hj'
  by_cases k1 : k = j
  · subst k1
    rw [List.getElem?_set_self (by simp; omega), if_pos (by omega), show L.length - 1 - k = i by omega, hi]
  · rw [List.getElem?_set_ne (by omega)]
    by_cases k2 : k = i
    · subst k2
      rw [List.getElem?_set_self (by omega), if_pos (by omega), show L.length - 1 - k = j by omega, hj']
    · rw [List.getElem?_set_ne (by omega), h.2 k hk]
      by_cases k3 : k < i ∨ L.length ≤ k + i
      · rw [if_pos k3, if_pos (by omega)]
      · rw [if_neg k3, if_neg (by omega)]
theorem Turned.fin {L M : List Int} {i : Nat} (h : Turned L M i) (hi : L.length ≤ 2 * i + 1) : M = L.reverse := by
  apply List.ext_getElem?
  intro k
  by_cases hk : k < L.length
  · rw [h.2 k hk, List.getElem?_reverse hk]
    by_cases h2 : k < i ∨ L.length ≤ k + i
    · rw [if_pos h2]
    · rw [if_neg h2, show L.length - 1 - k = k by omega]
  · rw [List.getElem?_eq_none (by rw [h.1]; omega), List.getElem?_eq_none (by simp; omega)]
set_option maxHeartbeats 1000000 in
theorem c_reverse_nil : AOk Tryz.prog 85 [.sc (.slice none 0 0)] H (.tup []) H := by
  have hw : IntKind.i64.wrap (-1) = -1 := by decide
  refine ACalls.into Tryz.func85 rfl Tryz.ntmps85 Tryz.results85 (by simp) ?_
  simp -implicitDefEqProofs [hw]
  refine AGo.rounds (fun _ ρ K => ρ 2 = .sc (.int .i64 0) ∧ ρ 3 = .sc (.int .i64 (-1)) ∧ K = H) ?_ (m := 0) (HLe.refl _) ⟨by simp, by simp, rfl⟩
  rintro m ρ K _ ⟨r2, r3, rfl⟩
  simp -implicitDefEqProofs [r2, r3]
set_option maxHeartbeats 2000000 in
theorem c_reverse {g : Nat} {L : List Int} {zs : List AV} {cap : Nat} (hg : H g = some (.cells (L.map i64 ++ zs) 2)) (hL : L.length ≤ 1000000) :
    AOk Tryz.prog 85 [.sc (.slice (some ⟨g, 0, none⟩) L.length cap)] H (.tup []) (H.set g (.cells (L.reverse.map i64 ++ zs) 2)) := by
  obtain ⟨N, hN⟩ : ∃ N, L.length = N := ⟨_, rfl⟩
  have hw : IntKind.i64.wrap ((N : Int) - 1) = (N : Int) - 1 := wrap_i64 (by omega) (by omega)
  rw [hN]
  refine ACalls.into Tryz.func85 rfl Tryz.ntmps85 Tryz.results85 (by simp) ?_
  simp -implicitDefEqProofs [hw]
  refine AGo.rounds (fun m ρ K => ∃ (i : Nat) (M : List Int), m = N - i ∧ 2 * i ≤ N ∧ Turned L M i ∧ ρ 0 = .sc (.slice (some ⟨g, 0, none⟩) N cap) ∧ ρ 2 = .sc (.int .i64 i) ∧ ρ 3 = .sc (.int .i64 ((N : Int) - 1 - i)) ∧ K = H.set g (.cells (M.map i64 ++ zs) 2)) ?_ (m := N) (HLe.refl _)
    ⟨0, L, by omega, by omega, Turned.zero L, by simp, by simp, by simp, by funext c; simp only [Heap.set]; split <;> simp_all⟩
  rintro m ρ K ih ⟨i, M, rfl, hi, hT, r0, r2, r3, rfl⟩
  have hM := hT.1
  by_cases hlt : (i : Int) < (N : Int) - 1 - i
  · obtain ⟨j, hj⟩ : ∃ j, i + j + 1 = N := ⟨N - 1 - i, by omega⟩
    have ej : (N : Int) - 1 - i = (j : Int) := by omega
    rw [ej] at hlt r3
    have hij : i < j := by omega
    have hjn : j < N := by omega
    have hin : i < N := by omega
    obtain ⟨x, hx⟩ : ∃ x, M[i]? = some x := ⟨M[i]'(by omega), List.getElem?_eq_getElem _⟩
    obtain ⟨y, hy⟩ : ∃ y, M[j]? = some y := ⟨M[j]'(by omega), List.getElem?_eq_getElem _⟩
    have cx : (M.map i64 ++ zs)[i]? = some (i64 x) := by rw [List.getElem?_append_left (by simp; omega), List.getElem?_map, hx]; rfl
    have cy : (M.map i64 ++ zs)[j]? = some (i64 y) := by rw [List.getElem?_append_left (by simp; omega), List.getElem?_map, hy]; rfl
    have e2 : ((M.map i64).set i (i64 y) ++ zs).set j (i64 x) = ((M.map i64).set i (i64 y)).set j (i64 x) ++ zs := List.set_append_left _ _ (by simp; omega)
    have l1 : i + 1 ≤ M.length + zs.length := by omega
    have l2 : j + 1 ≤ M.length + zs.length := by omega
    have w1 : IntKind.i64.wrap ((i : Int) + 1) = ((i + 1 : Nat) : Int) := wadd (b := 1) rfl (by omega)
    have w2 : IntKind.i64.wrap ((j : Int) - 1) = (j : Int) - 1 := wrap_i64 (by omega) (by omega)
    simp -implicitDefEqProofs [r2, r3, hlt]
    refine go_draw3 [0, 1, 2, 3, 4, 5, 6, 8, 9, 10] _ f_mixed (by decide +kernel) HC.nothing ?_
    simp -implicitDefEqProofs []
    repeat (refine aq3_op ?_; simp -implicitDefEqProofs [r0, r2, r3, hin, hjn])
    refine AWK.two 7 11 (by decide +kernel) ?_ ?_
    · refine AWE.op rfl ?_
      simp -implicitDefEqProofs [cy]
      refine AWK.one 11 (by decide +kernel) ?_
      refine AWE.op rfl ?_
      simp -implicitDefEqProofs [cx]
      refine AWK.one 12 (by decide +kernel) ?_
      refine AWE.op rfl ?_
      simp -implicitDefEqProofs [hin]
      refine AWK.one 13 (by decide +kernel) ?_
      refine AWE.op rfl ?_
      simp -implicitDefEqProofs [l1, i64_lies, i64_cells]
      refine AWS.store (by exact if_pos rfl) (HC.setn HC.nothing rfl) ?_
      refine AWK.one 14 (by decide +kernel) ?_
      refine AWE.op rfl ?_
      simp -implicitDefEqProofs [hjn]
      refine AWK.one 15 (by decide +kernel) ?_
      refine AWE.op rfl ?_
      simp -implicitDefEqProofs [l2, i64_lies, i64_cells]
      refine AWS.store (by exact if_pos rfl) (HC.setn HC.nothing rfl) ?_
      refine AWK.fin (by decide +kernel) ?_
      simp -implicitDefEqProofs [r2, r3, w1, w2]
      refine AGo.again ih (m' := N - (i + 1)) (by omega) (HLe.refl _) ?_
      exact ⟨i + 1, (M.set i y).set j x, rfl, by omega, hT.step hij (by omega) hx hy, by simp [r0], by simp, by simp; omega, by rw [List.map_set, List.map_set, List.set_append_left _ _ (by simp; omega : i < (M.map i64).length), e2]⟩
    · refine AWE.op rfl ?_
      simp -implicitDefEqProofs [cx]
      refine AWK.one 7 (by decide +kernel) ?_
      refine AWE.op rfl ?_
      simp -implicitDefEqProofs [cy]
      refine AWK.one 12 (by decide +kernel) ?_
      refine AWE.op rfl ?_
      simp -implicitDefEqProofs [hin]
      refine AWK.one 13 (by decide +kernel) ?_
      refine AWE.op rfl ?_
      simp -implicitDefEqProofs [l1, i64_lies, i64_cells]
      refine AWS.store (by exact if_pos rfl) (HC.setn HC.nothing rfl) ?_
      refine AWK.one 14 (by decide +kernel) ?_
      refine AWE.op rfl ?_
      simp -implicitDefEqProofs [hjn]
      refine AWK.one 15 (by decide +kernel) ?_
      refine AWE.op rfl ?_
      simp -implicitDefEqProofs [l2, i64_lies, i64_cells]
      refine AWS.store (by exact if_pos rfl) (HC.setn HC.nothing rfl) ?_
      refine AWK.fin (by decide +kernel) ?_
      simp -implicitDefEqProofs [r2, r3, w1, w2]
      refine AGo.again ih (m' := N - (i + 1)) (by omega) (HLe.refl _) ?_
      exact ⟨i + 1, (M.set i y).set j x, rfl, by omega, hT.step hij (by omega) hx hy, by simp [r0], by simp, by simp; omega, by rw [List.map_set, List.map_set, List.set_append_left _ _ (by simp; omega : i < (M.map i64).length), e2]⟩
  · simp -implicitDefEqProofs [r2, r3, hlt]
    rw [hT.fin (by omega), List.map_reverse]
    exact HWk.refl _
theorem c_reverseR {H0 : Heap} {L : List Int} {v : AV} (hR : RawRow H0 2 (L.map i64) v H) (hL : L.length ≤ 1000000) :
    ACalls Tryz.prog 85 [v] H (fun _ K => RawRow H0 2 (L.reverse.map i64) v K) := by
  obtain ⟨hle, ⟨h1, rfl⟩ | ⟨g, zs, hg, rfl, hK, hm⟩⟩ := hR
  · refine ACalls.mono (c_reverse_nil (H := H)) fun r K ⟨e1, e2⟩ => ?_
    obtain rfl : L = [] := by simpa using h1
    subst e2
    exact RawRow.none.le hle
  · have hc := c_reverse (cap := (L.map i64).length + zs.length) hK hL
    rw [List.length_map] at hc ⊢
    refine ACalls.mono hc fun r K ⟨e1, e2⟩ => ?_
    subst e2
    refine ⟨HLe.set_new hle hg, .inr ⟨g, zs, hg, by simp, by simp [Heap.set], by simpa using hm⟩⟩
end Go.Proofs.YtmoncokklkiikaaGreatDoor
namespace Go.Proofs.YtmoncokklkiikaaGreatDoor
open Rg Go
variable {H : Heap}
theorem c_moments (L : List Int) (t u : Tok) (hL : L.length ≤ 1000000) : AOk Tryz.prog 21 [.sl (L.map i64) t, .sl (L.map i64) u] H (.sc (.bool true)) H := by
  refine ACalls.into Tryz.func21 rfl Tryz.ntmps21 Tryz.results21 (by simp) ?_
  simp -implicitDefEqProofs
  refine AGo.rounds (fun m ρ K => ∃ i : Nat, i ≤ L.length ∧ m = L.length - i ∧ ρ 0 = .sl (L.map i64) t ∧ ρ 1 = .sl (L.map i64) u ∧ ρ 5 = .sc (.int .i64 i) ∧ K = H) ?_ (m := L.length) (HLe.refl _)
    ⟨0, by omega, rfl, by simp, by simp, by simp, rfl⟩
  rintro m ρ K ih ⟨i, hi, rfl, r0, r1, r5, rfl⟩
  by_cases hlt : i < L.length
  · have w1 : IntKind.i64.wrap ((i : Int) + 1) = ((i + 1 : Nat) : Int) := wadd (b := 1) rfl (by omega)
    obtain ⟨q, hq⟩ : ∃ q, L[i] = q := ⟨_, rfl⟩
    simp -implicitDefEqProofs [r0, r5, hlt]
    refine go_draw 9 f_mixed (by decide +kernel) ?_
    simp -implicitDefEqProofs [r0, r1, r5, hlt, hq, i64, w1]
    refine AGo.again ih (m' := L.length - (i + 1)) (by omega) (HLe.refl _) ?_
    exact ⟨i + 1, by omega, rfl, by simp [r0], by simp [r1], by simp, rfl⟩
  · simp -implicitDefEqProofs [r0, r5, hlt]
end Go.Proofs.YtmoncokklkiikaaGreatDoor
namespace Go.Proofs.YtmoncokklkiikaaGreatDoor
open Rg Go
theorem parse_may {k : Int} {s : List UInt8} (h : (parseK k s).2 = 0) : mayB k (parseK k s).1.bits = true := by
  cases hk : isK k with
  | false => unfold parseK at h; rw [if_pos hk] at h; exact absurd h (by decide)
  | true =>
    by_cases hs : 150 < s.length
    · unfold parseK at h; rw [if_neg (by simp [hk]), if_pos hs] at h; exact absurd h (by decide)
    · rw [parse_eq hk (by omega)] at h ⊢
      by_cases h1 : firstErr k (sp 44 s) = 0
      · rw [if_neg (by simp [h1])]
        obtain ⟨a1, a2⟩ := orAll_ok hk h1
        exact may_of hk (a1 (sp_ne _ _)) a2
      · rw [if_pos h1] at h
        exact absurd h h1
theorem set_ok {x : Ex} (hx : x.ok) (j : Nat) {f : Fld} (hf : f.bits < 18446744073709551616) : (x.set j f).ok := by
  unfold Ex.set
  split <;> exact ⟨by first | exact hf | exact hx.a, by first | exact hf | exact hx.b, by first | exact hf | exact hx.c, by first | exact hf | exact hx.d, by first | exact hf | exact hx.e⟩
theorem ex0_ok : ex0.ok := ⟨by decide, by decide, by decide, by decide, by decide⟩
theorem goX_lt : ∀ (L : List (List UInt8)) (j : Nat) (x : Ex), x.ok → (goX L j x).1.ok
  | [], _, _, h => h
  | p :: r, j, x, h => by
    unfold goX
    split
    · exact ex0_ok
    · exact goX_lt r _ _ (set_ok h _ (parse_lt _ _))
theorem cronB_lt (s : List UInt8) : (cronB s).1.ok := by
  unfold cronB
  by_cases h1 : (sp 32 s).length ≠ 5
  · rw [if_pos h1]; exact ex0_ok
  · rw [if_neg h1]
    by_cases h2 : [] ∈ sp 32 s
    · rw [if_pos h2]; exact ex0_ok
    · rw [if_neg h2]; exact goX_lt _ _ _ ex0_ok
theorem cronK_lt (s : List UInt8) : (cronK s).1.ok := by
  unfold cronK
  by_cases h : 400 < s.length
  · rw [if_pos h]; exact ex0_ok
  · rw [if_neg h]; exact cronB_lt _
theorem go5 {p0 p1 p2 p3 p4 : List UInt8} : goX [p0, p1, p2, p3, p4] 0 ex0 =
    if (parseK 0 p0).2 ≠ 0 then (ex0, (parseK 0 p0).2) else if (parseK 1 p1).2 ≠ 0 then (ex0, (parseK 1 p1).2) else if (parseK 2 p2).2 ≠ 0 then (ex0, (parseK 2 p2).2)
    else if (parseK 3 p3).2 ≠ 0 then (ex0, (parseK 3 p3).2) else if (parseK 4 p4).2 ≠ 0 then (ex0, (parseK 4 p4).2) else (⟨(parseK 0 p0).1, (parseK 1 p1).1, (parseK 2 p2).1, (parseK 3 p3).1, (parseK 4 p4).1⟩, 0) := rfl
theorem cronB_may {s : List UInt8} (h : (cronB s).2 = 0) : mayX (cronB s).1 = true := by
  unfold cronB at h ⊢
  by_cases h1 : (sp 32 s).length ≠ 5
  · rw [if_pos h1] at h; exact absurd h (by decide)
  · rw [if_neg h1] at h ⊢
    by_cases h2 : [] ∈ sp 32 s
    · rw [if_pos h2] at h; exact absurd h (by decide)
    · rw [if_neg h2] at h ⊢
      have h3 : (sp 32 s).length = 5 := by omega
      generalize sp 32 s = L at *
      match L, h3 with
      | [p0, p1, p2, p3, p4], _ =>
        rw [go5] at h ⊢
        by_cases e0 : (parseK 0 p0).2 = 0
        · by_cases e1 : (parseK 1 p1).2 = 0
          · by_cases e2 : (parseK 2 p2).2 = 0
            · by_cases e3 : (parseK 3 p3).2 = 0
              · by_cases e4 : (parseK 4 p4).2 = 0
                · rw [if_neg (by simp [e0]), if_neg (by simp [e1]), if_neg (by simp [e2]), if_neg (by simp [e3]), if_neg (by simp [e4])]
                  simp [mayX, parse_may e0, parse_may e1, parse_may e2, parse_may e3, parse_may e4]
                · simp [e0, e1, e2, e3, e4] at h
              · simp [e0, e1, e2, e3] at h
            · simp [e0, e1, e2] at h
          · simp [e0, e1] at h
        · simp [e0] at h
theorem cronK_may {s : List UInt8} (h : (cronK s).2 = 0) : mayX (cronK s).1 = true := by
  unfold cronK at h ⊢
  split at h
  · exact absurd h (by decide)
  · rw [if_neg (by assumption)]
    exact cronB_may h
end Go.Proofs.YtmoncokklkiikaaGreatDoor
namespace Go.Proofs.YtmoncokklkiikaaGreatDoor
open Rg Go
variable {H : Heap}
abbrev nat64 (n : Nat) : AV := i64 (n : Int)
def firesJ (j : Jb) (a b : Int) (m : Int) : List Nat := newest m.toNat (firesL (cronK j.ex).1 a b)
def badF (j : Jb) (a b : Int) : Prop := mayJ j ≠ 0 ∨ b < 0 ∨ 13569465600 ≤ b ∨ a < -1
theorem may_cron {j : Jb} (h : mayJ j = 0) : (cronK j.ex).2 = 0 := by
  unfold mayJ at h
  by_cases h1 : j.name.length < 1
  · simp only [if_pos h1] at h; exact absurd h (by decide)
  · by_cases h2 : 32 < j.name.length
    · simp only [if_neg h1, if_pos h2] at h; exact absurd h (by decide)
    · by_cases h3 : (cronK j.ex).2 = 0
      · exact h3
      · simp only [if_neg h1, if_neg h2] at h
        rw [if_pos h3] at h
        exact absurd h h3
set_option maxHeartbeats 2000000 in
theorem c_jobFires_bad (hG : Glob H) (j : Jb) (t : Rg.Tok) (hs : j.ex.length ≤ 1000000) {a b m : Int} (h : badF j a b) :
    AOk Tryz.prog 20 [jbAV j t, i64 a, i64 b, i64 m] H (.sl [] .no) H := by
  refine ACalls.into Tryz.func20 rfl Tryz.ntmps20 Tryz.results20 (by simp) ?_
  simp -implicitDefEqProofs
  refine AAlloc.intro fun b1 h1 => ?_
  simp -implicitDefEqProofs
  generalize hK : Heap.set _ b1 _ = K1
  have k1 : K1 b1 = some (.cells (jbC j t) 25) := by rw [← hK]; simp [Heap.set]
  have kG : Glob K1 := by rw [← hK]; exact hG.new h1
  have kW : HWk H K1 := by rw [← hK]; exact HWk.new h1 (HWk.refl _)
  clear hK
  have hm := fun K (hG : Glob K) => c_jobMay hG j t (by omega)
  have hmc := fun h => may_cron (j := j) h
  refine ACall.eq (c_cronParse kG j.ex (by omega)) ?_
  generalize cronK j.ex = p at *
  obtain ⟨x, e⟩ := p
  simp only at hmc ⊢
  simp -implicitDefEqProofs
  refine AAlloc.intro fun b3 h3 => ?_
  have n13 : b1 ≠ b3 := by intro e; subst e; rw [k1] at h3; cases h3
  have kG3 : ∀ o, Glob (K1.set b3 o) := fun o => kG.new h3
  have kW3 : ∀ o, HWk H (K1.set b3 o) := fun o => HWk.new (kW.none h3) kW
  simp -implicitDefEqProofs [i64]
  by_cases hb : b < 0 ∨ 13569465600 ≤ b
  · refine ACall.eq (c_floor_bad hb) ?_
    by_cases he : e = 0
    · simp -implicitDefEqProofs [he]
      exact kW3 _
    · simp -implicitDefEqProofs [he]
      exact kW3 _
  · obtain ⟨B, rfl⟩ := Int.eq_ofNat_of_zero_le (a := b) (by omega)
    refine ACall.eq (c_floor (by omega)) ?_
    by_cases he : e = 0
    · by_cases hj : mayJ j = 0
      · have ha : a < -1 := by
          rcases h with h | h | h | h
          · exact absurd hj h
          all_goals omega
        simp -implicitDefEqProofs [he, n13, k1]
        refine ACall.eq (hm _ (by apply kG3)) ?_
        simp -implicitDefEqProofs [hj, ha]
        exact kW3 _
      · simp -implicitDefEqProofs [he, n13, k1]
        refine ACall.eq (hm _ (by apply kG3)) ?_
        simp -implicitDefEqProofs [hj]
        exact kW3 _
    · simp -implicitDefEqProofs [he]
      exact kW3 _
theorem nats_rev (F : List Nat) : (F.reverse.map fun n : Nat => (n : Int)).reverse = F.map fun n : Nat => (n : Int) := by rw [← List.map_reverse, List.reverse_reverse]
set_option maxHeartbeats 4000000 in
theorem c_jobFires_raw (hG : Glob H) (j : Jb) (t : Rg.Tok) (hs : j.ex.length ≤ 1000000) {a m : Int} {B : Nat} (h0 : mayJ j = 0) (hB : B < 13569465600) (ha : -1 ≤ a) (hm : m ≤ 1000000) :
    ACalls Tryz.prog 20 [jbAV j t, i64 a, i64 (B : Int), i64 m] H (fun v K => ∃ xs, xs = ((firesJ j a B m).map fun n : Nat => (n : Int)).map i64 ∧ RawRow H 2 xs v K) := by
  have hc := may_cron h0
  have hmx := cronK_may hc
  have hxo := cronK_lt j.ex
  unfold firesJ
  refine ACalls.into Tryz.func20 rfl Tryz.ntmps20 Tryz.results20 (by simp) ?_
  simp -implicitDefEqProofs
  refine AAlloc.intro fun b1 h1 => ?_
  simp -implicitDefEqProofs
  generalize hK : Heap.set _ b1 _ = K1
  have k1 : K1 b1 = some (.cells (jbC j t) 25) := by rw [← hK]; simp [Heap.set]
  have kG : Glob K1 := by rw [← hK]; exact hG.new h1
  have kW : HLe H K1 := by rw [← hK]; exact HLe.set_fresh h1
  clear hK
  have hjm := fun K (hG : Glob K) => c_jobMay hG j t (by omega)
  rw [h0] at hjm
  refine ACall.eq (c_cronParse kG j.ex (by omega)) ?_
  rw [hc]
  generalize (cronK j.ex).1 = x at *
  simp -implicitDefEqProofs
  refine AAlloc.intro fun b3 h3 => ?_
  have n13 : b1 ≠ b3 := by intro e; subst e; rw [k1] at h3; cases h3
  simp -implicitDefEqProofs [i64]
  generalize hK : Heap.set K1 b3 _ = K2
  have kG3 : Glob K2 := by rw [← hK]; exact kG.new h3
  have kW3 : HLe H K2 := by rw [← hK]; exact kW.trans (HLe.set_fresh h3)
  have k21 : K2 b1 = some (.cells (jbC j t) 25) := by rw [← hK]; simp [Heap.set, n13, k1]
  have k23 : K2 b3 = some (.cells (exC x) 42) := by rw [← hK]; simp [Heap.set]
  clear hK
  refine ACall.eq (c_floor hB) ?_
  simp -implicitDefEqProofs [k21]
  refine ACall.eq (hjm _ kG3) ?_
  have ha' : ¬ a < -1 := by omega
  simp -implicitDefEqProofs [ha']
  obtain ⟨F, hF⟩ : ∃ F, newest m.toNat (firesL x a (B : Int)) = F := ⟨_, rfl⟩
  rw [hF]
  have hFl : F.length ≤ m.toNat := by rw [← hF]; exact newest_len _ _
  refine AGo.roundsB 13 (fun μ ρ K => ∃ (T : Nat) (xs : List Nat) (A : Option Addr) (cap : Nat), μ = T + 1 ∧ T < 13569465600 ∧ F = newest (m.toNat - xs.length) (firesL x a (T : Int)) ++ xs.reverse ∧ (xs.length ≤ m.toNat) ∧
    ρ 1 = .sc (.int .i64 a) ∧ ρ 3 = .sc (.int .i64 m) ∧ ρ 9 = .sc (.pointer (some ⟨b3, 0, none⟩)) ∧ ρ 13 = .sc (.slice A xs.length cap) ∧ ρ 14 = .sc (.int .i64 T) ∧ RawRow K2 2 ((xs.map fun n : Nat => (n : Int)).map i64) (.sc (.slice A xs.length cap)) K) ?_ (m := B + 1) (by simp)
    ⟨B, [], none, 0, rfl, hB, by simp [hF], by simp, by simp, by simp, by simp, by simp, by simp, RawRow.none⟩
  rintro μ ρ K ih ⟨T, xs, A, cap, rfl, hT, hFT, hxl, r1, r3, r9, r13, r14, hR⟩
  have k3 : K b3 = some (.cells (exC x) 42) := hR.1 _ _ k23
  have hend : ∀ (ys : List Nat) (A : Option Addr) (l cap : Nat), F = ys.reverse → ∀ K', RawRow K2 2 ((ys.map fun n : Nat => (n : Int)).reverse.map i64) (.sc (.slice A l cap)) K' → AFin (fun v K => RawRow H 2 (F.map (i64 ∘ fun n : Nat => (n : Int))) v K) (.sc (.slice A l cap)) K' := fun ys A l cap e K' h => by
    refine ⟨_, _, wk_refl _, HWk.refl _, ?_⟩
    rw [e]
    rw [← List.map_reverse, List.map_map] at h
    exact h.le kW3
  have hrv := fun (ys : List Nat) (A : Option Addr) (l cap : Nat) (hy : ys.length ≤ 1000000) K' h => c_reverseR (H := K') (H0 := K2) (L := ys.map fun n : Nat => (n : Int)) (v := .sc (.slice A l cap)) h (by simpa using hy)
  by_cases hlt : (xs.length : Int) < m
  · simp -implicitDefEqProofs [r3, r9, r13, r14, hlt, k3]
    obtain ⟨r, hr⟩ := last_ex x T
    refine ACall.eq (c_last hxo hmx hT hr) ?_
    rcases r with _ | n
    · rw [fires_nil_last hr (fun n h => by cases h), newest_nil, List.nil_append] at hFT
      simp -implicitDefEqProofs [outAV, optN, errN, r13]
      refine ACall.intro (hrv _ _ _ _ (by omega) _ hR) fun v' K' hR' => ?_
      simp -implicitDefEqProofs [r13]
      exact hend _ _ _ _ hFT _ hR'
    · by_cases hna : (n : Int) ≤ a
      · rw [fires_nil_last hr (fun n' h => by cases h; exact hna), newest_nil, List.nil_append] at hFT
        simp -implicitDefEqProofs [outAV, optN, errN, r1, r13, hna]
        refine ACall.intro (hrv _ _ _ _ (by omega) _ hR) fun v' K' hR' => ?_
        simp -implicitDefEqProofs [r13]
        exact hend _ _ _ _ hFT _ hR'
      · have hn := hr.1
        rw [fires_last ha (by omega) hr, show m.toNat - xs.length = (m.toNat - (xs.length + 1)) + 1 by omega, newest_snoc] at hFT
        simp -implicitDefEqProofs [outAV, optN, errN, r1, r13, hna]
        refine ACall.intro (app_raw (e := 2) el_36 (fun z hz q hq => by simp at hz; subst hz; simp at hq; subst hq; rfl) hR rfl (by simp; omega) (by simp [maxLen]; omega)) fun v' K' hR' => ?_
        have ex : ((xs.map fun n : Nat => (n : Int)).map i64) ++ [i64 (n : Int)] = (((xs ++ [n]).map fun n : Nat => (n : Int)).map i64) := by simp
        change RawRow K2 _ (((xs.map fun n : Nat => (n : Int)).map i64) ++ [i64 (n : Int)]) v' K' at hR'
        rw [ex] at hR'
        obtain ⟨A', cap', hv'⟩ := hR'.form
        simp only [List.length_map, List.length_append, List.length_singleton] at hv'
        subst hv'
        by_cases hn0 : n = 0
        · subst hn0
          rw [show ((0 : Nat) : Int) - 1 = -1 from rfl, fires_none (b := -1) (fun k _ h => by omega), newest_nil, List.nil_append] at hFT
          simp -implicitDefEqProofs
          refine ACall.intro (hrv (xs ++ [0]) _ _ _ (by simp; omega) _ hR') fun v2 K2 hR2 => ?_
          simp -implicitDefEqProofs
          exact hend (xs ++ [0]) _ _ _ (by rw [hFT]; simp) _ hR2
        · have hn0' : ¬ (n : Int) = 0 := by omega
          obtain ⟨q, hq⟩ : ∃ q, n = q + 1 := ⟨n - 1, by omega⟩
          have hw : IntKind.i64.wrap ((n : Int) - 1) = (q : Int) := wsub (b := 1) (by omega) (by omega) (by omega)
          simp -implicitDefEqProofs [hn0, hw]
          refine AGo.again ih (m' := q + 1) (by omega) (HLe.refl _) ?_
          refine ⟨q, xs ++ [n], A', cap', rfl, by omega, ?_, by simp; omega, by simp [r1], by simp [r3], by simp [r9], by simp, by simp, by simpa using hR'⟩
          rw [hFT, show (n : Int) - 1 = (q : Int) by omega]
          simp
  · have e : m.toNat - xs.length = 0 := by omega
    rw [e, newest_zero, List.nil_append] at hFT
    simp -implicitDefEqProofs [r3, r13, hlt]
    refine ACall.intro (hrv _ _ _ _ (by omega) _ hR) fun v' K' hR' => ?_
    simp -implicitDefEqProofs [r13]
    exact hend _ _ _ _ hFT _ hR'
end Go.Proofs.YtmoncokklkiikaaGreatDoor
namespace Go.Proofs.YtmoncokklkiikaaGreatDoor
open Rg Go
variable {H : Heap}
def firesB (j : Jb) (a b : Int) (m : Int) : List Nat := if mayJ j ≠ 0 ∨ b < 0 ∨ 13569465600 ≤ b ∨ a < -1 then [] else firesJ j a b m
theorem firesB_len (j : Jb) (a b : Int) (m : Int) : (firesB j a b m).length ≤ m.toNat := by
  unfold firesB
  split
  · simp
  · exact newest_len _ _
theorem c_jobFires (hG : Glob H) (j : Jb) (t : Rg.Tok) (hs : j.ex.length ≤ 1000000) {a b m : Int} (hm : m ≤ 1000000) :
    AOk Tryz.prog 20 [jbAV j t, i64 a, i64 b, i64 m] H (.sl (((firesB j a b m).map fun n : Nat => (n : Int)).map i64) .no) H := by
  unfold firesB
  by_cases h : mayJ j ≠ 0 ∨ b < 0 ∨ 13569465600 ≤ b ∨ a < -1
  · rw [if_pos h]
    exact c_jobFires_bad hG j t hs h
  · rw [if_neg h]
    obtain ⟨B, rfl⟩ := Int.eq_ofNat_of_zero_le (a := b) (by omega)
    have hc := c_jobFires_raw hG j t hs (a := a) (m := m) (B := B) (Decidable.byContradiction fun e => h (.inl e)) (by omega) (by omega) hm
    have hf := ACalls.freeze (X := fun xs => xs = ((firesJ j a B m).map fun n : Nat => (n : Int)).map i64) (fun xs hx x hm => by subst hx; obtain ⟨z, _, rfl⟩ := List.mem_map.1 hm; rfl) hc
    exact ACalls.weaken (ACalls.mono hf fun v K ⟨xs, e1, e2, e3⟩ => ⟨_, H, by rw [e2, e1]; exact wk_refl _, e3.wk, rfl, rfl⟩)
end Go.Proofs.YtmoncokklkiikaaGreatDoor
namespace Go.Proofs.YtmoncokklkiikaaGreatDoor
open Rg Go Go.RowKit
theorem eq_ctz : (Rows.laid_math_bits_deBruijn64tab : DataW Unit) = Lib.tabData .u8 (Lib.deBruijn64tab.map fun n : Nat => (n : Int)) := by kernel_rfl
theorem eq_first : Rows.laid_unicode_utf8_first = Lib.firstData := by kernel_rfl
theorem eq_accept : (Rows.laid_unicode_utf8_acceptRanges : DataW Unit) = Lib.acceptData := by kernel_rfl
theorem u8extra : U8Extra Tryz.prog Tryz.lays260_ren := ⟨by kernel_rfl, by kernel_rfl, by kernel_rfl, by kernel_rfl, by kernel_rfl, by kernel_rfl, by kernel_rfl⟩
def ctzUs : List Value := Lib.deBruijn64tab.map fun n : Nat => .int .u8 n
def firstUs : List Value := (List.range 256).map fun c => .int .u8 (Lib.firstT c)
def acceptUs : List Value := (List.range 16).flatMap fun i => [.int .u8 (Lib.accLo i), .int .u8 (Lib.accHi i)]
def gro (m : Int) : Heap := fun b =>
  if b = 0 then some (.ro ctzUs) else if b = 4 then some (.ro [.int .i64 m]) else
  if b = 5 then some (.ro firstUs) else if b = 6 then some (.ro acceptUs) else none
theorem acceptUs_at : ∀ i, i < 16 → acceptUs[2 * i]? = some (.int .u8 (Lib.accLo i)) ∧ acceptUs[2 * i + 1]? = some (.int .u8 (Lib.accHi i)) := fun i hi => by
  have h : i = 0 ∨ i = 1 ∨ i = 2 ∨ i = 3 ∨ i = 4 ∨ i = 5 ∨ i = 6 ∨ i = 7 ∨ i = 8 ∨ i = 9 ∨ i = 10 ∨ i = 11 ∨ i = 12 ∨ i = 13 ∨ i = 14 ∨ i = 15 := by omega
  rcases h with rfl | rfl | rfl | rfl | rfl | rfl | rfl | rfl | rfl | rfl | rfl | rfl | rfl | rfl | rfl | rfl <;> exact ⟨by kernel_rfl, by kernel_rfl⟩
theorem glob_gro (m : Int) : Glob (gro m) := by
  refine ⟨⟨m, rfl⟩, ⟨ctzUs, rfl, fun j hj => ?_⟩, ⟨firstUs, rfl, fun c hc => ?_⟩, ⟨acceptUs, rfl, acceptUs_at⟩⟩
  · simp only [ctzUs, List.getElem?_map, List.getD_eq_getElem?_getD, List.getElem?_eq_getElem hj]
    rfl
  · simp only [firstUs, List.getElem?_map, List.getElem?_range hc]
    rfl
theorem ctz_reads {W : World} {l : List (String × DataW Unit)} (hL : laidMet Tryz.prog l W) (h1 : ("math/bits.deBruijn64tab", Rows.laid_math_bits_deBruijn64tab) ∈ l) (j : Nat) (u : Value) (hu : ctzUs[j]? = some u) : W.cell? ⟨0, j, none⟩ = some u := by
  obtain ⟨g, t, cs, fuel, p, hg, hty, hvar, hd⟩ := Lib.laidMet.reads hL h1
  obtain rfl : 0 = g := Option.some.inj ((show Tryz.prog.globalNamed "math/bits.deBruijn64tab" = some 0 by kernel_rfl).symm.trans hg)
  obtain rfl : 275 = t := Option.some.inj ((show (Tryz.prog.globals[0]?).map (·.type) = some 275 by kernel_rfl).symm.trans hty)
  rw [eq_ctz] at hd
  have hcs := Lib.cells_of_tab (e := 5) (n := 64) (by kernel_rfl) (by kernel_rfl) (by kernel_rfl) (by kernel_rfl) hd
  rw [World.var?_cell hg hvar j, ← Array.getElem?_toList, hcs, ← hu]
  unfold ctzUs
  simp [Function.comp_def]
theorem gro_reads {W : World} {l : List (String × DataW Unit)} (hL : laidMet Tryz.prog l W) (hsh : W.ShapedOpen Tryz.prog) (h1 : ("math/bits.deBruijn64tab", Rows.laid_math_bits_deBruijn64tab) ∈ l)
    (h3 : ("unicode/utf8.first", Rows.laid_unicode_utf8_first) ∈ l) (h4 : ("unicode/utf8.acceptRanges", Rows.laid_unicode_utf8_acceptRanges) ∈ l) : ∃ m, Reads W (gro m) := by
  obtain ⟨m, hm⟩ : ∃ m, W.cell? ⟨4, 0, none⟩ = some (.int .i64 m) := Tryz.laysM145.s1_3 W hsh
  obtain ⟨t3, t4⟩ : Lib.Utf8Tabs 5 6 W := utf8Tabs_of_reads Tryz.lays260 u8extra (eq_first ▸ Lib.laidMet.reads hL h3) (eq_accept ▸ Lib.laidMet.reads hL h4)
  refine ⟨m, fun b ob e => ?_⟩
  unfold gro at e
  split at e
  · rename_i hb
    subst hb; cases e
    exact ⟨ctzUs, rfl, by decide +kernel, by decide +kernel, ctz_reads hL h1⟩
  · split at e
    · rename_i hb
      subst hb; cases e
      refine ⟨_, rfl, by simp, by simp [Value.oneCell'], fun j u hu => ?_⟩
      cases j with
      | zero => simp at hu; subst hu; exact hm
      | succ j => simp at hu
    · split at e
      · rename_i hb
        subst hb; cases e
        refine ⟨firstUs, rfl, by decide +kernel, by decide +kernel, fun j u hu => ?_⟩
        have hj : j < 256 := by have := (List.getElem?_eq_some_iff.1 hu).1; simpa [firstUs] using this
        rw [t3 j hj, ← hu]
        simp only [firstUs, List.getElem?_map, List.getElem?_range hj]
        rfl
      · split at e
        · rename_i hb
          subst hb; cases e
          refine ⟨acceptUs, rfl, by decide +kernel, by decide +kernel, fun j u hu => ?_⟩
          have hj : j < 32 := by have := (List.getElem?_eq_some_iff.1 hu).1; rwa [show acceptUs.length = 32 by kernel_rfl] at this
          rcases Nat.mod_two_eq_zero_or_one j with h | h
          · obtain ⟨i, rfl⟩ : ∃ i, j = 2 * i := ⟨j / 2, by omega⟩
            rw [(t4 i (by omega)).1, ← hu, (acceptUs_at i (by omega)).1]
          · obtain ⟨i, rfl⟩ : ∃ i, j = 2 * i + 1 := ⟨j / 2, by omega⟩
            rw [(t4 i (by omega)).2, ← hu, (acceptUs_at i (by omega)).2]
        · cases e
def setCells (cs : Array Value) : Obj → Obj
  | .cells _ t fr => .cells cs t fr
  | o => o
noncomputable def low : Nat := (World.holding Tryz.prog default ⟨#[], #[], []⟩).heap.size
noncomputable def laidWorld (os : Os) : World :=
  let w0 := World.holding Tryz.prog os ⟨#[.cells #[.string ⟨#[105, 110, 118, 97, 108, 105, 100, 32, 115, 121, 110, 116, 97, 120]⟩] 318, .cells #[.string ⟨#[118, 97, 108, 117, 101, 32, 111, 117, 116, 32, 111, 102, 32, 114, 97, 110, 103, 101]⟩] 318], #[], []⟩
  { w0 with heap := ((((((w0.heap.modify 0 (setCells ctzUs.toArray)).modify 7 (setCells (Lib.deBruijn32tab.map fun n : Nat => Value.int .u8 n).toArray)).modify 5 (setCells firstUs.toArray)).modify 6 (setCells acceptUs.toArray)).modify 1
    (setCells ((List.range 20).map fun n => Value.int .u64 (10 ^ n)).toArray)).modify 2 (setCells #[.iface 316 (.pointer (some ⟨low, 0, none⟩))])).modify 3 (setCells #[.iface 316 (.pointer (some ⟨low + 1, 0, none⟩))]) }
theorem own : ownKnob Tryz.prog.godebug = none := by kernel_rfl
end Go.Proofs.YtmoncokklkiikaaGreatDoor
