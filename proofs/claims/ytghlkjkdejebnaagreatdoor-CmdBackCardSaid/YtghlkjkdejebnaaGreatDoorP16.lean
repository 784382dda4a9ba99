/- Jobs of bytes, by definition: the document's way gives what job.Parse gives. Jobs of bytes: what was taken was put. Rows that are the same: what slices.Equal tells. Jobs that are the same. Commands, plainly: whether one may be, its bytes, and which one any bytes are. Commands, plainly: the document's way gives the same; what was put is parsed as it was. A state's parts as bytes, plainly: what any bytes are. A state's parts as bytes, plainly: both ways are one. Numbers and texts as bytes, by definition: the document's package 01, Put. What is taken on the way, by definition: the document's Taker. A job that is taken, by definition: the document's Take. Jobs as bytes, by definition: the document's package 14, Parse, Put, Same. Jobs as bytes, by definition: the document's package 14, Put. Commands, by definition and by the program: whether one may be; the document's bytes. Commands as bytes: what cmd.Put and the document's Put give. -/
import Derived.Test.YtghlkjkdejebnaaGreatDoorP15
import Derived.Test.YtghlkjkdejebnaaGreatDoorP14
set_option linter.unusedSimpArgs false
set_option linter.unusedVariables false
set_option linter.unnecessarySimpa false
namespace Go.Proofs.YtghlkjkdejebnaaGreatDoor
open Rg Go
theorem numS_bad (b : List UInt8) (most : Nat) (s : Nat × Bool) (h : s.2 = true) : numS b most s = (0, s.1, true) := by
  unfold numS
  rw [if_pos (.inl h)]
theorem numS_stay (b : List UInt8) (m : Nat) (s : Nat × Bool) (h : s.2 = true) : (numS b m s).2.2 = true := by rw [numS_bad b m s h]
end Go.Proofs.YtghlkjkdejebnaaGreatDoor
namespace Go.Proofs.YtghlkjkdejebnaaGreatDoor
open Rg Go
theorem numS_inv {b : List UInt8} {m : Nat} {s : Nat × Bool} (h : (numS b m s).2.2 = false) : s.2 = false ∧ b.drop s.1 = putB (numS b m s).1 ++ b.drop (numS b m s).2.1 ∧ (numS b m s).1 < 18446744073709551616 ∧ (numS b m s).1 ≤ m := by
  unfold numS at h ⊢
  split at h
  · cases h
  · rename_i hc
    rw [if_neg hc]
    simp only [not_or, Decidable.not_not, Nat.not_lt] at hc
    refine ⟨by simpa using hc.1, ?_, takeK_lt b s.1, hc.2.2⟩
    exact (takeK_inv hc.2.1).1
theorem takeTextK_inv {b : List UInt8} {a : Nat} (h : (takeTextK b a).2.2 = 0) : b.drop a = putTextB (takeTextK b a).1 ++ b.drop (takeTextK b a).2.1 ∧ (takeTextK b a).1.length ≤ 4096 := by
  unfold takeTextK at h ⊢
  split at h
  · rename_i hc
    exact absurd h hc
  · rename_i hc
    rw [if_neg hc]
    split at h
    · cases h
    · rename_i hd
      rw [if_neg hd]
      have h1 := (takeK_inv (b := b) (a := a) (by simpa using hc)).1
      simp only [not_or, Nat.not_lt] at hd
      have hl : ((b.drop (takeK b a).2.1).take (takeK b a).1).length = (takeK b a).1 := by
        rw [List.length_take, List.length_drop]
        omega
      simp only
      refine ⟨?_, by rw [hl]; exact hd.1⟩
      unfold putTextB
      rw [hl, List.append_assoc, ← List.drop_drop, List.take_append_drop]
      exact h1
theorem txtS_inv {b : List UInt8} {s : Nat × Bool} (h : (txtS b s).2.2 = false) : s.2 = false ∧ b.drop s.1 = putTextB (txtS b s).1 ++ b.drop (txtS b s).2.1 ∧ (txtS b s).1.length ≤ 4096 := by
  unfold txtS at h ⊢
  split at h
  · cases h
  · rename_i hc
    rw [if_neg hc]
    simp only [not_or, Decidable.not_not] at hc
    exact ⟨by simpa using hc.1, takeTextK_inv hc.2⟩
theorem depsS_inv {b : List UInt8} : ∀ (k : Nat) {s : Nat × Bool}, (depsS b k s).2.2 = false → s.2 = false ∧ b.drop s.1 = numsB (depsS b k s).1 ++ b.drop (depsS b k s).2.1 ∧ ∀ n ∈ (depsS b k s).1, n < 18446744073709551616
  | 0, s, h => ⟨h, by simp [depsS, numsB], by simp [depsS]⟩
  | k + 1, s, h => by
    unfold depsS at h ⊢
    obtain ⟨a1, a2, a3⟩ := depsS_inv k h
    obtain ⟨b1, b2, b3, -⟩ := numS_inv a1
    refine ⟨b1, ?_, fun n hn => ?_⟩
    · rw [numsB_cons, List.append_assoc, ← a2]
      exact b2
    · rcases List.mem_cons.1 hn with rfl | hn
      · exact b3
      · exact a3 n hn
theorem zig_unzig {x : Nat} : zig (unzig x) = x := by
  unfold unzig zig
  split <;> split <;> omega
theorem numS_inv' {b : List UInt8} {m n : Nat} {s s' : Nat × Bool} (e : numS b m s = (n, s')) (h : s'.2 = false) : s.2 = false ∧ b.drop s.1 = putB n ++ b.drop s'.1 ∧ n < 18446744073709551616 ∧ n ≤ m := by
  have := numS_inv (b := b) (m := m) (s := s) (by rw [e]; exact h)
  rw [e] at this
  exact this
theorem txtS_inv' {b x : List UInt8} {s s' : Nat × Bool} (e : txtS b s = (x, s')) (h : s'.2 = false) : s.2 = false ∧ b.drop s.1 = putTextB x ++ b.drop s'.1 ∧ x.length ≤ 4096 := by
  have := txtS_inv (b := b) (s := s) (by rw [e]; exact h)
  rw [e] at this
  exact this
theorem depsS_inv' {b : List UInt8} {k : Nat} {L : List Nat} {s s' : Nat × Bool} (e : depsS b k s = (L, s')) (h : s'.2 = false) : s.2 = false ∧ b.drop s.1 = numsB L ++ b.drop s'.1 ∧ (∀ n ∈ L, n < 18446744073709551616) ∧ L.length = k := by
  have := depsS_inv (b := b) k (s := s) (by rw [e]; exact h)
  have hl := depsS_len b k s
  rw [e] at this hl
  exact ⟨this.1, this.2.1, this.2.2, hl⟩
theorem parse_inv {b : List UInt8} {a e : Nat} {j : Jb} (h : parseJ b a = some (j, e)) : b.drop a = putJ j ++ b.drop e ∧ JbOk j ∧ mayJ j = 0 ∧ j.ex.length ≤ 4096 := by
  obtain ⟨n1, s1, d1⟩ : ∃ n s, numS b 18446744073709551615 (a, false) = (n, s) := ⟨_, _, rfl⟩
  obtain ⟨x2, s2, d2⟩ : ∃ n s, txtS b s1 = (n, s) := ⟨_, _, rfl⟩
  obtain ⟨x3, s3, d3⟩ : ∃ n s, txtS b s2 = (n, s) := ⟨_, _, rfl⟩
  obtain ⟨n4, s4, d4⟩ : ∃ n s, numS b 1099511627776 s3 = (n, s) := ⟨_, _, rfl⟩
  obtain ⟨n5, s5, d5⟩ : ∃ n s, numS b 1099511627776 s4 = (n, s) := ⟨_, _, rfl⟩
  obtain ⟨n6, s6, d6⟩ : ∃ n s, numS b 1099511627776 s5 = (n, s) := ⟨_, _, rfl⟩
  obtain ⟨n7, s7, d7⟩ : ∃ n s, numS b 1099511627776 s6 = (n, s) := ⟨_, _, rfl⟩
  obtain ⟨n8, s8, d8⟩ : ∃ n s, numS b 1099511627776 s7 = (n, s) := ⟨_, _, rfl⟩
  obtain ⟨n9, s9, d9⟩ : ∃ n s, numS b 8 s8 = (n, s) := ⟨_, _, rfl⟩
  obtain ⟨L, s10, d10⟩ : ∃ n s, depsS b n9 s9 = (n, s) := ⟨_, _, rfl⟩
  obtain ⟨n11, s11, d11⟩ : ∃ n s, numS b 1 s10 = (n, s) := ⟨_, _, rfl⟩
  obtain ⟨n12, s12, d12⟩ : ∃ n s, numS b 18446744073709551615 s11 = (n, s) := ⟨_, _, rfl⟩
  simp only [parseJ, stA, stB, stC, stD, stE, stF, d1, d2, d3, d4, d5, d6, d7, d8, d9, d10, d11, d12] at h
  split at h
  · cases h
  · rename_i hc
    simp only [not_or, Decidable.not_not, Bool.not_eq_true] at hc
    obtain ⟨h12, h13, hm⟩ := hc
    injection h with h
    injection h with hj he
    rw [hj] at hm
    have M := JbMay.of hm
    obtain ⟨h11, f12, l12, -⟩ := numS_inv' d12 h12
    obtain ⟨h10, f11, -, m11⟩ := numS_inv' d11 h11
    obtain ⟨h9, f10, l10, k10⟩ := depsS_inv' d10 h10
    obtain ⟨h8, f9, -, -⟩ := numS_inv' d9 h9
    obtain ⟨h7, f8, -, -⟩ := numS_inv' d8 h8
    obtain ⟨h6, f7, -, -⟩ := numS_inv' d7 h7
    obtain ⟨h5, f6, -, -⟩ := numS_inv' d6 h6
    obtain ⟨h4, f5, -, -⟩ := numS_inv' d5 h5
    obtain ⟨h3, f4, -, -⟩ := numS_inv' d4 h4
    obtain ⟨h2, f3, l3⟩ := txtS_inv' d3 h3
    obtain ⟨h1, f2, l2⟩ := txtS_inv' d2 h2
    obtain ⟨-, f1, l1, -⟩ := numS_inv' d1 h1
    have f13 := (takeK_inv h13).1
    subst hj
    subst he
    refine ⟨?_, ⟨l1, l12, l10⟩, hm, l3⟩
    have hp : (if decide (n11 = 1) = true then 1 else 0) = n11 := by
      rcases Nat.lt_or_ge n11 1 with h | h
      · have : n11 = 0 := by omega
        subst this; rfl
      · have : n11 = 1 := by omega
        subst this; rfl
    simp only [putJ, hp, numsB_cons, List.append_assoc, zig_unzig, k10, Int.toNat_natCast]
    simp only [numsB, List.flatMap_nil, List.nil_append] at f10 ⊢
    rw [← f13, ← f12, ← f11, ← f10, ← f9, ← f8, ← f7, ← f6, ← f5, ← f4, ← f3, ← f2, ← f1]
end Go.Proofs.YtghlkjkdejebnaaGreatDoor
namespace Go.Proofs.YtghlkjkdejebnaaGreatDoor
open Rg Go
variable {H : Heap}
theorem c_equalU (L M : List Nat) (t u : Rg.Tok) (hL : L.length ≤ 1000000) : AOk Tryz.prog 109 [.sl (L.map (fun n : Nat => (.sc (.int .u64 (n : Int)) : AV))) t, .sl (M.map (fun n : Nat => (.sc (.int .u64 (n : Int)) : AV))) u] H (.sc (.bool (decide (L = M)))) H := by
  refine ACalls.into Tryz.func109 rfl Tryz.ntmps109 Tryz.results109 (by simp) ?_
  simp -implicitDefEqProofs
  by_cases hl : L.length = M.length
  · have hl' : (L.length : Int) = (M.length : Int) := by omega
    simp -implicitDefEqProofs [hl, hl']
    refine AGo.rounds (fun m ρ K => ∃ i, m = L.length - i ∧ i ≤ L.length ∧ L.take i = M.take i ∧ ρ 13 = .sc (.int .i64 (i : Int)) ∧ ρ 0 = .sl (L.map (fun n : Nat => (.sc (.int .u64 (n : Int)) : AV))) t ∧ ρ 1 = .sl (M.map (fun n : Nat => (.sc (.int .u64 (n : Int)) : AV))) u ∧ ρ 12 = .sc (.int .i64 (M.length : Int)) ∧ K = H) ?_ (m := L.length) (HLe.refl _)
      ⟨0, rfl, by omega, by simp, by simp, by simp, by simp, by simp, rfl⟩
    rintro m ρ K ih ⟨i, rfl, hi, hti, r13, r0, r1, r12, rfl⟩
    rcases Nat.lt_or_ge i L.length with hlt | hge
    · have hlm : i < M.length := by omega
      obtain ⟨x, hx, hx2⟩ := getAt hlt
      obtain ⟨y, hy, hy2⟩ := getAt hlm
      have hlt' : (i : Int) < (L.length : Int) := by omega
      have hlm' : (i : Int) < (M.length : Int) := by omega
      have hw1 : IntKind.i64.wrap ((i : Int) + 1) = (i : Int) + 1 := wrap_i64 (by omega) (by omega)
      simp -implicitDefEqProofs [r13, r0, r1, r12, hlm, hlm']
      refine go_draw 9 f_mixed (by decide +kernel) ?_
      by_cases hxy : x = y
      · subst hxy
        simp -implicitDefEqProofs [r13, r0, r1, r12, hlt, hlm, hx, hy, hw1]
        refine AGo.again ih (m' := L.length - (i + 1)) (by omega) (HLe.refl _) ⟨i + 1, rfl, by omega, ?_, by simp, by simp [r0], by simp [r1], by simp [r12], rfl⟩
        rw [List.take_add_one, List.take_add_one, hti, hx2, hy2]
      · have hne : ¬ L = M := by
          intro e
          subst e
          rw [hx2] at hy2
          cases hy2
          exact hxy rfl
        have hxy' : ¬ (x : Int) = (y : Int) := by omega
        simp -implicitDefEqProofs [r13, r0, r1, r12, hlt, hlm, hx, hy, hxy, hxy', hne]
    · have hn : ¬ (i : Int) < (M.length : Int) := by omega
      have hn' : ¬ i < M.length := by omega
      have he : L = M := by rw [List.take_of_length_le hge, List.take_of_length_le (by omega)] at hti; exact hti
      simp -implicitDefEqProofs [r13, r0, r1, r12, hn, hn', he]
  · have hl' : ¬ (L.length : Int) = (M.length : Int) := by omega
    have hne : ¬ L = M := fun e => hl (by rw [e])
    simp -implicitDefEqProofs [hl, hl', hne]
end Go.Proofs.YtghlkjkdejebnaaGreatDoor
namespace Go.Proofs.YtghlkjkdejebnaaGreatDoor
open Rg Go
variable {H : Heap}
def sameJ (a b : Jb) : Bool := decide (a.id = b.id) && (a.name == b.name) && (a.ex == b.ex) && decide (a.pol = b.pol) && decide (a.gr = b.gr) && decide (a.lim = b.lim) && decide (a.ret = b.ret) && decide (a.tim = b.tim) && decide (a.deps = b.deps) && (a.pau == b.pau) && decide (a.ver = b.ver) && decide (a.seen = b.seen)
theorem sameJ_iff {a b : Jb} : sameJ a b = true ↔ a = b := by
  simp only [sameJ, Bool.and_eq_true, decide_eq_true_eq, beq_iff_eq]
  constructor
  · rintro ⟨⟨⟨⟨⟨⟨⟨⟨⟨⟨⟨h1, h2⟩, h3⟩, h4⟩, h5⟩, h6⟩, h7⟩, h8⟩, h9⟩, h10⟩, h11⟩, h12⟩
    cases a; cases b; simp_all
  · rintro rfl
    simp
set_option maxHeartbeats 4000000 in
theorem c_jobSame (a b : Jb) (t u : Rg.Tok) (hl : a.deps.length ≤ 1000000) : AOk Tryz.prog 61 [jbAV a t, jbAV b u] H (.sc (.bool (sameJ a b))) H := by
  have heq := fun K => c_equalU (H := K) a.deps b.deps t u hl
  unfold sameJ
  obtain ⟨c0, hc0⟩ : ∃ c, decide (a.id = b.id) = c := ⟨_, rfl⟩
  have hi0 : decide ((a.id : Int) = (b.id : Int)) = c0 := by rw [← hc0]; congr 1; exact propext ⟨fun h => by omega, fun h => by omega⟩
  obtain ⟨c1, hc1⟩ : ∃ c, (a.name == b.name) = c := ⟨_, rfl⟩
  obtain ⟨c2, hc2⟩ : ∃ c, (a.ex == b.ex) = c := ⟨_, rfl⟩
  obtain ⟨c3, hc3⟩ : ∃ c, decide (a.pol = b.pol) = c := ⟨_, rfl⟩
  obtain ⟨c4, hc4⟩ : ∃ c, decide (a.gr = b.gr) = c := ⟨_, rfl⟩
  obtain ⟨c5, hc5⟩ : ∃ c, decide (a.lim = b.lim) = c := ⟨_, rfl⟩
  obtain ⟨c6, hc6⟩ : ∃ c, decide (a.ret = b.ret) = c := ⟨_, rfl⟩
  obtain ⟨c7, hc7⟩ : ∃ c, decide (a.tim = b.tim) = c := ⟨_, rfl⟩
  obtain ⟨c8, hc8⟩ : ∃ c, decide (a.deps = b.deps) = c := ⟨_, rfl⟩
  obtain ⟨c9, hc9⟩ : ∃ c, (a.pau == b.pau) = c := ⟨_, rfl⟩
  obtain ⟨c10, hc10⟩ : ∃ c, decide (a.ver = b.ver) = c := ⟨_, rfl⟩
  have hi10 : decide ((a.ver : Int) = (b.ver : Int)) = c10 := by rw [← hc10]; congr 1; exact propext ⟨fun h => by omega, fun h => by omega⟩
  obtain ⟨c11, hc11⟩ : ∃ c, decide (a.seen = b.seen) = c := ⟨_, rfl⟩
  rw [hc0, hc1, hc2, hc3, hc4, hc5, hc6, hc7, hc8, hc9, hc10, hc11]
  rw [hc8] at heq
  refine ACalls.into Tryz.func61 rfl Tryz.ntmps61 Tryz.results61 (by simp) ?_
  simp -implicitDefEqProofs
  refine AAlloc.intro fun p hp => ?_
  simp -implicitDefEqProofs
  refine AAlloc.intro fun q hq => ?_
  have npq : p ≠ q := by rintro rfl; simp [Heap.set] at hq
  simp -implicitDefEqProofs [npq]
  generalize hK : Heap.set _ q _ = K
  have kp : K p = some (.cells (jbC a t) 25) := by rw [← hK]; simp [Heap.set, npq]
  have kq : K q = some (.cells (jbC b u) 25) := by rw [← hK]; simp [Heap.set]
  have kW : HWk H K := by rw [← hK]; exact (HLe.set_new (HLe.set_fresh hp) ((HLe.set_fresh hp).none hq)).wk
  clear hK
  simp -implicitDefEqProofs [kp, kq, hc0, hi0]
  cases c0 with
  | false =>
    simp -implicitDefEqProofs [kp, kq, kW]
  | true =>
    simp -implicitDefEqProofs [kp, kq, hc1]
    cases c1 with
    | false =>
      simp -implicitDefEqProofs [kp, kq, kW]
    | true =>
      simp -implicitDefEqProofs [kp, kq, hc2]
      cases c2 with
      | false =>
        simp -implicitDefEqProofs [kp, kq, kW]
      | true =>
        simp -implicitDefEqProofs [kp, kq, hc3]
        cases c3 with
        | false =>
          simp -implicitDefEqProofs [kp, kq, kW]
        | true =>
          simp -implicitDefEqProofs [kp, kq, hc4]
          cases c4 with
          | false =>
            simp -implicitDefEqProofs [kp, kq, kW]
          | true =>
            simp -implicitDefEqProofs [kp, kq, hc5]
            cases c5 with
            | false =>
              simp -implicitDefEqProofs [kp, kq, kW]
            | true =>
              simp -implicitDefEqProofs [kp, kq, hc6]
              cases c6 with
              | false =>
                simp -implicitDefEqProofs [kp, kq, kW]
              | true =>
                simp -implicitDefEqProofs [kp, kq, hc7]
                cases c7 with
                | false =>
                  simp -implicitDefEqProofs [kp, kq, kW]
                | true =>
                  simp -implicitDefEqProofs [kp, kq, hc8]
                  refine ACall.eq (heq K) ?_
                  simp -implicitDefEqProofs [kp, kq]
                  cases c8 with
                  | false =>
                    simp -implicitDefEqProofs [kp, kq, kW]
                  | true =>
                    simp -implicitDefEqProofs [kp, kq, hc9]
                    cases c9 with
                    | false =>
                      simp -implicitDefEqProofs [kp, kq, kW]
                    | true =>
                      simp -implicitDefEqProofs [kp, kq, hc10, hi10]
                      cases c10 with
                      | false =>
                        simp -implicitDefEqProofs [kp, kq, kW]
                      | true =>
                        simp -implicitDefEqProofs [kp, kq, hc11]
                        cases c11 with
                        | false =>
                          simp -implicitDefEqProofs [kp, kq, kW]
                        | true =>
                          simp -implicitDefEqProofs [kp, kq, kW]
end Go.Proofs.YtghlkjkdejebnaaGreatDoor
namespace Go.Proofs.YtghlkjkdejebnaaGreatDoor
open Rg Go
structure Cm where
  kind : Int
  cl : Nat
  sq : Nat
  id : Nat
  at_ : Int
  tk : Nat
  wk : Nat
  job : Jb
abbrev cm0 : Cm := ⟨0, 0, 0, 0, 0, 0, 0, jb0⟩
def bearsC (k : Int) : Bool := decide (k = 2) || decide (k = 3)
def mayM (c : Cm) : Int := if c.kind < 1 ∨ 10 < c.kind ∨ c.at_ < 0 ∨ 13569465600 ≤ c.at_ then 2 else if bearsC c.kind = true then mayJ c.job else 0
def headC (c : Cm) : List Nat := [c.kind.toNat, c.cl, c.sq, c.id, c.at_.toNat, c.tk, c.wk]
def putC (c : Cm) : List UInt8 := numsB (headC c) ++ if bearsC c.kind = true then putJ c.job else []
structure CmOk (c : Cm) : Prop where
  cl : c.cl < 18446744073709551616
  sq : c.sq < 18446744073709551616
  id : c.id < 18446744073709551616
  tk : c.tk < 18446744073709551616
  wk : c.wk < 18446744073709551616
  job : JbOk c.job
def sameC (a b : Cm) : Bool := decide (a.kind = b.kind) && decide (a.cl = b.cl) && decide (a.sq = b.sq) && decide (a.id = b.id) && decide (a.at_ = b.at_) && decide (a.tk = b.tk) && decide (a.wk = b.wk) && (!bearsC a.kind || sameJ a.job b.job)
def numC (b : List UInt8) (most : Nat) (s : Nat × Bool) : Nat × Nat × Bool :=
  ((takeK b s.1).1, max s.1 (takeK b s.1).2.1, s.2 || decide ((takeK b s.1).2.2 ≠ 0) || decide (most < (takeK b s.1).1))
def any64 : Nat := 18446744073709551615
structure Head where
  n1 : Nat
  n2 : Nat
  n3 : Nat
  n4 : Nat
  n5 : Nat
  n6 : Nat
  n7 : Nat
  s : Nat × Bool
def headP (f : Nat → Nat × Bool → Nat × Nat × Bool) (m1 m5 : Nat) : Head :=
  let r1 := f m1 (0, false); let r2 := f any64 r1.2; let r3 := f any64 r2.2; let r4 := f any64 r3.2; let r5 := f m5 r4.2; let r6 := f any64 r5.2; let r7 := f any64 r6.2
  ⟨r1.1, r2.1, r3.1, r4.1, r5.1, r6.1, r7.1, r7.2⟩
def parseC (b : List UInt8) : Option Cm :=
  let h := headP (numC b) 10 13569465600
  if h.s.2 = true then none
  else if bearsC (h.n1 : Int) = true then
    match parseJ b h.s.1 with
    | none => none
    | some (j, e) => let c : Cm := ⟨(h.n1 : Int), h.n2, h.n3, h.n4, (h.n5 : Int), h.n6, h.n7, j⟩; if e ≠ b.length ∨ mayM c ≠ 0 then none else some c
  else let c : Cm := ⟨(h.n1 : Int), h.n2, h.n3, h.n4, (h.n5 : Int), h.n6, h.n7, jb0⟩; if h.s.1 ≠ b.length ∨ mayM c ≠ 0 then none else some c
def parseCT (b : List UInt8) : Option Cm :=
  let h := headP (numS b) any64 any64
  if h.s.2 = true ∨ 10 < h.n1 ∨ 13569465600 < h.n5 then none
  else if bearsC (h.n1 : Int) = true then
    match parseJ b h.s.1 with
    | none => none
    | some (j, _) => let c : Cm := ⟨(h.n1 : Int), h.n2, h.n3, h.n4, (h.n5 : Int), h.n6, h.n7, j⟩; if mayM c ≠ 0 ∨ putC c ≠ b then none else some c
  else let c : Cm := ⟨(h.n1 : Int), h.n2, h.n3, h.n4, (h.n5 : Int), h.n6, h.n7, jb0⟩; if mayM c ≠ 0 ∨ putC c ≠ b then none else some c
theorem numC_step (b : List UInt8) {m : Nat} (hm : m ≤ any64) (s : Nat × Bool) : numC b m s = numS b any64 s ∧ (numS b any64 s).1 ≤ m ∨ (numC b m s).2.2 = true ∧ ((numS b any64 s).2.2 = true ∨ m < (numS b any64 s).1) := by
  have h64 := takeK_lt b s.1
  unfold any64 at hm ⊢
  by_cases h : s.2 = true ∨ (takeK b s.1).2.2 ≠ 0
  · right
    unfold numC numS
    rw [if_pos (by rcases h with h | h <;> simp [h])]
    exact ⟨by rcases h with h | h <;> simp [h], .inl rfl⟩
  · have hn : ¬ (s.2 = true ∨ (takeK b s.1).2.2 ≠ 0 ∨ 18446744073709551615 < (takeK b s.1).1) := by
      rintro (h3 | h3 | h3)
      · exact h (.inl h3)
      · exact h (.inr h3)
      · omega
    simp only [not_or, Bool.not_eq_true, Decidable.not_not] at h
    have hle := (takeK_inv h.2).2
    unfold numC numS
    rw [if_neg hn]
    by_cases h2 : m < (takeK b s.1).1
    · exact .inr ⟨by simp [h2], .inr h2⟩
    · refine .inl ⟨?_, by simp only; omega⟩
      rw [h.1, h.2, decide_eq_false h2, Nat.max_eq_right (by omega)]
      rfl
theorem numC_stay (b : List UInt8) (m : Nat) (s : Nat × Bool) (h : s.2 = true) : (numC b m s).2.2 = true := by
  unfold numC
  simp [h]
theorem numC_any (b : List UInt8) (s : Nat × Bool) : numC b any64 s = numS b any64 s ∨ (numC b any64 s).2.2 = true ∧ (numS b any64 s).2.2 = true := by
  rcases numC_step b (Nat.le_refl any64) s with ⟨h, -⟩ | ⟨h1, h2 | h2⟩
  · exact .inl h
  · exact .inr ⟨h1, h2⟩
  · exfalso
    have h64 := takeK_lt b s.1
    unfold any64 at h2
    unfold numS at h2
    split at h2
    · simp at h2
    · simp only at h2
      omega
theorem head_eq (b : List UInt8) : headP (numC b) 10 13569465600 = headP (numS b) any64 any64 ∧ (headP (numS b) any64 any64).n1 ≤ 10 ∧ (headP (numS b) any64 any64).n5 ≤ 13569465600 ∨
    (headP (numC b) 10 13569465600).s.2 = true ∧ ((headP (numS b) any64 any64).s.2 = true ∨ 10 < (headP (numS b) any64 any64).n1 ∨ 13569465600 < (headP (numS b) any64 any64).n5) := by
  have stC := numC_stay b
  have stS := numS_stay b
  unfold headP
  simp only
  have ha : (10 : Nat) ≤ any64 := by decide
  have hb : (13569465600 : Nat) ≤ any64 := by decide
  rcases numC_step b ha (0, false) with ⟨h1, g1⟩ | ⟨h1, g1⟩
  · rw [h1]
    rcases numC_any b (numS b any64 (0, false)).2 with h2 | ⟨h2, g2⟩
    · rw [h2]
      rcases numC_any b (numS b any64 (numS b any64 (0, false)).2).2 with h3 | ⟨h3, g3⟩
      · rw [h3]
        rcases numC_any b (numS b any64 (numS b any64 (numS b any64 (0, false)).2).2).2 with h4 | ⟨h4, g4⟩
        · rw [h4]
          rcases numC_step b hb (numS b any64 (numS b any64 (numS b any64 (numS b any64 (0, false)).2).2).2).2 with ⟨h5, g5⟩ | ⟨h5, g5⟩
          · rw [h5]
            rcases numC_any b (numS b any64 (numS b any64 (numS b any64 (numS b any64 (numS b any64 (0, false)).2).2).2).2).2 with h6 | ⟨h6, g6⟩
            · rw [h6]
              rcases numC_any b (numS b any64 (numS b any64 (numS b any64 (numS b any64 (numS b any64 (numS b any64 (0, false)).2).2).2).2).2).2 with h7 | ⟨h7, g7⟩
              · rw [h7]
                exact .inl ⟨rfl, g1, g5⟩
              · exact .inr ⟨h7, .inl (g7)⟩
            · exact .inr ⟨stC _ _ (h6), .inl (stS _ _ (g6))⟩
          · rcases g5 with g | g
            · exact .inr ⟨stC _ _ (stC _ _ (h5)), .inl (stS _ _ (stS _ _ (g)))⟩
            · exact .inr ⟨stC _ _ (stC _ _ (h5)), .inr (.inr g)⟩
        · exact .inr ⟨stC _ _ (stC _ _ (stC _ _ (h4))), .inl (stS _ _ (stS _ _ (stS _ _ (g4))))⟩
      · exact .inr ⟨stC _ _ (stC _ _ (stC _ _ (stC _ _ (h3)))), .inl (stS _ _ (stS _ _ (stS _ _ (stS _ _ (g3)))))⟩
    · exact .inr ⟨stC _ _ (stC _ _ (stC _ _ (stC _ _ (stC _ _ (h2))))), .inl (stS _ _ (stS _ _ (stS _ _ (stS _ _ (stS _ _ (g2))))))⟩
  · rcases g1 with g | g
    · exact .inr ⟨stC _ _ (stC _ _ (stC _ _ (stC _ _ (stC _ _ (stC _ _ (h1)))))), .inl (stS _ _ (stS _ _ (stS _ _ (stS _ _ (stS _ _ (stS _ _ (g)))))))⟩
    · exact .inr ⟨stC _ _ (stC _ _ (stC _ _ (stC _ _ (stC _ _ (stC _ _ (h1)))))), .inr (.inl g)⟩
theorem head_inv {b : List UInt8} (h : (headP (numS b) any64 any64).s.2 = false) : let q := headP (numS b) any64 any64
    b = numsB [q.n1, q.n2, q.n3, q.n4, q.n5, q.n6, q.n7] ++ b.drop q.s.1 ∧ (q.n2 < 18446744073709551616 ∧ q.n3 < 18446744073709551616 ∧ q.n4 < 18446744073709551616 ∧ q.n6 < 18446744073709551616 ∧ q.n7 < 18446744073709551616) := by
  obtain ⟨n1, s1, d1⟩ : ∃ n s, numS b any64 (0, false) = (n, s) := ⟨_, _, rfl⟩
  obtain ⟨n2, s2, d2⟩ : ∃ n s, numS b any64 s1 = (n, s) := ⟨_, _, rfl⟩
  obtain ⟨n3, s3, d3⟩ : ∃ n s, numS b any64 s2 = (n, s) := ⟨_, _, rfl⟩
  obtain ⟨n4, s4, d4⟩ : ∃ n s, numS b any64 s3 = (n, s) := ⟨_, _, rfl⟩
  obtain ⟨n5, s5, d5⟩ : ∃ n s, numS b any64 s4 = (n, s) := ⟨_, _, rfl⟩
  obtain ⟨n6, s6, d6⟩ : ∃ n s, numS b any64 s5 = (n, s) := ⟨_, _, rfl⟩
  obtain ⟨n7, s7, d7⟩ : ∃ n s, numS b any64 s6 = (n, s) := ⟨_, _, rfl⟩
  have e : headP (numS b) any64 any64 = ⟨n1, n2, n3, n4, n5, n6, n7, s7⟩ := by
    simp only [headP, d1, d2, d3, d4, d5, d6, d7]
  rw [e] at h ⊢
  simp only at h ⊢
  obtain ⟨h6, f7, l7, -⟩ := numS_inv' d7 h
  obtain ⟨h5, f6, l6, -⟩ := numS_inv' d6 h6
  obtain ⟨h4, f5, l5, -⟩ := numS_inv' d5 h5
  obtain ⟨h3, f4, l4, -⟩ := numS_inv' d4 h4
  obtain ⟨h2, f3, l3, -⟩ := numS_inv' d3 h3
  obtain ⟨h1, f2, l2, -⟩ := numS_inv' d2 h2
  obtain ⟨-, f1, l1, -⟩ := numS_inv' d1 h1
  refine ⟨?_, l2, l3, l4, l6, l7⟩
  simp only [numsB_cons, List.append_assoc]
  simp only [numsB, List.flatMap_nil, List.nil_append]
  rw [← f7, ← f6, ← f5, ← f4, ← f3, ← f2, ← f1]
  rfl
end Go.Proofs.YtghlkjkdejebnaaGreatDoor
namespace Go.Proofs.YtghlkjkdejebnaaGreatDoor
open Rg Go
def normC (c : Cm) : Cm := if bearsC c.kind = true then c else { c with job := jb0 }
structure MM (c : Cm) : Prop where
  kind : 1 ≤ c.kind ∧ c.kind ≤ 10
  at_ : 0 ≤ c.at_ ∧ c.at_ < 13569465600
  job : bearsC c.kind = true → mayJ c.job = 0
theorem MM.of {c : Cm} (h : mayM c = 0) : MM c := by
  unfold mayM at h
  split at h
  · cases h
  · rename_i hc
    simp only [not_or, Int.not_lt, Int.not_le] at hc
    refine ⟨⟨by omega, by omega⟩, ⟨by omega, by omega⟩, fun hb => ?_⟩
    rw [if_pos hb] at h
    exact h
theorem jb0_ok : JbOk jb0 := ⟨by decide, by decide, by simp [jb0]⟩
theorem parseJ_le {b : List UInt8} {a e : Nat} {j : Jb} (ha : a ≤ b.length) (h : parseJ b a = some (j, e)) : e = a + (putJ j).length ∧ e ≤ b.length := by
  obtain ⟨h1, h2, h3, h4⟩ := parse_inv h
  have h5 := parse_put h1 h2 h3 h4
  rw [h] at h5
  injection h5 with h5
  injection h5 with _ h5
  refine ⟨h5, ?_⟩
  have := congrArg List.length h1
  simp only [List.length_drop, List.length_append] at this
  by_cases hz : e ≤ b.length
  · exact hz
  · omega
theorem head_at {b Q : List UInt8} {n1 n2 n3 n4 n5 n6 n7 : Nat} (h : b = numsB [n1, n2, n3, n4, n5, n6, n7] ++ Q) (h1 : n1 < 18446744073709551616) (h2 : n2 < 18446744073709551616) (h3 : n3 < 18446744073709551616) (h4 : n4 < 18446744073709551616) (h5 : n5 < 18446744073709551616) (h6 : n6 < 18446744073709551616) (h7 : n7 < 18446744073709551616) :
    headP (numS b) any64 any64 = ⟨n1, n2, n3, n4, n5, n6, n7, ((numsB [n1, n2, n3, n4, n5, n6, n7]).length, false)⟩ := by
  have hl : (numsB [n1, n2, n3, n4, n5, n6, n7]).length = (putB n1).length + (putB n2).length + (putB n3).length + (putB n4).length + (putB n5).length + (putB n6).length + (putB n7).length := by
    simp only [numsB_cons, List.length_append]
    simp only [numsB, List.flatMap_nil, List.length_nil]
    omega
  rw [hl]
  simp only [numsB_cons, List.append_assoc] at h
  simp only [numsB, List.flatMap_nil, List.nil_append] at h
  have f1 : b.drop 0 = putB n1 ++ (putB n2 ++ (putB n3 ++ (putB n4 ++ (putB n5 ++ (putB n6 ++ (putB n7 ++ Q)))))) := by rw [List.drop_zero]; exact h
  have d1 := numS_at (most := any64) f1 h1 (by unfold any64; omega)
  have f2 := drop_next f1
  have d2 := numS_at (most := any64) f2 h2 (by unfold any64; omega)
  have f3 := drop_next f2
  have d3 := numS_at (most := any64) f3 h3 (by unfold any64; omega)
  have f4 := drop_next f3
  have d4 := numS_at (most := any64) f4 h4 (by unfold any64; omega)
  have f5 := drop_next f4
  have d5 := numS_at (most := any64) f5 h5 (by unfold any64; omega)
  have f6 := drop_next f5
  have d6 := numS_at (most := any64) f6 h6 (by unfold any64; omega)
  have f7 := drop_next f6
  have d7 := numS_at (most := any64) f7 h7 (by unfold any64; omega)
  simp only [headP, d1, d2, d3, d4, d5, d6, d7]
  simp only [Nat.zero_add]
theorem head_le (b : List UInt8) : (headP (numS b) any64 any64).s.1 ≤ b.length := by
  have st := fun m s (h : s.1 ≤ b.length) => (numS_le b m s h).1
  unfold headP
  simp only
  exact st _ _ (st _ _ (st _ _ (st _ _ (st _ _ (st _ _ (st _ _ (Nat.zero_le _)))))))
theorem parseC_eq (b : List UInt8) : parseCT b = parseC b := by
  unfold parseCT parseC
  rcases head_eq b with ⟨h, h1, h5⟩ | ⟨h1, h2⟩
  · rw [h]
    have hle := head_le b
    obtain ⟨q, hq⟩ : ∃ q, headP (numS b) any64 any64 = q := ⟨_, rfl⟩
    have hinv : q.s.2 = false → _ := fun hh => head_inv (b := b) (by rw [hq]; exact hh)
    rw [hq] at h1 h5 hle hinv ⊢
    simp only at hinv ⊢
    by_cases hb : q.s.2 = true
    · rw [if_pos (.inl hb), if_pos hb]
    · rw [if_neg (by rintro (h3 | h3 | h3); exact hb h3; omega; omega), if_neg hb]
      obtain ⟨g1, -⟩ := hinv (by simpa using hb)
      by_cases hk : bearsC (q.n1 : Int) = true
      · rw [if_pos hk, if_pos hk]
        rcases hj : parseJ b q.s.1 with _ | ⟨j, e⟩
        · rfl
        · simp only
          have hi := (parse_inv hj).1
          have he := (parseJ_le hle hj).2
          have hp : (putC ⟨(q.n1 : Int), q.n2, q.n3, q.n4, (q.n5 : Int), q.n6, q.n7, j⟩ = b) ↔ (e = b.length) := by
            simp only [putC, headC, if_pos hk, Int.toNat_natCast]
            constructor
            · intro h3
              rw [hi, ← List.append_assoc, h3] at g1
              have := congrArg List.length g1
              simp only [List.length_append, List.length_drop] at this
              omega
            · intro h3
              subst h3
              rw [List.drop_length, List.append_nil] at hi
              rw [← hi, ← g1]
          exact ite_congr (propext (or_comm.trans (or_congr (not_congr hp) Iff.rfl))) (fun _ => rfl) (fun _ => rfl)
      · rw [if_neg hk, if_neg hk]
        have hp : (putC ⟨(q.n1 : Int), q.n2, q.n3, q.n4, (q.n5 : Int), q.n6, q.n7, jb0⟩ = b) ↔ (q.s.1 = b.length) := by
          simp only [putC, headC, if_neg hk, Int.toNat_natCast, List.append_nil]
          constructor
          · intro h3
            rw [h3] at g1
            have := congrArg List.length g1
            simp only [List.length_append, List.length_drop] at this
            omega
          · intro h3
            rw [h3, List.drop_length, List.append_nil] at g1
            exact g1.symm
        exact ite_congr (propext (or_comm.trans (or_congr (not_congr hp) Iff.rfl))) (fun _ => rfl) (fun _ => rfl)
  · rw [if_pos (by rcases h2 with h2 | h2 | h2 <;> simp [h2]), if_pos h1]
theorem parseC_inv {b : List UInt8} {c : Cm} (h : parseC b = some c) : putC c = b ∧ mayM c = 0 ∧ CmOk c ∧ normC c = c ∧ c.job.ex.length ≤ 4096 := by
  rw [← parseC_eq] at h
  unfold parseCT at h
  obtain ⟨q, hq⟩ : ∃ q, headP (numS b) any64 any64 = q := ⟨_, rfl⟩
  have hinv : q.s.2 = false → _ := fun hh => head_inv (b := b) (by rw [hq]; exact hh)
  rw [hq] at hinv h
  simp only at hinv h
  split at h
  · cases h
  · rename_i hc
    simp only [not_or, Bool.not_eq_true] at hc
    obtain ⟨-, l2, l3, l4, l6, l7⟩ := hinv hc.1
    split at h
    · rename_i hk
      rcases hj : parseJ b q.s.1 with _ | ⟨j, e⟩ <;> rw [hj] at h
      · cases h
      · simp only at h
        split at h
        · cases h
        · rename_i hd
          simp only [not_or, Decidable.not_not] at hd
          cases h
          obtain ⟨-, j2, -, j4⟩ := parse_inv hj
          exact ⟨hd.2, hd.1, ⟨l2, l3, l4, l6, l7, j2⟩, if_pos hk, j4⟩
    · rename_i hk
      split at h
      · cases h
      · rename_i hd
        simp only [not_or, Decidable.not_not] at hd
        cases h
        exact ⟨hd.2, hd.1, ⟨l2, l3, l4, l6, l7, jb0_ok⟩, if_neg hk, by simp [jb0]⟩
theorem mayM_norm {c : Cm} (h : mayM c = 0) : mayM (normC c) = 0 := by
  unfold normC
  split
  · exact h
  · rename_i hk
    unfold mayM at h ⊢
    split at h
    · cases h
    · rename_i hc
      rw [if_neg hc, if_neg hk]
theorem parse_putC {c : Cm} (Q : List UInt8) (hm : mayM c = 0) (ho : CmOk c) (hs : c.job.ex.length ≤ 4096) : parseC (putC c ++ Q) = if Q = [] then some (normC c) else none := by
  have M := MM.of hm
  have ek : (c.kind.toNat : Int) = c.kind := by have := M.kind; omega
  have ea : (c.at_.toNat : Int) = c.at_ := by have := M.at_; omega
  obtain ⟨J, hJ⟩ : ∃ J, (if bearsC c.kind = true then putJ c.job else []) = J := ⟨_, rfl⟩
  have hb : putC c ++ Q = numsB [c.kind.toNat, c.cl, c.sq, c.id, c.at_.toNat, c.tk, c.wk] ++ (J ++ Q) := by
    simp only [putC, headC, hJ, List.append_assoc]
  have hh := head_at hb (by have := M.kind; omega) ho.cl ho.sq ho.id (by have := M.at_; omega) ho.tk ho.wk
  have hmn := mayM_norm hm
  rw [← parseC_eq]
  unfold parseCT
  rw [hh]
  simp only
  rw [if_neg (by have := M.kind; have := M.at_; rintro (h | h | h); cases h; omega; omega), ek, ea]
  have hdr : (putC c ++ Q).drop (numsB [c.kind.toNat, c.cl, c.sq, c.id, c.at_.toNat, c.tk, c.wk]).length = J ++ Q := by rw [hb, List.drop_left]
  have hq : (putC c = putC c ++ Q) ↔ Q = [] := by
    constructor
    · intro h
      have := congrArg List.length h
      simp at this
      exact this
    · rintro rfl; simp
  by_cases hk : bearsC c.kind = true
  · rw [if_pos hk] at hJ ⊢
    subst hJ
    rw [parse_put hdr ho.job (M.job hk) hs]
    have hn : normC c = c := if_pos hk
    simp only
    rw [hn]
    by_cases hQ : Q = []
    · rw [if_neg (by rintro (h | h); exact h hm; exact h (hq.2 hQ)), if_pos hQ]
    · rw [if_pos (.inr fun h => hQ (hq.1 h)), if_neg hQ]
  · rw [if_neg hk]
    have hn : normC c = ⟨c.kind, c.cl, c.sq, c.id, c.at_, c.tk, c.wk, jb0⟩ := if_neg hk
    rw [hn] at hmn ⊢
    have hp : putC ⟨c.kind, c.cl, c.sq, c.id, c.at_, c.tk, c.wk, jb0⟩ = putC c := by
      simp only [putC, headC, if_neg hk]
    by_cases hQ : Q = []
    · rw [if_neg (by rw [hp]; rintro (h | h); exact h hmn; exact h (hq.2 hQ)), if_pos hQ]
    · rw [if_pos (.inr (by rw [hp]; exact fun h => hQ (hq.1 h))), if_neg hQ]
theorem sameC_iff {c d : Cm} : sameC c d = true ↔ normC c = normC d := by
  simp only [sameC, Bool.and_eq_true, decide_eq_true_eq, Bool.or_eq_true, Bool.not_eq_true', sameJ_iff]
  constructor
  · rintro ⟨⟨⟨⟨⟨⟨⟨h1, h2⟩, h3⟩, h4⟩, h5⟩, h6⟩, h7⟩, h8⟩
    unfold normC
    rw [← h1]
    cases c; cases d
    simp only at *
    subst h1 h2 h3 h4 h5 h6 h7
    split
    · rename_i hk
      rw [hk] at h8
      simp only [reduceCtorEq, false_or] at h8
      rw [h8]
    · rfl
  · intro h
    have hk : c.kind = d.kind := by
      have := congrArg Cm.kind h
      unfold normC at this
      split at this <;> split at this <;> exact this
    unfold normC at h
    rw [hk] at h ⊢
    split at h
    · subst h; simp
    · rename_i hb
      injection h with _ h2 h3 h4 h5 h6 h7
      simp only [Bool.not_eq_true] at hb
      simp [h2, h3, h4, h5, h6, h7, hb]
theorem put_sameC {c d : Cm} (hc : mayM c = 0) (hd : mayM d = 0) (oc : CmOk c) (od : CmOk d) (sc : c.job.ex.length ≤ 4096) (sd : d.job.ex.length ≤ 4096) : putC c = putC d ↔ sameC c d = true := by
  rw [sameC_iff]
  have h1 := parse_putC [] hc oc sc
  have h2 := parse_putC [] hd od sd
  rw [if_pos rfl, List.append_nil] at h1 h2
  constructor
  · intro h
    rw [h, h2] at h1
    injection h1 with h1
    exact h1.symm
  · intro h
    rw [← (parseC_inv h1).1, ← (parseC_inv h2).1, h]
theorem parse_cutC {c : Cm} (hc : mayM c = 0) (oc : CmOk c) (sc : c.job.ex.length ≤ 4096) {k : Nat} (hk : k < (putC c).length) : parseC ((putC c).take k) = none := by
  rcases h : parseC ((putC c).take k) with _ | d
  · rfl
  · exfalso
    obtain ⟨p1, p2, p3, -, p5⟩ := parseC_inv h
    have h1 := parse_putC ((putC c).drop k) p2 p3 p5
    have h2 := parse_putC [] hc oc sc
    rw [p1, List.take_append_drop, if_neg (fun h => by have := congrArg List.length h; simp at this; omega)] at h1
    rw [List.append_nil, if_pos rfl, h1] at h2
    cases h2
end Go.Proofs.YtghlkjkdejebnaaGreatDoor
namespace Go.Proofs.YtghlkjkdejebnaaGreatDoor
open Rg Go
end Go.Proofs.YtghlkjkdejebnaaGreatDoor
namespace Go.Proofs.YtghlkjkdejebnaaGreatDoor
open Rg Go
end Go.Proofs.YtghlkjkdejebnaaGreatDoor
namespace Go.Proofs.YtghlkjkdejebnaaGreatDoor
open Rg Go
variable {H : Heap}
def Gr (e : TypeId) (sz : Nat) (H0 : Heap) (xs : List AV) (t : Rg.Tok) (K : Heap) : Prop :=
  (((t = .nil ∧ xs = []) ∨ t = .full) ∧ K = H0) ∨ ∃ g cap, H0 g = none ∧ t = .own g cap sz e ∧ K = H0.set g (.open xs.length cap sz e)
theorem Gr.nil {e : TypeId} {sz : Nat} {H0 : Heap} : Gr e sz H0 [] .nil H0 := .inl ⟨.inl ⟨rfl, rfl⟩, rfl⟩
theorem Gr.full {e : TypeId} {sz : Nat} {H0 : Heap} {xs : List AV} : Gr e sz H0 xs .full H0 := .inl ⟨.inr rfl, rfl⟩
theorem Gr.le {e : TypeId} {sz : Nat} {H0 K : Heap} {xs : List AV} {t : Rg.Tok} (h : Gr e sz H0 xs t K) : HLe H0 K := by
  rcases h with ⟨_, rfl⟩ | ⟨g, cap, h1, _, rfl⟩
  · exact HLe.refl _
  · exact (HLe.refl _).set_new h1
theorem Grows.gr {e : TypeId} {sz : Nat} {H0 K : Heap} {xs : List AV} {t : Rg.Tok} (h : Grows H0 xs sz e t K) : Gr e sz H0 xs t K := by
  rcases h with ⟨rfl, rfl, rfl⟩ | h
  · exact .nil
  · exact .inr h
theorem Gr.base {e : TypeId} {sz : Nat} {H0 H1 K : Heap} {xs : List AV} {t : Rg.Tok} (h : Gr e sz H1 xs t K) (hl : HLe H0 H1) : ∃ K', Gr e sz H0 xs t K' ∧ HLe K' K := by
  rcases h with ⟨h1, rfl⟩ | ⟨g, cap, h1, h2, rfl⟩
  · exact ⟨H0, .inl ⟨h1, rfl⟩, hl⟩
  · exact ⟨H0.set g (.open xs.length cap sz e), .inr ⟨g, cap, hl.none h1, h2, rfl⟩, hl.set_mono⟩
theorem AApp.gr {P : Program} {n : Nat} {Q : Post} {ρ : Nat → AV} {k : List AItem} {full : Array Oper} {dst : Option Tmp} {r : List Oper} {T e : TypeId} {xs ys : List AV} {t : Rg.Tok} {sz by_ : Nat} {H0 K : Heap} (he : ElemOk P T e sz by_) (hg : Gr e sz H0 xs t K) (hl : HLe K H)
    (hx : szs sz xs = true) (hy : szs sz ys = true) (hb : (xs.length + ys.length) * by_ ≤ 140737488355328) (hm : xs.length + ys.length ≤ maxLen)
    (h : ∀ t' K' Hn, Gr e sz H0 (xs ++ ys) t' K' → HLe K' Hn → AGo P n Q (.ops full r :: k) (aput n dst (.sl (xs ++ ys) t') ρ) Hn) : AApp P n Q full dst r k ρ H T e xs t ys := by
  rcases hg with ⟨ht, rfl⟩ | hg
  · by_cases h0 : ys = []
    · subst h0
      rw [List.length_nil, Nat.add_zero] at hb hm
      refine AApp.same he hx hb hm ?_
      have := h t K H (.inl ⟨by rwa [List.append_nil], rfl⟩) hl
      rwa [List.append_nil] at this
    · refine AApp.new he (ht.imp And.left id) h0 hx hy hb hm fun g cap hgn => h _ (K.set g (.open (xs ++ ys).length cap sz e)) _ (.inr ⟨g, cap, hl.none hgn, rfl, rfl⟩) ?_
      rw [List.length_append]
      exact hl.set_mono
  · refine AApp.grows0 he (.inr hg) hl hx hy hb hm fun t' K' Hn hg' hl' => h t' K' Hn ?_ hl'
    rcases hg' with ⟨h1, h2, h3⟩ | h1
    · exact .inl ⟨.inl ⟨h2, h1⟩, h3⟩
    · exact .inr h1
theorem set_del_same {H0 : Heap} {g : Nat} {o : AObj} (h : H0 g = none) : (H0.set g o).del g = H0 := by
  funext b
  by_cases hb : b = g
  · subst hb; simp [Heap.del, h]
  · simp [Heap.del, Heap.set, hb]
theorem AApp.grE {P : Program} {n : Nat} {Q : Post} {ρ : Nat → AV} {k : List AItem} {full : Array Oper} {dst : Option Tmp} {r : List Oper} {T e : TypeId} {xs ys : List AV} {t : Rg.Tok} {sz by_ : Nat} {H0 : Heap} (he : ElemOk P T e sz by_) (hg : Gr e sz H0 xs t H)
    (hx : szs sz xs = true) (hy : szs sz ys = true) (hb : (xs.length + ys.length) * by_ ≤ 140737488355328) (hm : xs.length + ys.length ≤ maxLen)
    (h : ∀ t' Hn, Gr e sz H0 (xs ++ ys) t' Hn → AGo P n Q (.ops full r :: k) (aput n dst (.sl (xs ++ ys) t') ρ) Hn) : AApp P n Q full dst r k ρ H T e xs t ys := by
  rcases hg with ⟨ht, rfl⟩ | ⟨g, cap, h1, rfl, rfl⟩
  · by_cases h0 : ys = []
    · subst h0
      rw [List.length_nil, Nat.add_zero] at hb hm
      refine AApp.same he hx hb hm ?_
      have := h t H (.inl ⟨by rwa [List.append_nil], rfl⟩)
      rwa [List.append_nil] at this
    · refine AApp.new he (ht.imp And.left id) h0 hx hy hb hm fun g cap hgn => ?_
      rw [← List.length_append]
      exact h _ _ (.inr ⟨g, cap, hgn, rfl, rfl⟩)
  · refine AApp.own he (by simp [Heap.set]) hx hy hb hm fun g' cap' hgn => ?_
    rw [set_del_same h1] at hgn ⊢
    rw [← List.length_append]
    exact h _ _ (.inr ⟨g', cap', hgn, rfl, rfl⟩)
theorem AWS.gr {P : Program} {n : Nat} {ρ : Nat → AV} {H0 G0 G : Heap} {K : (Nat → AV) → Heap → Prop} {dst : Option Tmp} {T e : TypeId} {xs ys : List AV} {t : Rg.Tok} {sz by_ : Nat} (he : ElemOk P T e sz by_) (hg : Gr e sz G0 xs t G) (hl : HLe G H)
    (hx : szs sz xs = true) (hy : szs sz ys = true) (hb : (xs.length + ys.length) * by_ ≤ 140737488355328) (hm : xs.length + ys.length ≤ maxLen)
    (h : ∀ t' K' Hn, Gr e sz G0 (xs ++ ys) t' K' → HLe K' Hn → K (aput n dst (.sl (xs ++ ys) t') ρ) Hn) : AWS P n H0 K dst ρ H (.app T e xs t ys) := by
  rcases hg with ⟨ht, rfl⟩ | hg
  · refine ⟨sz, by_, he, hx, hy, hb, hm, ?_⟩
    by_cases h0 : ys = []
    · subst h0
      have := h t G H (.inl ⟨by rwa [List.append_nil], rfl⟩) hl
      rw [List.append_nil] at this
      exact .inl ⟨ht.imp And.left id, rfl, this⟩
    · refine .inr (.inl ⟨ht.imp And.left id, h0, fun g cap hgn => h _ (G.set g (.open (xs ++ ys).length cap sz e)) _ (.inr ⟨g, cap, hl.none hgn, rfl, rfl⟩) ?_⟩)
      rw [List.length_append]
      exact hl.set_mono
  · refine AWS.grows0 he (.inr hg) hl hx hy hb hm fun t' K' Hn hg' hl' _ => h t' K' Hn ?_ hl'
    rcases hg' with ⟨h1, h2, h3⟩ | h1
    · exact .inl ⟨.inl ⟨h2, h1⟩, h3⟩
    · exact .inr h1
end Go.Proofs.YtghlkjkdejebnaaGreatDoor
namespace Go.Proofs.YtghlkjkdejebnaaGreatDoor
open Rg Go
variable {H : Heap}
def tkAt (s : Nat × Bool) : Int := if s.2 = true then -1 else (s.1 : Int)
abbrev tkC (b : List UInt8) (t : Rg.Tok) (s : Nat × Bool) : List AV := [.sl (u8s b) t, .sc (.int .i64 (tkAt s))]
abbrev tkO (b : List UInt8) (t : Rg.Tok) (s : Nat × Bool) : AObj := .cells (tkC b t s) 91
structure TInv (B : Heap) (b : List UInt8) (t : Rg.Tok) (p pj : Nat) (s : Nat × Bool) (j : Jb) (t0 : Rg.Tok) (K : Heap) : Prop where
  tk : K p = some (tkO b t s)
  row : RowAt 22 25 B pj j.deps.length (jbC j) K
  cell : K pj = some (.cells (jbC j t0) 25)
  p0 : B p = none
  np : p ≠ pj
  le : s.1 ≤ b.length
section
variable {B : Heap} {b : List UInt8} {t : Rg.Tok} {p pj : Nat} {s : Nat × Bool} {j : Jb} {t0 : Rg.Tok} {K : Heap}
theorem TInv.upd (h : TInv B b t p pj s j t0 K) {s' : Nat × Bool} (hs : s'.1 ≤ b.length) : TInv B b t p pj s' j t0 (K.set p (tkO b t s')) :=
  ⟨by simp [Heap.set], h.row.set h.p0 h.tk h.np, by simp [Heap.set, Ne.symm h.np, h.cell], h.p0, h.np, hs⟩
theorem TInv.put (h : TInv B b t p pj s j t0 K) {j' : Jb} (hd : j'.deps = j.deps) : TInv B b t p pj s j' t0 (K.set pj (.cells (jbC j' t0) 25)) := by
  refine ⟨by simp [Heap.set, h.np, h.tk], ?_, by simp [Heap.set], h.p0, h.np, h.le⟩
  rw [hd]
  exact h.row.put h.cell fun t' ht => jbC_inj ht
theorem TInv.app (h : TInv B b t p pj s j t0 K) (n : Nat) : ∃ G0 G, Grows G0 (u64s j.deps) 1 22 t0 G ∧ HLe G K ∧ ∀ t' K' Hn, Grows G0 (u64s (j.deps ++ [n])) 1 22 t' K' → HLe K' Hn →
    Hn pj = some (.cells (jbC j t0) 25) ∧ TInv B b t p pj s { j with deps := j.deps ++ [n] } t' (Hn.set pj (.cells (jbC { j with deps := j.deps ++ [n] } t') 25)) := by
  have hr := h.row
  rw [show j.deps.length = (u64s j.deps).length by simp] at hr
  obtain ⟨t1, G0, G, c1, hg, hl, hl0, c2, hp⟩ := hr.grows
  rw [h.cell] at c1
  simp only [Option.some.injEq, AObj.cells.injEq] at c1
  obtain rfl := jbC_inj c1.1
  refine ⟨G0, G, hg, hl, fun t' K' Hn hg' hl' => ?_⟩
  have keep : ∀ p cs T', K p = some (.cells cs T') → Hn p = some (.cells cs T') := fun p cs T' hh => hl' p _ (hg'.le p _ (hp p cs T' hh))
  refine ⟨keep _ _ _ h.cell, by simp [Heap.set, h.np, keep _ _ _ h.tk], ?_, by simp [Heap.set], h.p0, h.np, h.le⟩
  have := RowAt.stored (T := 25) (F := jbC { j with deps := j.deps ++ [n] }) hl0 h.row.no c2 hg' hl'
  simpa using this
end
end Go.Proofs.YtghlkjkdejebnaaGreatDoor
namespace Go.Proofs.YtghlkjkdejebnaaGreatDoor
open Rg Go
variable {H : Heap}
end Go.Proofs.YtghlkjkdejebnaaGreatDoor
namespace Go.Proofs.YtghlkjkdejebnaaGreatDoor
open Rg Go
variable {H : Heap}
end Go.Proofs.YtghlkjkdejebnaaGreatDoor
namespace Go.Proofs.YtghlkjkdejebnaaGreatDoor
open Rg Go
variable {H : Heap}
theorem HLe.hc {A B : Heap} (h : HLe A B) : HC A B := fun b cs e => by
  cases hb : A b with
  | none => rw [hb] at e; cases e
  | some o => rw [h b o hb]; rw [hb] at e; exact e
end Go.Proofs.YtghlkjkdejebnaaGreatDoor
namespace Go.Proofs.YtghlkjkdejebnaaGreatDoor
open Rg Go
variable {H : Heap}
abbrev cmC (c : Cm) (t : Rg.Tok) : List AV := .sc (.int .i64 c.kind) :: .sc (.int .u64 (c.cl : Nat)) :: .sc (.int .u64 (c.sq : Nat)) :: .sc (.int .u64 (c.id : Nat)) :: .sc (.int .i64 c.at_) :: .sc (.int .u64 (c.tk : Nat)) :: .sc (.int .u64 (c.wk : Nat)) :: jbC c.job t
abbrev cmAV (c : Cm) (t : Rg.Tok) : AV := .agg (cmC c t)
theorem c_bears (k : Int) : AOk Tryz.prog 48 [.sc (.int .i64 k)] H (.sc (.bool (bearsC k))) H := by
  unfold bearsC
  refine ACalls.into Tryz.func48 rfl Tryz.ntmps48 Tryz.results48 (by simp) ?_
  simp -implicitDefEqProofs
  by_cases h2 : k = 2
  · simp -implicitDefEqProofs [h2]
  · by_cases h3 : k = 3
    · simp -implicitDefEqProofs [h3]
    · simp -implicitDefEqProofs [h2, h3]
set_option maxHeartbeats 1000000 in
theorem c_cmdMay (hG : Glob H) (c : Cm) (t : Rg.Tok) (hs : c.job.ex.length ≤ 9223372036854775807) : AOk Tryz.prog 14 [cmAV c t] H (.sc (.int .i64 (mayM c))) H := by
  refine ACalls.into Tryz.func14 rfl Tryz.ntmps14 Tryz.results14 (by simp) ?_
  simp -implicitDefEqProofs
  refine AAlloc.intro fun b1 h1 => ?_
  simp -implicitDefEqProofs
  generalize hK : Heap.set _ b1 _ = K0
  have k1 : K0 b1 = some (.cells (cmC c t) 27) := by rw [← hK]; simp [Heap.set]
  have kG : Glob K0 := by rw [← hK]; exact hG.new h1
  have kW : HWk H K0 := by rw [← hK]; exact (HLe.set_fresh h1).wk
  clear hK
  unfold mayM
  by_cases a1 : c.kind < 1
  · rw [if_pos (.inl a1)]
    simp -implicitDefEqProofs [k1, a1, kW]
  · by_cases a2 : 10 < c.kind
    · rw [if_pos (.inr (.inl a2))]
      simp -implicitDefEqProofs [k1, a1, a2, kW]
    · by_cases a3 : c.at_ < 0
      · rw [if_pos (.inr (.inr (.inl a3)))]
        simp -implicitDefEqProofs [k1, a1, a2, a3, kW]
      · by_cases a4 : 13569465600 ≤ c.at_
        · rw [if_pos (.inr (.inr (.inr a4)))]
          simp -implicitDefEqProofs [k1, a1, a2, a3, a4, kW]
        · rw [if_neg (by omega)]
          simp -implicitDefEqProofs [k1, a1, a2, a3, a4]
          refine ACall.eq (c_bears c.kind) ?_
          by_cases hb : bearsC c.kind = true
          · rw [if_pos hb]
            simp -implicitDefEqProofs [k1, hb]
            refine ACall.eq (c_jobMay kG c.job t hs) ?_
            simp -implicitDefEqProofs [kW]
          · rw [if_neg hb]
            have hb' : bearsC c.kind = false := by simpa using hb
            simp -implicitDefEqProofs [hb', kW]
end Go.Proofs.YtghlkjkdejebnaaGreatDoor
namespace Go.Proofs.YtghlkjkdejebnaaGreatDoor
open Rg Go
variable {H : Heap}
theorem head_lt {c : Cm} (ho : CmOk c) (M : MM c) : ∀ n ∈ headC c, n < 18446744073709551616 := by
  intro n hn
  have := M.kind
  have := M.at_
  simp only [headC, List.mem_cons, List.not_mem_nil, or_false] at hn
  rcases hn with rfl | rfl | rfl | rfl | rfl | rfl | rfl
  · omega
  · exact ho.cl
  · exact ho.sq
  · exact ho.id
  · omega
  · exact ho.tk
  · exact ho.wk
theorem putJ_len {j : Jb} (ho : JbOk j) (hm : mayJ j = 0) (hs : j.ex.length ≤ 4096) : (putJ j).length ≤ 4500 := by
  have M := JbMay.of hm
  have := M.name
  have := M.deps
  have a1 := numsB_len [j.id]
  have a2 := putB_len j.name.length
  have a3 := putB_len j.ex.length
  have a4 := numsB_len [j.pol.toNat, j.gr.toNat, j.lim.toNat, j.ret.toNat, j.tim.toNat, j.deps.length]
  have a5 := numsB_len j.deps
  have a6 := numsB_len [if j.pau then 1 else 0, j.ver]
  have a7 := putB_len (zig j.seen)
  simp only [putJ, putTextB, List.length_append, List.length_cons, List.length_nil] at *
  omega
set_option maxHeartbeats 2000000 in
theorem c_cmdPutOk (hG : Glob H) (c : Cm) (t : Rg.Tok) (ho : CmOk c) (hm : mayM c = 0) (hs : c.job.ex.length ≤ 4096) : AOk Tryz.prog 10 [cmAV c t] H (.tup [.sl (u8s (putC c)) .no, .sc (.int .i64 0)]) H := by
  have M := MM.of hm
  refine ACalls.into Tryz.func10 rfl Tryz.ntmps10 Tryz.results10 (by simp) ?_
  simp -implicitDefEqProofs
  refine AAlloc.intro fun b1 h1 => ?_
  simp -implicitDefEqProofs
  generalize hK : Heap.set _ b1 _ = K0
  have k1 : K0 b1 = some (.cells (cmC c t) 27) := by rw [← hK]; simp [Heap.set]
  have kG : Glob K0 := by rw [← hK]; exact hG.new h1
  have kW : HLe H K0 := by rw [← hK]; exact HLe.set_fresh h1
  clear hK
  have hmay := c_cmdMay kG c t (by omega)
  rw [hm] at hmay
  refine ACall.eq hmay ?_
  have hlt := head_lt ho M
  have wk1 : IntKind.u64.wrap c.kind = ((c.kind.toNat : Nat) : Int) := by have := M.kind; rw [wrap_u64 (by omega) (by omega)]; omega
  have wk5 : IntKind.u64.wrap c.at_ = ((c.at_.toNat : Nat) : Int) := by have := M.at_; rw [wrap_u64 (by omega) (by omega)]; omega
  obtain ⟨L, hL⟩ : ∃ L, headC c = L := ⟨_, rfl⟩
  have hLl : L.length = 7 := by rw [← hL]; rfl
  have hput : putC c = numsB L ++ if bearsC c.kind = true then putJ c.job else [] := by rw [← hL]; rfl
  rw [hL] at hlt
  have nL := numsB_len L
  simp -implicitDefEqProofs [k1, wk1, wk5]
  refine AGo.joinLoop (fun ρ K => ∃ t', ρ 1 = .sc (.pointer (some ⟨b1, 0, none⟩)) ∧ ρ 5 = .sl (u8s (numsB L)) t' ∧ Gr 5 1 K0 (u8s (numsB L)) t' K) (fun k' hk => ?_) ?_
  · refine AGo.rounds (fun m ρ K => ∃ i q t', m = L.length - i ∧ i ≤ L.length ∧ numsB (L.take i) = q ∧ ρ 33 = .sc (.int .i64 (i : Int)) ∧ ρ 1 = .sc (.pointer (some ⟨b1, 0, none⟩)) ∧ ρ 31 = .sl (u64s L) .full ∧ ρ 32 = .sc (.int .i64 (L.length : Int)) ∧ ρ 5 = .sl (u8s q) t' ∧ Gr 5 1 K0 (u8s q) t' K) ?_ (m := L.length) (HLe.refl _)
      ⟨0, [], .nil, rfl, by omega, by simp [numsB], by simp, by simp, by rw [← hL]; simp [headC], by rw [hLl]; simp, by simp, .nil⟩
    rintro m ρ K ih ⟨i, q, t', rfl, hi, hq, r33, r1, r31, r32, r5, g⟩
    by_cases hlt2 : i < L.length
    · have hlt' : (i : Int) < (L.length : Int) := by omega
      obtain ⟨n, hnj, hn⟩ := getAt hlt2
      have hw1 : IntKind.i64.wrap ((i : Int) + 1) = (i : Int) + 1 := wrap_i64 (by omega) (by omega)
      have hn64 := hlt n (List.mem_of_getElem? hn)
      have hpl := putB_len n
      have hnl := numsB_len (L.take i)
      rw [List.length_take] at hnl
      have hql : q.length ≤ 100 := by rw [← hq]; omega
      simp -implicitDefEqProofs [r33, r1, r31, r32, r5, hlt2, hlt', hnj]
      refine ACall.eq (c_packPut n hn64) ?_
      simp -implicitDefEqProofs [r5]
      refine AApp.grE el_28 g (szs_u8s _) (szs_u8s _) (by simp only [List.length_map]; omega) (by simp only [List.length_map, maxLen]; omega) fun t2 Hn g2 => ?_
      rw [← u8s_app] at g2 ⊢
      obtain ⟨q2, hq2⟩ : ∃ q2, q ++ putB n = q2 := ⟨_, rfl⟩
      rw [hq2] at g2 ⊢
      simp -implicitDefEqProofs [r33, r1, r31, r32, hw1]
      exact AGo.again ih (m' := L.length - (i + 1)) (by omega) (HLe.refl _) ⟨i + 1, q2, t2, rfl, by omega, by rw [numsB_take hn, hq, hq2], by simp, by simp [r1], by simp [r31], by simp [r32], by simp, g2⟩
    · have hn' : ¬ (i : Int) < (L.length : Int) := by omega
      simp -implicitDefEqProofs [r33, r1, r31, r32, r5, hlt2, hn']
      rw [List.take_of_length_le (by omega)] at hq
      exact hk _ _ ⟨t', by simp [r1], by simp [r5, hq], by rw [hq]; exact g⟩
  · rintro ρ K ⟨t', r1, r5, g⟩
    have kk : K b1 = some (.cells (cmC c t) 27) := g.le b1 _ k1
    have kG2 : Glob K := kG.le g.le
    obtain ⟨q, hq⟩ : ∃ q, numsB L = q := ⟨_, rfl⟩
    rw [hq] at g r5 hput nL
    simp -implicitDefEqProofs [r1, r5, kk]
    refine ACall.eq (c_bears c.kind) ?_
    by_cases hb : bearsC c.kind = true
    · rw [if_pos hb] at hput
      have hpj := putJ_len (ho.job) (M.job hb) hs
      simp -implicitDefEqProofs [hb, r1, r5, kk]
      refine ACall.eq (c_jobPut kG2 c.job t ho.job (M.job hb) hs) ?_
      have hj : joinB [(q, t'), (putJ c.job, Rg.Tok.no)] = putC c := by rw [hput]; simp [joinB]
      have hlen : (putC c).length ≤ 1000000 := by rw [hput, List.length_append]; omega
      have hc := c_packJoin (H := K) [(q, t'), (putJ c.job, Rg.Tok.no)] .full (by simp only [List.length_cons, List.length_nil]; omega) (by rw [hj]; exact hlen)
      rw [hj] at hc
      simp only [rowsAV, List.map_cons, List.map_nil] at hc
      simp -implicitDefEqProofs [r5]
      refine ACall.intro hc ?_
      rintro v K2 ⟨t2, rfl, hg⟩
      simp -implicitDefEqProofs
      exact (kW.trans (g.le.trans hg.le)).wk
    · rw [if_neg hb, List.append_nil] at hput
      have hb' : bearsC c.kind = false := by simpa using hb
      rw [hput]
      simp -implicitDefEqProofs [hb', r1, r5]
      exact (kW.trans g.le).wk
end Go.Proofs.YtghlkjkdejebnaaGreatDoor
