/- Jobs that are the same. Commands, plainly: whether one may be, its bytes, and which one any bytes are. Commands, plainly: the document's way gives the same; what was put is parsed as it was. A state's parts as bytes, plainly: what any bytes are. A state's parts as bytes, plainly: both ways are one. Numbers and texts as bytes, by definition: the document's package 01, Put. What is taken on the way, by definition: the document's Taker. -/
import Derived.Test.YtghlkjkdejebnaaGreatDoorP19
import Derived.Test.YtghlkjkdejebnaaGreatDoorP18
set_option linter.unusedSimpArgs false
set_option linter.unusedVariables false
set_option linter.unnecessarySimpa false
namespace Go.Proofs.YtghlkjkdejebnaaGreatDoor
open Rg Go
variable {H : Heap}
def sameJ (a b : Jb) : Bool := decide (a.id = b.id) && (a.name == b.name) && (a.ex == b.ex) && decide (a.pol = b.pol) && decide (a.gr = b.gr) && decide (a.lim = b.lim) && decide (a.ret = b.ret) && decide (a.tim = b.tim) && decide (a.deps = b.deps) && (a.pau == b.pau) && decide (a.ver = b.ver) && decide (a.seen = b.seen)
theorem sameJ_iff {a b : Jb} : sameJ a b = true ↔ a = b := by
  simp only [sameJ, Bool.and_eq_true, decide_eq_true_eq, beq_iff_eq]
  constructor
  · rintro ⟨⟨⟨⟨⟨⟨⟨⟨⟨⟨⟨h1, h2⟩, h3⟩, h4⟩, h5⟩, h6⟩, h7⟩, h8⟩, h9⟩, h10⟩, h11⟩, h12⟩
    cases a; cases b; simp_all
  · rintro rfl
    simp
theorem ne_beq {a b : Bool} : (a == b) = decide (a = b) := by cases a <;> cases b <;> rfl
set_option maxHeartbeats 4000000 in
theorem c_jobSame (a b : Jb) (t u : Rg.Tok) (hl : a.deps.length ≤ 1000000) : AOk Tryz.prog 61 [jbAV a t, jbAV b u] H (.sc (.bool (sameJ a b))) H := by
  have heq := fun K => c_equalU (H := K) a.deps b.deps t u hl
  unfold sameJ
  obtain ⟨c0, hc0⟩ : ∃ c, decide (a.id = b.id) = c := ⟨_, rfl⟩
  have hi0 : decide ((a.id : Int) = (b.id : Int)) = c0 := by rw [← hc0]; congr 1; exact propext ⟨fun h => by omega, fun h => by omega⟩
  obtain ⟨c1, hc1⟩ : ∃ c, (a.name == b.name) = c := ⟨_, rfl⟩
  obtain ⟨c2, hc2⟩ : ∃ c, (a.ex == b.ex) = c := ⟨_, rfl⟩
  obtain ⟨c3, hc3⟩ : ∃ c, decide (a.pol = b.pol) = c := ⟨_, rfl⟩
  obtain ⟨c4, hc4⟩ : ∃ c, decide (a.gr = b.gr) = c := ⟨_, rfl⟩
  obtain ⟨c5, hc5⟩ : ∃ c, decide (a.lim = b.lim) = c := ⟨_, rfl⟩
  obtain ⟨c6, hc6⟩ : ∃ c, decide (a.ret = b.ret) = c := ⟨_, rfl⟩
  obtain ⟨c7, hc7⟩ : ∃ c, decide (a.tim = b.tim) = c := ⟨_, rfl⟩
  obtain ⟨c8, hc8⟩ : ∃ c, decide (a.deps = b.deps) = c := ⟨_, rfl⟩
  obtain ⟨c9, hc9⟩ : ∃ c, (a.pau == b.pau) = c := ⟨_, rfl⟩
  obtain ⟨c10, hc10⟩ : ∃ c, decide (a.ver = b.ver) = c := ⟨_, rfl⟩
  have hi10 : decide ((a.ver : Int) = (b.ver : Int)) = c10 := by rw [← hc10]; congr 1; exact propext ⟨fun h => by omega, fun h => by omega⟩
  obtain ⟨c11, hc11⟩ : ∃ c, decide (a.seen = b.seen) = c := ⟨_, rfl⟩
  rw [hc0, hc1, hc2, hc3, hc4, hc5, hc6, hc7, hc8, hc9, hc10, hc11]
  rw [hc8] at heq
  refine ACalls.into Tryz.func61 rfl Tryz.ntmps61 Tryz.results61 (by simp) ?_
  simp -implicitDefEqProofs
  refine AAlloc.intro fun p hp => ?_
  simp -implicitDefEqProofs
  refine AAlloc.intro fun q hq => ?_
  have npq : p ≠ q := by rintro rfl; simp [Heap.set] at hq
  simp -implicitDefEqProofs [npq]
  generalize hK : Heap.set _ q _ = K
  have kp : K p = some (.cells (jbC a t) 25) := by rw [← hK]; simp [Heap.set, npq]
  have kq : K q = some (.cells (jbC b u) 25) := by rw [← hK]; simp [Heap.set]
  have kW : HWk H K := by rw [← hK]; exact (HLe.set_new (HLe.set_fresh hp) ((HLe.set_fresh hp).none hq)).wk
  clear hK
  simp -implicitDefEqProofs [kp, kq, hc0, hi0]
  cases c0 with
  | false =>
    simp -implicitDefEqProofs [kp, kq, kW]
  | true =>
    simp -implicitDefEqProofs [kp, kq, hc1]
    cases c1 with
    | false =>
      simp -implicitDefEqProofs [kp, kq, kW]
    | true =>
      simp -implicitDefEqProofs [kp, kq, hc2]
      cases c2 with
      | false =>
        simp -implicitDefEqProofs [kp, kq, kW]
      | true =>
        simp -implicitDefEqProofs [kp, kq, hc3]
        cases c3 with
        | false =>
          simp -implicitDefEqProofs [kp, kq, kW]
        | true =>
          simp -implicitDefEqProofs [kp, kq, hc4]
          cases c4 with
          | false =>
            simp -implicitDefEqProofs [kp, kq, kW]
          | true =>
            simp -implicitDefEqProofs [kp, kq, hc5]
            cases c5 with
            | false =>
              simp -implicitDefEqProofs [kp, kq, kW]
            | true =>
              simp -implicitDefEqProofs [kp, kq, hc6]
              cases c6 with
              | false =>
                simp -implicitDefEqProofs [kp, kq, kW]
              | true =>
                simp -implicitDefEqProofs [kp, kq, hc7]
                cases c7 with
                | false =>
                  simp -implicitDefEqProofs [kp, kq, kW]
                | true =>
                  simp -implicitDefEqProofs [kp, kq, hc8]
                  refine ACall.eq (heq K) ?_
                  simp -implicitDefEqProofs [kp, kq]
                  cases c8 with
                  | false =>
                    simp -implicitDefEqProofs [kp, kq, kW]
                  | true =>
                    simp -implicitDefEqProofs [kp, kq, hc9]
                    cases c9 with
                    | false =>
                      simp -implicitDefEqProofs [kp, kq, kW]
                    | true =>
                      simp -implicitDefEqProofs [kp, kq, hc10, hi10]
                      cases c10 with
                      | false =>
                        simp -implicitDefEqProofs [kp, kq, kW]
                      | true =>
                        simp -implicitDefEqProofs [kp, kq, hc11]
                        cases c11 with
                        | false =>
                          simp -implicitDefEqProofs [kp, kq, kW]
                        | true =>
                          simp -implicitDefEqProofs [kp, kq, kW]
end Go.Proofs.YtghlkjkdejebnaaGreatDoor
namespace Go.Proofs.YtghlkjkdejebnaaGreatDoor
open Rg Go
structure Cm where
  kind : Int
  cl : Nat
  sq : Nat
  id : Nat
  at_ : Int
  tk : Nat
  wk : Nat
  job : Jb
abbrev cm0 : Cm := ⟨0, 0, 0, 0, 0, 0, 0, jb0⟩
def bearsC (k : Int) : Bool := decide (k = 2) || decide (k = 3)
def mayM (c : Cm) : Int := if c.kind < 1 ∨ 10 < c.kind ∨ c.at_ < 0 ∨ 13569465600 ≤ c.at_ then 2 else if bearsC c.kind = true then mayJ c.job else 0
def headC (c : Cm) : List Nat := [c.kind.toNat, c.cl, c.sq, c.id, c.at_.toNat, c.tk, c.wk]
def putC (c : Cm) : List UInt8 := numsB (headC c) ++ if bearsC c.kind = true then putJ c.job else []
structure CmOk (c : Cm) : Prop where
  cl : c.cl < 18446744073709551616
  sq : c.sq < 18446744073709551616
  id : c.id < 18446744073709551616
  tk : c.tk < 18446744073709551616
  wk : c.wk < 18446744073709551616
  job : JbOk c.job
def sameC (a b : Cm) : Bool := decide (a.kind = b.kind) && decide (a.cl = b.cl) && decide (a.sq = b.sq) && decide (a.id = b.id) && decide (a.at_ = b.at_) && decide (a.tk = b.tk) && decide (a.wk = b.wk) && (!bearsC a.kind || sameJ a.job b.job)
def numC (b : List UInt8) (most : Nat) (s : Nat × Bool) : Nat × Nat × Bool :=
  ((takeK b s.1).1, max s.1 (takeK b s.1).2.1, s.2 || decide ((takeK b s.1).2.2 ≠ 0) || decide (most < (takeK b s.1).1))
def any64 : Nat := 18446744073709551615
structure Head where
  n1 : Nat
  n2 : Nat
  n3 : Nat
  n4 : Nat
  n5 : Nat
  n6 : Nat
  n7 : Nat
  s : Nat × Bool
def headP (f : Nat → Nat × Bool → Nat × Nat × Bool) (m1 m5 : Nat) : Head :=
  let r1 := f m1 (0, false); let r2 := f any64 r1.2; let r3 := f any64 r2.2; let r4 := f any64 r3.2; let r5 := f m5 r4.2; let r6 := f any64 r5.2; let r7 := f any64 r6.2
  ⟨r1.1, r2.1, r3.1, r4.1, r5.1, r6.1, r7.1, r7.2⟩
def parseC (b : List UInt8) : Option Cm :=
  let h := headP (numC b) 10 13569465600
  if h.s.2 = true then none
  else if bearsC (h.n1 : Int) = true then
    match parseJ b h.s.1 with
    | none => none
    | some (j, e) => let c : Cm := ⟨(h.n1 : Int), h.n2, h.n3, h.n4, (h.n5 : Int), h.n6, h.n7, j⟩; if e ≠ b.length ∨ mayM c ≠ 0 then none else some c
  else let c : Cm := ⟨(h.n1 : Int), h.n2, h.n3, h.n4, (h.n5 : Int), h.n6, h.n7, jb0⟩; if h.s.1 ≠ b.length ∨ mayM c ≠ 0 then none else some c
def parseCT (b : List UInt8) : Option Cm :=
  let h := headP (numS b) any64 any64
  if h.s.2 = true ∨ 10 < h.n1 ∨ 13569465600 < h.n5 then none
  else if bearsC (h.n1 : Int) = true then
    match parseJ b h.s.1 with
    | none => none
    | some (j, _) => let c : Cm := ⟨(h.n1 : Int), h.n2, h.n3, h.n4, (h.n5 : Int), h.n6, h.n7, j⟩; if mayM c ≠ 0 ∨ putC c ≠ b then none else some c
  else let c : Cm := ⟨(h.n1 : Int), h.n2, h.n3, h.n4, (h.n5 : Int), h.n6, h.n7, jb0⟩; if mayM c ≠ 0 ∨ putC c ≠ b then none else some c
theorem numC_step (b : List UInt8) {m : Nat} (hm : m ≤ any64) (s : Nat × Bool) : numC b m s = numS b any64 s ∧ (numS b any64 s).1 ≤ m ∨ (numC b m s).2.2 = true ∧ ((numS b any64 s).2.2 = true ∨ m < (numS b any64 s).1) := by
  have h64 := takeK_lt b s.1
  unfold any64 at hm ⊢
  by_cases h : s.2 = true ∨ (takeK b s.1).2.2 ≠ 0
  · right
    unfold numC numS
    rw [if_pos (by rcases h with h | h <;> simp [h])]
    exact ⟨by rcases h with h | h <;> simp [h], .inl rfl⟩
  · have hn : ¬ (s.2 = true ∨ (takeK b s.1).2.2 ≠ 0 ∨ 18446744073709551615 < (takeK b s.1).1) := by
      rintro (h3 | h3 | h3)
      · exact h (.inl h3)
      · exact h (.inr h3)
      · omega
    simp only [not_or, Bool.not_eq_true, Decidable.not_not] at h
    have hle := (takeK_inv h.2).2
    unfold numC numS
    rw [if_neg hn]
    by_cases h2 : m < (takeK b s.1).1
    · exact .inr ⟨by simp [h2], .inr h2⟩
    · refine .inl ⟨?_, by simp only; omega⟩
      rw [h.1, h.2, decide_eq_false h2, Nat.max_eq_right (by omega)]
      rfl
theorem numC_stay (b : List UInt8) (m : Nat) (s : Nat × Bool) (h : s.2 = true) : (numC b m s).2.2 = true := by
  unfold numC
  simp [h]
theorem numC_any (b : List UInt8) (s : Nat × Bool) : numC b any64 s = numS b any64 s ∨ (numC b any64 s).2.2 = true ∧ (numS b any64 s).2.2 = true := by
  rcases numC_step b (Nat.le_refl any64) s with ⟨h, -⟩ | ⟨h1, h2 | h2⟩
  · exact .inl h
  · exact .inr ⟨h1, h2⟩
  · exfalso
    have h64 := takeK_lt b s.1
    unfold any64 at h2
    unfold numS at h2
    split at h2
    · simp at h2
    · simp only at h2
      omega
theorem head_eq (b : List UInt8) : headP (numC b) 10 13569465600 = headP (numS b) any64 any64 ∧ (headP (numS b) any64 any64).n1 ≤ 10 ∧ (headP (numS b) any64 any64).n5 ≤ 13569465600 ∨
    (headP (numC b) 10 13569465600).s.2 = true ∧ ((headP (numS b) any64 any64).s.2 = true ∨ 10 < (headP (numS b) any64 any64).n1 ∨ 13569465600 < (headP (numS b) any64 any64).n5) := by
  have stC := numC_stay b
  have stS := numS_stay b
  unfold headP
  simp only
  have ha : (10 : Nat) ≤ any64 := by decide
  have hb : (13569465600 : Nat) ≤ any64 := by decide
  rcases numC_step b ha (0, false) with ⟨h1, g1⟩ | ⟨h1, g1⟩
  · rw [h1]
    rcases numC_any b (numS b any64 (0, false)).2 with h2 | ⟨h2, g2⟩
    · rw [h2]
      rcases numC_any b (numS b any64 (numS b any64 (0, false)).2).2 with h3 | ⟨h3, g3⟩
      · rw [h3]
        rcases numC_any b (numS b any64 (numS b any64 (numS b any64 (0, false)).2).2).2 with h4 | ⟨h4, g4⟩
        · rw [h4]
          rcases numC_step b hb (numS b any64 (numS b any64 (numS b any64 (numS b any64 (0, false)).2).2).2).2 with ⟨h5, g5⟩ | ⟨h5, g5⟩
          · rw [h5]
            rcases numC_any b (numS b any64 (numS b any64 (numS b any64 (numS b any64 (numS b any64 (0, false)).2).2).2).2).2 with h6 | ⟨h6, g6⟩
            · rw [h6]
              rcases numC_any b (numS b any64 (numS b any64 (numS b any64 (numS b any64 (numS b any64 (numS b any64 (0, false)).2).2).2).2).2).2 with h7 | ⟨h7, g7⟩
              · rw [h7]
                exact .inl ⟨rfl, g1, g5⟩
              · exact .inr ⟨h7, .inl (g7)⟩
            · exact .inr ⟨stC _ _ (h6), .inl (stS _ _ (g6))⟩
          · rcases g5 with g | g
            · exact .inr ⟨stC _ _ (stC _ _ (h5)), .inl (stS _ _ (stS _ _ (g)))⟩
            · exact .inr ⟨stC _ _ (stC _ _ (h5)), .inr (.inr g)⟩
        · exact .inr ⟨stC _ _ (stC _ _ (stC _ _ (h4))), .inl (stS _ _ (stS _ _ (stS _ _ (g4))))⟩
      · exact .inr ⟨stC _ _ (stC _ _ (stC _ _ (stC _ _ (h3)))), .inl (stS _ _ (stS _ _ (stS _ _ (stS _ _ (g3)))))⟩
    · exact .inr ⟨stC _ _ (stC _ _ (stC _ _ (stC _ _ (stC _ _ (h2))))), .inl (stS _ _ (stS _ _ (stS _ _ (stS _ _ (stS _ _ (g2))))))⟩
  · rcases g1 with g | g
    · exact .inr ⟨stC _ _ (stC _ _ (stC _ _ (stC _ _ (stC _ _ (stC _ _ (h1)))))), .inl (stS _ _ (stS _ _ (stS _ _ (stS _ _ (stS _ _ (stS _ _ (g)))))))⟩
    · exact .inr ⟨stC _ _ (stC _ _ (stC _ _ (stC _ _ (stC _ _ (stC _ _ (h1)))))), .inr (.inl g)⟩
theorem sm10 {n : Nat} : bearsC (n : Int) = true → n = 2 ∨ n = 3 := by
  unfold bearsC
  simp only [Bool.or_eq_true, decide_eq_true_eq]
  omega
theorem head_inv {b : List UInt8} (h : (headP (numS b) any64 any64).s.2 = false) : let q := headP (numS b) any64 any64
    b = numsB [q.n1, q.n2, q.n3, q.n4, q.n5, q.n6, q.n7] ++ b.drop q.s.1 ∧ (q.n2 < 18446744073709551616 ∧ q.n3 < 18446744073709551616 ∧ q.n4 < 18446744073709551616 ∧ q.n6 < 18446744073709551616 ∧ q.n7 < 18446744073709551616) := by
  obtain ⟨n1, s1, d1⟩ : ∃ n s, numS b any64 (0, false) = (n, s) := ⟨_, _, rfl⟩
  obtain ⟨n2, s2, d2⟩ : ∃ n s, numS b any64 s1 = (n, s) := ⟨_, _, rfl⟩
  obtain ⟨n3, s3, d3⟩ : ∃ n s, numS b any64 s2 = (n, s) := ⟨_, _, rfl⟩
  obtain ⟨n4, s4, d4⟩ : ∃ n s, numS b any64 s3 = (n, s) := ⟨_, _, rfl⟩
  obtain ⟨n5, s5, d5⟩ : ∃ n s, numS b any64 s4 = (n, s) := ⟨_, _, rfl⟩
  obtain ⟨n6, s6, d6⟩ : ∃ n s, numS b any64 s5 = (n, s) := ⟨_, _, rfl⟩
  obtain ⟨n7, s7, d7⟩ : ∃ n s, numS b any64 s6 = (n, s) := ⟨_, _, rfl⟩
  have e : headP (numS b) any64 any64 = ⟨n1, n2, n3, n4, n5, n6, n7, s7⟩ := by
    simp only [headP, d1, d2, d3, d4, d5, d6, d7]
  rw [e] at h ⊢
  simp only at h ⊢
  obtain ⟨h6, f7, l7, -⟩ := numS_inv' d7 h
  obtain ⟨h5, f6, l6, -⟩ := numS_inv' d6 h6
  obtain ⟨h4, f5, l5, -⟩ := numS_inv' d5 h5
  obtain ⟨h3, f4, l4, -⟩ := numS_inv' d4 h4
  obtain ⟨h2, f3, l3, -⟩ := numS_inv' d3 h3
  obtain ⟨h1, f2, l2, -⟩ := numS_inv' d2 h2
  obtain ⟨-, f1, l1, -⟩ := numS_inv' d1 h1
  refine ⟨?_, l2, l3, l4, l6, l7⟩
  simp only [numsB_cons, List.append_assoc]
  simp only [numsB, List.flatMap_nil, List.nil_append]
  rw [← f7, ← f6, ← f5, ← f4, ← f3, ← f2, ← f1]
  rfl
end Go.Proofs.YtghlkjkdejebnaaGreatDoor
namespace Go.Proofs.YtghlkjkdejebnaaGreatDoor
open Rg Go
def normC (c : Cm) : Cm := if bearsC c.kind = true then c else { c with job := jb0 }
structure MM (c : Cm) : Prop where
  kind : 1 ≤ c.kind ∧ c.kind ≤ 10
  at_ : 0 ≤ c.at_ ∧ c.at_ < 13569465600
  job : bearsC c.kind = true → mayJ c.job = 0
theorem MM.of {c : Cm} (h : mayM c = 0) : MM c := by
  unfold mayM at h
  split at h
  · cases h
  · rename_i hc
    simp only [not_or, Int.not_lt, Int.not_le] at hc
    refine ⟨⟨by omega, by omega⟩, ⟨by omega, by omega⟩, fun hb => ?_⟩
    rw [if_pos hb] at h
    exact h
theorem jb0_ok : JbOk jb0 := ⟨by decide, by decide, by simp [jb0]⟩
theorem parseJ_le {b : List UInt8} {a e : Nat} {j : Jb} (ha : a ≤ b.length) (h : parseJ b a = some (j, e)) : e = a + (putJ j).length ∧ e ≤ b.length := by
  obtain ⟨h1, h2, h3, h4⟩ := parse_inv h
  have h5 := parse_put h1 h2 h3 h4
  rw [h] at h5
  injection h5 with h5
  injection h5 with _ h5
  refine ⟨h5, ?_⟩
  have := congrArg List.length h1
  simp only [List.length_drop, List.length_append] at this
  by_cases hz : e ≤ b.length
  · exact hz
  · omega
theorem head_le (b : List UInt8) : (headP (numS b) any64 any64).s.1 ≤ b.length := by
  have st := fun m s (h : s.1 ≤ b.length) => (numS_le b m s h).1
  unfold headP
  simp only
  exact st _ _ (st _ _ (st _ _ (st _ _ (st _ _ (st _ _ (st _ _ (Nat.zero_le _)))))))
theorem parseC_eq (b : List UInt8) : parseCT b = parseC b := by
  unfold parseCT parseC
  rcases head_eq b with ⟨h, h1, h5⟩ | ⟨h1, h2⟩
  · rw [h]
    have hle := head_le b
    obtain ⟨q, hq⟩ : ∃ q, headP (numS b) any64 any64 = q := ⟨_, rfl⟩
    have hinv : q.s.2 = false → _ := fun hh => head_inv (b := b) (by rw [hq]; exact hh)
    rw [hq] at h1 h5 hle hinv ⊢
    simp only at hinv ⊢
    by_cases hb : q.s.2 = true
    · rw [if_pos (.inl hb), if_pos hb]
    · rw [if_neg (by rintro (h3 | h3 | h3); exact hb h3; omega; omega), if_neg hb]
      obtain ⟨g1, -⟩ := hinv (by simpa using hb)
      by_cases hk : bearsC (q.n1 : Int) = true
      · rw [if_pos hk, if_pos hk]
        rcases hj : parseJ b q.s.1 with _ | ⟨j, e⟩
        · rfl
        · simp only
          have hi := (parse_inv hj).1
          have he := (parseJ_le hle hj).2
          have hp : (putC ⟨(q.n1 : Int), q.n2, q.n3, q.n4, (q.n5 : Int), q.n6, q.n7, j⟩ = b) ↔ (e = b.length) := by
            simp only [putC, headC, if_pos hk, Int.toNat_natCast]
            constructor
            · intro h3
              rw [hi, ← List.append_assoc, h3] at g1
              have := congrArg List.length g1
              simp only [List.length_append, List.length_drop] at this
              omega
            · intro h3
              subst h3
              rw [List.drop_length, List.append_nil] at hi
              rw [← hi, ← g1]
          exact ite_congr (propext (or_comm.trans (or_congr (not_congr hp) Iff.rfl))) (fun _ => rfl) (fun _ => rfl)
      · rw [if_neg hk, if_neg hk]
        have hp : (putC ⟨(q.n1 : Int), q.n2, q.n3, q.n4, (q.n5 : Int), q.n6, q.n7, jb0⟩ = b) ↔ (q.s.1 = b.length) := by
          simp only [putC, headC, if_neg hk, Int.toNat_natCast, List.append_nil]
          constructor
          · intro h3
            rw [h3] at g1
            have := congrArg List.length g1
            simp only [List.length_append, List.length_drop] at this
            omega
          · intro h3
            rw [h3, List.drop_length, List.append_nil] at g1
            exact g1.symm
        exact ite_congr (propext (or_comm.trans (or_congr (not_congr hp) Iff.rfl))) (fun _ => rfl) (fun _ => rfl)
  · rw [if_pos (by rcases h2 with h2 | h2 | h2 <;> simp [h2]), if_pos h1]
theorem parseC_inv {b : List UInt8} {c : Cm} (h : parseC b = some c) : putC c = b ∧ mayM c = 0 ∧ CmOk c ∧ normC c = c ∧ c.job.ex.length ≤ 4096 := by
  rw [← parseC_eq] at h
  unfold parseCT at h
  obtain ⟨q, hq⟩ : ∃ q, headP (numS b) any64 any64 = q := ⟨_, rfl⟩
  have hinv : q.s.2 = false → _ := fun hh => head_inv (b := b) (by rw [hq]; exact hh)
  rw [hq] at hinv h
  simp only at hinv h
  split at h
  · cases h
  · rename_i hc
    simp only [not_or, Bool.not_eq_true] at hc
    obtain ⟨-, l2, l3, l4, l6, l7⟩ := hinv hc.1
    split at h
    · rename_i hk
      rcases hj : parseJ b q.s.1 with _ | ⟨j, e⟩ <;> rw [hj] at h
      · cases h
      · simp only at h
        split at h
        · cases h
        · rename_i hd
          simp only [not_or, Decidable.not_not] at hd
          cases h
          obtain ⟨-, j2, -, j4⟩ := parse_inv hj
          exact ⟨hd.2, hd.1, ⟨l2, l3, l4, l6, l7, j2⟩, if_pos hk, j4⟩
    · rename_i hk
      split at h
      · cases h
      · rename_i hd
        simp only [not_or, Decidable.not_not] at hd
        cases h
        exact ⟨hd.2, hd.1, ⟨l2, l3, l4, l6, l7, jb0_ok⟩, if_neg hk, by simp [jb0]⟩
theorem sameC_iff {c d : Cm} : sameC c d = true ↔ normC c = normC d := by
  simp only [sameC, Bool.and_eq_true, decide_eq_true_eq, Bool.or_eq_true, Bool.not_eq_true', sameJ_iff]
  constructor
  · rintro ⟨⟨⟨⟨⟨⟨⟨h1, h2⟩, h3⟩, h4⟩, h5⟩, h6⟩, h7⟩, h8⟩
    unfold normC
    rw [← h1]
    cases c; cases d
    simp only at *
    subst h1 h2 h3 h4 h5 h6 h7
    split
    · rename_i hk
      rw [hk] at h8
      simp only [reduceCtorEq, false_or] at h8
      rw [h8]
    · rfl
  · intro h
    have hk : c.kind = d.kind := by
      have := congrArg Cm.kind h
      unfold normC at this
      split at this <;> split at this <;> exact this
    unfold normC at h
    rw [hk] at h ⊢
    split at h
    · subst h; simp
    · rename_i hb
      injection h with _ h2 h3 h4 h5 h6 h7
      simp only [Bool.not_eq_true] at hb
      simp [h2, h3, h4, h5, h6, h7, hb]
end Go.Proofs.YtghlkjkdejebnaaGreatDoor
namespace Go.Proofs.YtghlkjkdejebnaaGreatDoor
open Rg Go
end Go.Proofs.YtghlkjkdejebnaaGreatDoor
namespace Go.Proofs.YtghlkjkdejebnaaGreatDoor
open Rg Go
theorem numS_lt (b : List UInt8) (m : Nat) (s : Nat × Bool) : (numS b m s).1 < 18446744073709551616 := by
  have := takeK_lt b s.1
  unfold numS
  split
  · simp
  · exact this
theorem depsT_lt (b : List UInt8) : ∀ (k : Nat) (s : Nat × Bool), ∀ n ∈ (depsT b k s).1, n < 18446744073709551616
  | 0, s, n, h => by simp [depsT] at h
  | k + 1, s, n, h => by
    unfold depsT at h
    split at h
    · simp at h
    · rcases List.mem_cons.1 h with rfl | h
      · exact numS_lt b _ s
      · exact depsT_lt b k _ n h
theorem txtS_le4096 (b : List UInt8) (s : Nat × Bool) : (txtS b s).1.length ≤ 4096 := by
  by_cases h : (txtS b s).2.2 = false
  · exact (txtS_inv h).2.2
  · unfold txtS at h ⊢
    split at h
    · rename_i hc
      rw [if_pos hc]
      simp
    · simp at h
theorem takeJ_ok (b : List UInt8) (s : Nat × Bool) : JbOk (takeJ b s).j ∧ (takeJ b s).j.ex.length ≤ 4096 :=
  ⟨⟨numS_lt b _ s, numS_lt b _ _, depsT_lt b _ _⟩, txtS_le4096 b _⟩
end Go.Proofs.YtghlkjkdejebnaaGreatDoor
namespace Go.Proofs.YtghlkjkdejebnaaGreatDoor
open Rg Go
variable {H : Heap}
def Gr (e : TypeId) (sz : Nat) (H0 : Heap) (xs : List AV) (t : Rg.Tok) (K : Heap) : Prop :=
  (((t = .nil ∧ xs = []) ∨ t = .full) ∧ K = H0) ∨ ∃ g cap, H0 g = none ∧ t = .own g cap sz e ∧ K = H0.set g (.open xs.length cap sz e)
theorem Gr.nil {e : TypeId} {sz : Nat} {H0 : Heap} : Gr e sz H0 [] .nil H0 := .inl ⟨.inl ⟨rfl, rfl⟩, rfl⟩
theorem Gr.full {e : TypeId} {sz : Nat} {H0 : Heap} {xs : List AV} : Gr e sz H0 xs .full H0 := .inl ⟨.inr rfl, rfl⟩
theorem Gr.le {e : TypeId} {sz : Nat} {H0 K : Heap} {xs : List AV} {t : Rg.Tok} (h : Gr e sz H0 xs t K) : HLe H0 K := by
  rcases h with ⟨_, rfl⟩ | ⟨g, cap, h1, _, rfl⟩
  · exact HLe.refl _
  · exact (HLe.refl _).set_new h1
theorem Grows.gr {e : TypeId} {sz : Nat} {H0 K : Heap} {xs : List AV} {t : Rg.Tok} (h : Grows H0 xs sz e t K) : Gr e sz H0 xs t K := by
  rcases h with ⟨rfl, rfl, rfl⟩ | h
  · exact .nil
  · exact .inr h
theorem Gr.base {e : TypeId} {sz : Nat} {H0 H1 K : Heap} {xs : List AV} {t : Rg.Tok} (h : Gr e sz H1 xs t K) (hl : HLe H0 H1) : ∃ K', Gr e sz H0 xs t K' ∧ HLe K' K := by
  rcases h with ⟨h1, rfl⟩ | ⟨g, cap, h1, h2, rfl⟩
  · exact ⟨H0, .inl ⟨h1, rfl⟩, hl⟩
  · exact ⟨H0.set g (.open xs.length cap sz e), .inr ⟨g, cap, hl.none h1, h2, rfl⟩, hl.set_mono⟩
theorem AApp.gr {P : Program} {n : Nat} {Q : Post} {ρ : Nat → AV} {k : List AItem} {full : Array Oper} {dst : Option Tmp} {r : List Oper} {T e : TypeId} {xs ys : List AV} {t : Rg.Tok} {sz by_ : Nat} {H0 K : Heap} (he : ElemOk P T e sz by_) (hg : Gr e sz H0 xs t K) (hl : HLe K H)
    (hx : szs sz xs = true) (hy : szs sz ys = true) (hb : (xs.length + ys.length) * by_ ≤ 140737488355328) (hm : xs.length + ys.length ≤ maxLen)
    (h : ∀ t' K' Hn, Gr e sz H0 (xs ++ ys) t' K' → HLe K' Hn → AGo P n Q (.ops full r :: k) (aput n dst (.sl (xs ++ ys) t') ρ) Hn) : AApp P n Q full dst r k ρ H T e xs t ys := by
  rcases hg with ⟨ht, rfl⟩ | hg
  · by_cases h0 : ys = []
    · subst h0
      rw [List.length_nil, Nat.add_zero] at hb hm
      refine AApp.same he hx hb hm ?_
      have := h t K H (.inl ⟨by rwa [List.append_nil], rfl⟩) hl
      rwa [List.append_nil] at this
    · refine AApp.new he (ht.imp And.left id) h0 hx hy hb hm fun g cap hgn => h _ (K.set g (.open (xs ++ ys).length cap sz e)) _ (.inr ⟨g, cap, hl.none hgn, rfl, rfl⟩) ?_
      rw [List.length_append]
      exact hl.set_mono
  · refine AApp.grows0 he (.inr hg) hl hx hy hb hm fun t' K' Hn hg' hl' => h t' K' Hn ?_ hl'
    rcases hg' with ⟨h1, h2, h3⟩ | h1
    · exact .inl ⟨.inl ⟨h2, h1⟩, h3⟩
    · exact .inr h1
theorem set_del_same {H0 : Heap} {g : Nat} {o : AObj} (h : H0 g = none) : (H0.set g o).del g = H0 := by
  funext b
  by_cases hb : b = g
  · subst hb; simp [Heap.del, h]
  · simp [Heap.del, Heap.set, hb]
theorem AApp.grE {P : Program} {n : Nat} {Q : Post} {ρ : Nat → AV} {k : List AItem} {full : Array Oper} {dst : Option Tmp} {r : List Oper} {T e : TypeId} {xs ys : List AV} {t : Rg.Tok} {sz by_ : Nat} {H0 : Heap} (he : ElemOk P T e sz by_) (hg : Gr e sz H0 xs t H)
    (hx : szs sz xs = true) (hy : szs sz ys = true) (hb : (xs.length + ys.length) * by_ ≤ 140737488355328) (hm : xs.length + ys.length ≤ maxLen)
    (h : ∀ t' Hn, Gr e sz H0 (xs ++ ys) t' Hn → AGo P n Q (.ops full r :: k) (aput n dst (.sl (xs ++ ys) t') ρ) Hn) : AApp P n Q full dst r k ρ H T e xs t ys := by
  rcases hg with ⟨ht, rfl⟩ | ⟨g, cap, h1, rfl, rfl⟩
  · by_cases h0 : ys = []
    · subst h0
      rw [List.length_nil, Nat.add_zero] at hb hm
      refine AApp.same he hx hb hm ?_
      have := h t H (.inl ⟨by rwa [List.append_nil], rfl⟩)
      rwa [List.append_nil] at this
    · refine AApp.new he (ht.imp And.left id) h0 hx hy hb hm fun g cap hgn => ?_
      rw [← List.length_append]
      exact h _ _ (.inr ⟨g, cap, hgn, rfl, rfl⟩)
  · refine AApp.own he (by simp [Heap.set]) hx hy hb hm fun g' cap' hgn => ?_
    rw [set_del_same h1] at hgn ⊢
    rw [← List.length_append]
    exact h _ _ (.inr ⟨g', cap', hgn, rfl, rfl⟩)
theorem AWS.gr {P : Program} {n : Nat} {ρ : Nat → AV} {H0 G0 G : Heap} {K : (Nat → AV) → Heap → Prop} {dst : Option Tmp} {T e : TypeId} {xs ys : List AV} {t : Rg.Tok} {sz by_ : Nat} (he : ElemOk P T e sz by_) (hg : Gr e sz G0 xs t G) (hl : HLe G H)
    (hx : szs sz xs = true) (hy : szs sz ys = true) (hb : (xs.length + ys.length) * by_ ≤ 140737488355328) (hm : xs.length + ys.length ≤ maxLen)
    (h : ∀ t' K' Hn, Gr e sz G0 (xs ++ ys) t' K' → HLe K' Hn → K (aput n dst (.sl (xs ++ ys) t') ρ) Hn) : AWS P n H0 K dst ρ H (.app T e xs t ys) := by
  rcases hg with ⟨ht, rfl⟩ | hg
  · refine ⟨sz, by_, he, hx, hy, hb, hm, ?_⟩
    by_cases h0 : ys = []
    · subst h0
      have := h t G H (.inl ⟨by rwa [List.append_nil], rfl⟩) hl
      rw [List.append_nil] at this
      exact .inl ⟨ht.imp And.left id, rfl, this⟩
    · refine .inr (.inl ⟨ht.imp And.left id, h0, fun g cap hgn => h _ (G.set g (.open (xs ++ ys).length cap sz e)) _ (.inr ⟨g, cap, hl.none hgn, rfl, rfl⟩) ?_⟩)
      rw [List.length_append]
      exact hl.set_mono
  · refine AWS.grows0 he (.inr hg) hl hx hy hb hm fun t' K' Hn hg' hl' _ => h t' K' Hn ?_ hl'
    rcases hg' with ⟨h1, h2, h3⟩ | h1
    · exact .inl ⟨.inl ⟨h2, h1⟩, h3⟩
    · exact .inr h1
set_option maxHeartbeats 1000000 in
theorem c_ref1PutK : ∀ (f n : Nat), n < 2 * 128 ^ f → f ≤ 9 → ∀ H : Heap, ACalls Tryz.prog 110 [.sc (.int .u64 (n : Int))] H (fun v K => ∃ t, v = .sl (u8s (putK f n)) t ∧ Gr 5 1 H (u8s (putK f n)) t K) := by
  have low : ∀ n : Nat, n < 128 → ∀ H : Heap, ACalls Tryz.prog 110 [.sc (.int .u64 (n : Int))] H (fun v K => ∃ t, v = .sl (u8s [UInt8.ofNat n]) t ∧ Gr 5 1 H (u8s [UInt8.ofNat n]) t K) := by
    intro n h H
    generalize hR : (fun (v : AV) (K : Heap) => ∃ t, v = .sl (u8s [UInt8.ofNat n]) t ∧ Gr 5 1 H (u8s [UInt8.ofNat n]) t K) = R
    have h' : (n : Int) < 128 := by omega
    have hw : IntKind.u8.wrap (n : Int) = (n : Int) := by rw [IntKind.wrap_u8' (n : Int)]; omega
    have e2 : (UInt8.ofNat n).toNat = n := by simp; omega
    refine ACalls.into Tryz.func110 rfl Tryz.ntmps110 Tryz.results110 (by simp) ?_
    simp -implicitDefEqProofs [h, h', hw]
    subst hR
    refine AFin.intro _ _ (wk_refl _) (HWk.refl _) ⟨.full, ?_, .full⟩
    simp [e2]
  intro f
  induction f with
  | zero => exact fun n hn _ H => low n (by omega) H
  | succ f ih =>
    intro n hn hf H
    by_cases h : n < 128
    · have e : putK (f + 1) n = [UInt8.ofNat n] := by unfold putK; rw [if_pos h]
      rw [e]
      exact low n h H
    · have e : putK (f + 1) n = UInt8.ofNat (n % 128 + 128) :: putK f (n / 128) := by conv => lhs; unfold putK; rw [if_neg h]
      have h' : ¬ (n : Int) < 128 := by omega
      have e2 : (UInt8.ofNat (n % 128 + 128)).toNat = n % 128 + 128 := by simp; omega
      have hw : IntKind.u8.wrap (IntKind.u8.wrap ((n : Int).tmod 128) + 128) = ((UInt8.ofNat (n % 128 + 128)).toNat : Int) := by
        rw [show (n : Int).tmod 128 = ((n % 128 : Nat) : Int) from rfl, e2, IntKind.wrap_u8', IntKind.wrap_u8']
        omega
      generalize hR : (fun (v : AV) (K : Heap) => ∃ t, v = .sl (u8s (putK (f + 1) n)) t ∧ Gr 5 1 H (u8s (putK (f + 1) n)) t K) = R
      have hn64 : n < 18446744073709551616 := by
        have : 128 ^ (f + 1) ≤ 128 ^ 9 := Nat.pow_le_pow_right (by omega) hf
        omega
      have hq : IntKind.u64.wrap ((n : Int) / 128) = ((n / 128 : Nat) : Int) := by rw [wrap_u64 (by omega) (by omega)]; omega
      have hpl := putK_len f (n / 128)
      refine ACalls.into Tryz.func110 rfl Tryz.ntmps110 Tryz.results110 (by simp) ?_
      simp -implicitDefEqProofs [h, h', hw, hq]
      refine ACall.intro (ih (n / 128) (by rw [Nat.pow_succ] at hn; omega) (by omega) H) ?_
      rintro v K ⟨t, rfl, hg⟩
      simp -implicitDefEqProofs
      refine AApp.gr el_28 (xs := u8s [UInt8.ofNat (n % 128 + 128)]) (H0 := K) .full (HLe.refl _) (szs_u8s _) (szs_u8s _) ?_ ?_ fun t' K' Hn hg' hl' => ?_
      · simp only [List.length_map, List.length_cons, List.length_nil]; omega
      · simp only [List.length_map, List.length_cons, List.length_nil, maxLen]; omega
      · simp -implicitDefEqProofs
        obtain ⟨K2, hk2, hl2⟩ := hg'.base hg.le
        subst hR
        refine AFin.intro _ _ (wk_refl _) (hl2.trans hl').wk ⟨t', ?_, ?_⟩
        · rw [e]; rfl
        · rw [e]; exact hk2
theorem c_ref1PutG (n : Nat) (hn : n < 18446744073709551616) : ACalls Tryz.prog 110 [.sc (.int .u64 (n : Int))] H (fun v K => ∃ t, v = .sl (u8s (putB n)) t ∧ Gr 5 1 H (u8s (putB n)) t K) := c_ref1PutK 9 n (by omega) (by omega) H
theorem Gr.told {P : Program} {f : FuncId} {args xs : List AV} {e : TypeId} {sz : Nat} (h : ACalls P f args H (fun v K => ∃ t, v = .sl xs t ∧ Gr e sz H xs t K)) : AOk P f args H (.sl xs .no) H :=
  ACalls.weaken (h.mono fun v K ⟨t, hv, hg⟩ => ⟨_, _, by rw [hv, wk_no]; exact wkL_refl _, hg.le.wk, rfl, rfl⟩)
theorem c_ref1Put (n : Nat) (hn : n < 18446744073709551616) : AOk Tryz.prog 110 [.sc (.int .u64 (n : Int))] H (.sl (u8s (putB n)) .no) H := Gr.told (c_ref1PutG n hn)
theorem c_ref1TakeNeg (b : List UInt8) (t : Rg.Tok) : AOk Tryz.prog 106 [.sl (u8s b) t, .sc (.int .i64 (-1))] H (.tup [.sc (.int .u64 0), .sc (.int .i64 0), .sc (.int .i64 2)]) H := by
  refine ACalls.into Tryz.func106 rfl Tryz.ntmps106 Tryz.results106 (by simp) ?_
  simp -implicitDefEqProofs
set_option maxHeartbeats 2000000 in
theorem c_ref1Take (b : List UInt8) (t : Rg.Tok) (a : Nat) (ha : a ≤ b.length) (hb : b.length ≤ 1000000) : AOk Tryz.prog 106 [.sl (u8s b) t, .sc (.int .i64 (a : Int))] H (tkAV (takeK b a)) H := by
  have ha1 : ¬ (a : Int) < 0 := by omega
  have ha2 : ¬ (b.length : Int) < (a : Int) := by omega
  have ha3 : ¬ b.length < a := by omega
  obtain ⟨L, hL⟩ : ∃ L, b.drop a = L := ⟨_, rfl⟩
  have hLl : L.length = b.length - a := by rw [← hL]; simp
  obtain ⟨res, hres⟩ : ∃ res, takeK b a = res := ⟨_, rfl⟩
  rw [hres]
  refine ACalls.into Tryz.func106 rfl Tryz.ntmps106 Tryz.results106 (by simp) ?_
  simp -implicitDefEqProofs [ha1, ha2, ha3]
  refine AGo.rounds (fun m ρ K => ∃ k, m = L.length - k ∧ k ≤ L.length ∧ k ≤ 10 ∧ (∀ j, j < k → ∀ y, L[j]? = some y → 128 ≤ y.toNat) ∧
    ρ 7 = .sc (.int .u64 ((valK (L.take k) % 18446744073709551616 : Nat) : Int)) ∧ ρ 8 = .sc (.int .u64 ((128 ^ k % 18446744073709551616 : Nat) : Int)) ∧ ρ 9 = .sc (.int .i64 ((a + k : Nat) : Int)) ∧ ρ 0 = .sl (u8s b) t ∧ ρ 1 = .sc (.int .i64 (a : Int)) ∧ K = H) ?_ (m := L.length) (HLe.refl _)
    ⟨0, rfl, by omega, by omega, by simp, by simp [valK], by simp, by simp, by simp, by simp, rfl⟩
  rintro m ρ K ih ⟨k, rfl, hk, hk10, hall, r7, r8, r9, r0, r1, rfl⟩
  have none_ : (L.length ≤ k ∨ k = 10) → res = (0, 0, 4) := fun h => by
    rw [← hres]
    refine takeK_none fun j hj y hy => ?_
    rw [hL] at hy
    have := (List.getElem?_eq_some_iff.1 hy).1
    exact hall j (by omega) y hy
  obtain ⟨q, hq⟩ : ∃ q, a + k = q := ⟨_, rfl⟩
  obtain ⟨vn, hvn⟩ : ∃ v, valK (L.take k) % 18446744073709551616 = v := ⟨_, rfl⟩
  obtain ⟨wn, hwn⟩ : ∃ v, 128 ^ k % 18446744073709551616 = v := ⟨_, rfl⟩
  rw [hq] at r9
  rw [hvn] at r7
  rw [hwn] at r8
  by_cases hlt : k < L.length
  · have hqb : q < b.length := by omega
    have hqb' : (q : Int) < (b.length : Int) := by omega
    have hwa : IntKind.i64.wrap ((a : Int) + 10) = (a : Int) + 10 := wrap_i64 (by omega) (by omega)
    by_cases h10 : k < 10
    · have h10' : (q : Int) < (a : Int) + 10 := by omega
      obtain ⟨x, hej, hx⟩ := getAt hqb
      have hxL : L[k]? = some x := by rw [← hL, List.getElem?_drop, hq, hx]
      have hxn := x.toNat_lt
      have u64w : ∀ m : Nat, IntKind.u64.wrap (m : Int) = ((m % 18446744073709551616 : Nat) : Int) := fun m => by
        have : IntKind.u64.wrap (m : Int) = (m : Int) % 18446744073709551616 := by simp [IntKind.wrap, IntKind.bits, IntKind.signed]
        rw [this]; omega
      have htk : L.take (k + 1) = L.take k ++ [x] := by rw [List.take_add_one, hxL]; rfl
      obtain ⟨vn', hvn'⟩ : ∃ v, valK (L.take (k + 1)) % 18446744073709551616 = v := ⟨_, rfl⟩
      have hs : IntKind.u64.wrap ((vn : Int) + IntKind.u64.wrap (IntKind.u64.wrap ((x.toNat : Int).tmod 128) * (wn : Int))) = (vn' : Int) := by
        rw [show (x.toNat : Int).tmod 128 = ((x.toNat % 128 : Nat) : Int) from rfl, u64w, Nat.mod_eq_of_lt (by omega : x.toNat % 128 < 18446744073709551616), ← Int.natCast_mul, u64w, ← Int.natCast_add, u64w, ← hvn', htk, valK_app, List.length_take, Nat.min_eq_left hk, ← hvn, ← hwn]
        congr 1
        rw [Nat.add_mod, Nat.mod_mod, Nat.mod_mod, Nat.mul_mod_mod, ← Nat.add_mod]
      obtain ⟨wn', hwn'⟩ : ∃ v, 128 ^ (k + 1) % 18446744073709551616 = v := ⟨_, rfl⟩
      have hs2 : IntKind.u64.wrap ((wn : Int) * 128) = (wn' : Int) := by
        rw [← hwn', show (wn : Int) * 128 = ((wn * 128 : Nat) : Int) by omega, u64w, ← hwn, Nat.mod_mul_mod, Nat.pow_succ]
      have hwq : IntKind.i64.wrap ((q : Int) + 1) = (q : Int) + 1 := wrap_i64 (by omega) (by omega)
      by_cases h128 : x.toNat < 128
      · have h128' : (x.toNat : Int) < 128 := by omega
        have hdoc := takeK_doc (b := b) (a := a) (i := k) (x := x) (by rw [hL, hxL]) h128 h10 (by rw [hL]; exact hall)
        rw [hL, hvn', hres] at hdoc
        have hput : AOk Tryz.prog 110 [.sc (.int .u64 (vn' : Int))] K (.sl (u8s (putB vn')) .no) K := c_ref1Put vn' (by rw [← hvn']; exact Nat.mod_lt _ (by omega))
        simp -implicitDefEqProofs [r7, r8, r9, r0, r1, hqb, hqb', hwa, h10', hej, hs, hs2, h128, h128']
        have hae : a + k + 1 = q + 1 := by omega
        rw [hae] at hdoc
        have hcast : ((q + 1 : Nat) : Int) = (q : Int) + 1 := by omega
        refine go_draw 10 f_mixed (by decide +kernel) ?_
        simp -implicitDefEqProofs [r7, r8, r9, r0, r1]
        refine AQS.eq hput ?_
        have hsl : ((L.take (k + 1)).length) = k + 1 := by rw [List.length_take]; omega
        have hpl := putB_len vn'
        have m1 : (putB vn').length ≤ maxLen := by simp only [maxLen]; omega
        have m2 : (L.take (k + 1)).length ≤ maxLen := by simp only [maxLen]; omega
        have q1 : (a : Int) ≤ (q : Int) + 1 := by omega
        have q2 : (q : Int) + 1 ≤ (b.length : Int) := by omega
        have q3 : ((q : Int) + 1).toNat = q + 1 := by omega
        have h6 := szs_drop (szs_u8s b) a
        have h7 : abytes (List.drop a (List.take (q + 1) (u8s b))) = some (L.take (k + 1)) := by
          rw [← List.map_take, ← List.map_drop, List.drop_take, hL, show q + 1 - a = k + 1 by omega]
          exact abytes_u8s _
        simp -implicitDefEqProofs [r7, r8, r9, r0, r1, hwq, aconv, m1, m2, q1, q2, q3, szs_u8s b, h6, h7, abytes_u8s (putB vn')]
        by_cases he : putB vn' = L.take (k + 1)
        · rw [if_pos he] at hdoc
          have hbe : (putB vn' == L.take (k + 1)) = true := by simpa using he
          subst hdoc
          simp -implicitDefEqProofs [hbe, hwq, r9]
        · rw [if_neg he] at hdoc
          have hbe : (putB vn' == L.take (k + 1)) = false := by simpa using he
          subst hdoc
          simp -implicitDefEqProofs [hbe]
      · have h128' : ¬ (x.toNat : Int) < 128 := by omega
        simp -implicitDefEqProofs [r7, r8, r9, r0, r1, hqb, hqb', hwa, h10', hej, hs, hs2, h128, h128', hwq]
        refine AGo.again ih (m' := L.length - (k + 1)) (by omega) (HLe.refl _) ⟨k + 1, rfl, by omega, by omega, fun j hj y hy => ?_, by simp [hvn'], by simp [hwn'], by simp; omega, by simp [r0], by simp [r1], rfl⟩
        rcases Nat.lt_or_ge j k with h | h
        · exact hall j h y hy
        · obtain rfl : j = k := by omega
          rw [hxL] at hy
          cases hy
          omega
    · have h10' : ¬ (q : Int) < (a : Int) + 10 := by omega
      have := none_ (.inr (by omega))
      subst this
      simp -implicitDefEqProofs [r7, r8, r9, r0, r1, hqb, hqb', hwa, h10']
  · have hqb : ¬ q < b.length := by omega
    have hqb' : ¬ (q : Int) < (b.length : Int) := by omega
    have := none_ (.inl (by omega))
    subst this
    simp -implicitDefEqProofs [r7, r8, r9, r0, r1, hqb, hqb']
theorem c_ref1PutInt (n : Int) (h1 : -9223372036854775808 ≤ n) (h2 : n ≤ 9223372036854775807) : ACalls Tryz.prog 102 [.sc (.int .i64 n)] H (fun v K => ∃ t, v = .sl (u8s (putB (zig n))) t ∧ Gr 5 1 H (u8s (putB (zig n))) t K) := by
  have hz := zig_lt h1 h2
  generalize hR : (fun (v : AV) (K : Heap) => ∃ t, v = .sl (u8s (putB (zig n))) t ∧ Gr 5 1 H (u8s (putB (zig n))) t K) = R
  by_cases h : 0 ≤ n
  · have e1 : IntKind.u64.wrap (2 * IntKind.u64.wrap n) = ((zig n : Nat) : Int) := by
      unfold zig
      have a1 : IntKind.u64.wrap n = n := wrap_u64 (by omega) (by omega)
      rw [if_pos h, a1, wrap_u64 (by omega) (by omega)]
      omega
    refine ACalls.into Tryz.func102 rfl Tryz.ntmps102 Tryz.results102 (by simp) ?_
    simp -implicitDefEqProofs [h, e1]
    refine ACall.intro (c_ref1PutG (zig n) hz) ?_
    rintro v K ⟨t, rfl, hg⟩
    simp -implicitDefEqProofs
    subst hR
    exact AFin.intro _ _ (wk_refl _) (HWk.refl _) ⟨t, rfl, hg⟩
  · have e0 : IntKind.i64.wrap (n + 1) = n + 1 := wrap_i64 (by omega) (by omega)
    have e0' : IntKind.i64.wrap (-(n + 1)) = -(n + 1) := wrap_i64 (by omega) (by omega)
    have e1 : IntKind.u64.wrap (IntKind.u64.wrap (2 * IntKind.u64.wrap (-(n + 1))) + 1) = ((zig n : Nat) : Int) := by
      unfold zig
      have a1 : IntKind.u64.wrap (-(n + 1)) = -(n + 1) := wrap_u64 (by omega) (by omega)
      have a2 : IntKind.u64.wrap (2 * -(n + 1)) = 2 * -(n + 1) := wrap_u64 (by omega) (by omega)
      rw [if_neg h, a1, a2, wrap_u64 (by omega) (by omega)]
      omega
    refine ACalls.into Tryz.func102 rfl Tryz.ntmps102 Tryz.results102 (by simp) ?_
    simp -implicitDefEqProofs [h, e0, e0', e1]
    refine ACall.intro (c_ref1PutG (zig n) hz) ?_
    rintro v K ⟨t, rfl, hg⟩
    simp -implicitDefEqProofs
    subst hR
    exact AFin.intro _ _ (wk_refl _) (HWk.refl _) ⟨t, rfl, hg⟩
theorem c_ref1TakeIntNeg (b : List UInt8) (t : Rg.Tok) : AOk Tryz.prog 111 [.sl (u8s b) t, .sc (.int .i64 (-1))] H (.tup [.sc (.int .i64 0), .sc (.int .i64 0), .sc (.int .i64 2)]) H := by
  refine ACalls.into Tryz.func111 rfl Tryz.ntmps111 Tryz.results111 (by simp) ?_
  simp -implicitDefEqProofs
  refine ACall.eq (c_ref1TakeNeg b t) ?_
  have hw : IntKind.i64.wrap (IntKind.u64.wrap 0) = 0 := by decide
  simp -implicitDefEqProofs [hw]
theorem c_ref1TakeInt (b : List UInt8) (t : Rg.Tok) (a : Nat) (ha : a ≤ b.length) (hb : b.length ≤ 1000000) : AOk Tryz.prog 111 [.sl (u8s b) t, .sc (.int .i64 (a : Int))] H (tiAV (takeK b a)) H := by
  have hlt := takeK_lt b a
  refine ACalls.into Tryz.func111 rfl Tryz.ntmps111 Tryz.results111 (by simp) ?_
  simp -implicitDefEqProofs
  refine ACall.eq (c_ref1Take b t a ha hb) ?_
  obtain ⟨n, nx, e, hp⟩ : ∃ n nx e, takeK b a = (n, nx, e) := ⟨_, _, _, rfl⟩
  rw [hp] at hlt ⊢
  simp only at hlt ⊢
  have w0 : (n : Int).tmod 2 = ((n % 2 : Nat) : Int) := rfl
  have w1 : IntKind.i64.wrap (IntKind.u64.wrap ((n : Int) / 2)) = ((n / 2 : Nat) : Int) := by rw [wrap_u64 (by omega) (by omega), wrap_i64 (by omega) (by omega)]; omega
  have w2 : IntKind.i64.wrap (-((n / 2 : Nat) : Int)) = -((n / 2 : Nat) : Int) := wrap_i64 (by omega) (by omega)
  have w3 : IntKind.i64.wrap (-((n / 2 : Nat) : Int) - 1) = -((n / 2 : Nat) : Int) - 1 := wrap_i64 (by omega) (by omega)
  by_cases h : n % 2 = 0
  · have h' : ((n % 2 : Nat) : Int) = 0 := by omega
    have e : unzig n = ((n / 2 : Nat) : Int) := if_pos h
    rw [tiAV, e]
    simp -implicitDefEqProofs [w0, h', w1, h]
  · have h' : ¬ ((n % 2 : Nat) : Int) = 0 := by omega
    have h1 : n % 2 = 1 := by omega
    have e : unzig n = -((n / 2 : Nat) : Int) - 1 := by unfold unzig; rw [if_neg h]; omega
    rw [tiAV, e]
    simp -implicitDefEqProofs [w0, h', w1, w2, w3, h, h1]
    rw [show (n : Int) / 2 = ((n / 2 : Nat) : Int) by omega, w2, w3]
theorem c_ref1PutText (s : List UInt8) (hs : s.length ≤ 4096) : ACalls Tryz.prog 131 [str s] H (fun v K => ∃ t, v = .tup [.sl (u8s (putTextB s)) t, .sc (.int .i64 0)] ∧ Gr 5 1 H (u8s (putTextB s)) t K) := by
  generalize hR : (fun (v : AV) (K : Heap) => ∃ t, v = .tup [.sl (u8s (putTextB s)) t, .sc (.int .i64 0)] ∧ Gr 5 1 H (u8s (putTextB s)) t K) = R
  have h1 : ¬ (4096 : Int) < (s.length : Int) := by omega
  have h2 : ¬ 4096 < s.length := by omega
  have hw : IntKind.u64.wrap (s.length : Int) = (s.length : Int) := wrap_u64 (by omega) (by omega)
  refine ACalls.into Tryz.func131 rfl Tryz.ntmps131 Tryz.results131 (by simp) ?_
  simp -implicitDefEqProofs [h1, h2, hw]
  refine ACall.intro (c_ref1PutG s.length (by omega)) ?_
  rintro v K ⟨t, rfl, hg⟩
  have hml : s.length ≤ maxLen := by simp only [maxLen]; omega
  have hpl := putB_len s.length
  simp -implicitDefEqProofs [aconv, hml]
  refine AApp.gr el_28 hg (HLe.refl _) (szs_u8s _) (szs_u8s _) (by simp only [List.length_map]; omega) (by simp only [List.length_map, maxLen]; omega) fun t' K' Hn hg' hl' => ?_
  rw [← u8s_app, show putB s.length ++ s = putTextB s from rfl] at hg' ⊢
  simp -implicitDefEqProofs
  subst hR
  exact AFin.intro _ _ (wk_refl _) hl'.wk ⟨t', rfl, hg'⟩
theorem c_ref1TakeTextNeg (b : List UInt8) (t : Rg.Tok) : AOk Tryz.prog 139 [.sl (u8s b) t, .sc (.int .i64 (-1))] H (.tup [str [], .sc (.int .i64 0), .sc (.int .i64 2)]) H := by
  refine ACalls.into Tryz.func139 rfl Tryz.ntmps139 Tryz.results139 (by simp) ?_
  simp -implicitDefEqProofs
  refine ACall.eq (c_ref1TakeNeg b t) ?_
  simp -implicitDefEqProofs
set_option maxHeartbeats 1000000 in
theorem c_ref1TakeText (b : List UInt8) (t : Rg.Tok) (a : Nat) (ha : a ≤ b.length) (hb : b.length ≤ 1000000) : AOk Tryz.prog 139 [.sl (u8s b) t, .sc (.int .i64 (a : Int))] H (txAV (takeTextK b a)) H := by
  have hle := takeK_le b a ha
  have hlt := takeK_lt b a
  refine ACalls.into Tryz.func139 rfl Tryz.ntmps139 Tryz.results139 (by simp) ?_
  simp -implicitDefEqProofs
  refine ACall.eq (c_ref1Take b t a ha hb) ?_
  obtain ⟨n, nx, e, hp⟩ : ∃ n nx e, takeK b a = (n, nx, e) := ⟨_, _, _, rfl⟩
  unfold takeTextK
  rw [hp] at hle hlt ⊢
  simp only at hle hlt ⊢
  by_cases he : e = 0
  · subst he
    by_cases h1 : 4096 < n
    · have h1' : (4096 : Int) < (n : Int) := by omega
      simp -implicitDefEqProofs [h1, h1']
    · have h1' : ¬ (4096 : Int) < (n : Int) := by omega
      have hw : IntKind.i64.wrap ((b.length : Int) - (nx : Int)) = ((b.length - nx : Nat) : Int) := by rw [wrap_i64 (by omega) (by omega)]; omega
      have hw3 : IntKind.i64.wrap (n : Int) = (n : Int) := wrap_i64 (by omega) (by omega)
      have hw4 : IntKind.i64.wrap ((nx : Int) + (n : Int)) = (nx : Int) + (n : Int) := wrap_i64 (by omega) (by omega)
      by_cases h2 : b.length - nx < n
      · have h2' : ((b.length - nx : Nat) : Int) < (n : Int) := by omega
        simp -implicitDefEqProofs [h1, h1', hw, hw3, h2, h2']
      · have h2' : ¬ ((b.length - nx : Nat) : Int) < (n : Int) := by omega
        have q1 : (nx : Int) ≤ (nx : Int) + (n : Int) := by omega
        have q2 : (nx : Int) + (n : Int) ≤ (b.length : Int) := by omega
        have q3 : ((nx : Int) + (n : Int)).toNat = nx + n := by omega
        have hcast : ((nx + n : Nat) : Int) = (nx : Int) + (n : Int) := by omega
        have m1 : ((b.drop nx).take n).length ≤ maxLen := by simp only [maxLen, List.length_take, List.length_drop]; omega
        have h7 : abytes (List.drop nx (List.take (nx + n) (u8s b))) = some ((b.drop nx).take n) := by
          rw [← List.map_take, ← List.map_drop, List.drop_take, Nat.add_sub_cancel_left]
          exact abytes_u8s _
        simp -implicitDefEqProofs [h1, h1', hw, hw3, hw4, h2, h2', q1, q2, q3, szs_u8s b, m1, h7, aconv]
  · have he' : ¬ (e : Int) = 0 := by omega
    simp -implicitDefEqProofs [he, he']
end Go.Proofs.YtghlkjkdejebnaaGreatDoor
namespace Go.Proofs.YtghlkjkdejebnaaGreatDoor
open Rg Go
variable {H : Heap}
def tkAt (s : Nat × Bool) : Int := if s.2 = true then -1 else (s.1 : Int)
theorem tkAt_bad (a : Nat) : tkAt (a, true) = -1 := rfl
theorem tkAt_ok (a : Nat) : tkAt (a, false) = (a : Int) := rfl
abbrev tkC (b : List UInt8) (t : Rg.Tok) (s : Nat × Bool) : List AV := [.sl (u8s b) t, .sc (.int .i64 (tkAt s))]
abbrev tkO (b : List UInt8) (t : Rg.Tok) (s : Nat × Bool) : AObj := .cells (tkC b t s) 91
set_option maxHeartbeats 1000000 in
theorem c_tNum {b : List UInt8} {t : Rg.Tok} {p : Nat} {K : Heap} {s : Nat × Bool} (h : K p = some (tkO b t s)) (hs : s.1 ≤ b.length) (hb : b.length ≤ 1000000) :
    AOk Tryz.prog 56 [.sc (.pointer (some ⟨p, 0, none⟩))] K (.sc (.int .u64 ((numS b 18446744073709551615 s).1 : Int))) (K.set p (tkO b t (numS b 18446744073709551615 s).2)) := by
  obtain ⟨a, bad⟩ := s
  cases bad with
  | true =>
    rw [numS_bad b _ _ rfl]
    simp only [tkO, tkC, tkAt_bad] at h ⊢
    refine ACalls.into Tryz.func56 rfl Tryz.ntmps56 Tryz.results56 (by simp) ?_
    simp -implicitDefEqProofs [h]
    refine go_draw 16 f_mixed (by decide +kernel) ?_
    simp -implicitDefEqProofs [h]
    refine AQS.eq (c_ref1TakeNeg b t) ?_
    simp -implicitDefEqProofs [h]
  | false =>
    have hlt := takeK_lt b a
    have hc := c_ref1Take (H := K) b t a hs hb
    obtain ⟨n, nx, e, hp⟩ : ∃ n nx e, takeK b a = (n, nx, e) := ⟨_, _, _, rfl⟩
    unfold numS
    simp only [tkO, tkC, tkAt_ok, hp] at h hc hlt ⊢
    by_cases he : e = 0
    · subst he
      have hn : ¬ (18446744073709551615 < n) := by omega
      refine ACalls.into Tryz.func56 rfl Tryz.ntmps56 Tryz.results56 (by simp) ?_
      simp -implicitDefEqProofs [h]
      refine go_draw 16 f_mixed (by decide +kernel) ?_
      simp -implicitDefEqProofs [h]
      refine AQS.eq hc ?_
      simp -implicitDefEqProofs [h, hn, tkAt_ok]
    · have he' : ¬ (e : Int) = 0 := by omega
      refine ACalls.into Tryz.func56 rfl Tryz.ntmps56 Tryz.results56 (by simp) ?_
      simp -implicitDefEqProofs [h]
      refine go_draw 16 f_mixed (by decide +kernel) ?_
      simp -implicitDefEqProofs [h]
      refine AQS.eq hc ?_
      simp -implicitDefEqProofs [h, he, he', tkAt_bad]
set_option maxHeartbeats 1000000 in
theorem c_tText {b : List UInt8} {t : Rg.Tok} {p : Nat} {K : Heap} {s : Nat × Bool} (h : K p = some (tkO b t s)) (hs : s.1 ≤ b.length) (hb : b.length ≤ 1000000) :
    AOk Tryz.prog 112 [.sc (.pointer (some ⟨p, 0, none⟩))] K (str (txtS b s).1) (K.set p (tkO b t (txtS b s).2)) := by
  obtain ⟨a, bad⟩ := s
  cases bad with
  | true =>
    rw [txtS_bad b _ rfl]
    simp only [tkO, tkC, tkAt_bad] at h ⊢
    refine ACalls.into Tryz.func112 rfl Tryz.ntmps112 Tryz.results112 (by simp) ?_
    simp -implicitDefEqProofs [h]
    refine go_draw 16 f_mixed (by decide +kernel) ?_
    simp -implicitDefEqProofs [h]
    refine AQS.eq (c_ref1TakeTextNeg b t) ?_
    simp -implicitDefEqProofs [h]
  | false =>
    have hc := c_ref1TakeText (H := K) b t a hs hb
    obtain ⟨n, nx, e, hp⟩ : ∃ n nx e, takeTextK b a = (n, nx, e) := ⟨_, _, _, rfl⟩
    unfold txtS
    simp only [tkO, tkC, tkAt_ok, hp] at h hc ⊢
    by_cases he : e = 0
    · subst he
      refine ACalls.into Tryz.func112 rfl Tryz.ntmps112 Tryz.results112 (by simp) ?_
      simp -implicitDefEqProofs [h]
      refine go_draw 16 f_mixed (by decide +kernel) ?_
      simp -implicitDefEqProofs [h]
      refine AQS.eq hc ?_
      simp -implicitDefEqProofs [h, tkAt_ok]
    · have he' : ¬ (e : Int) = 0 := by omega
      refine ACalls.into Tryz.func112 rfl Tryz.ntmps112 Tryz.results112 (by simp) ?_
      simp -implicitDefEqProofs [h]
      refine go_draw 16 f_mixed (by decide +kernel) ?_
      simp -implicitDefEqProofs [h]
      refine AQS.eq hc ?_
      simp -implicitDefEqProofs [h, he, he', tkAt_bad]
set_option maxHeartbeats 1000000 in
theorem c_tInt {b : List UInt8} {t : Rg.Tok} {p : Nat} {K : Heap} {s : Nat × Bool} (h : K p = some (tkO b t s)) (hs : s.1 ≤ b.length) (hb : b.length ≤ 1000000) :
    AOk Tryz.prog 71 [.sc (.pointer (some ⟨p, 0, none⟩))] K (.sc (.int .i64 (intS b s).1)) (K.set p (tkO b t (intS b s).2)) := by
  obtain ⟨a, bad⟩ := s
  cases bad with
  | true =>
    have e : intS b (a, true) = (0, a, true) := by unfold intS; rw [if_pos (.inl rfl)]
    rw [e]
    simp only [tkO, tkC, tkAt_bad] at h ⊢
    refine ACalls.into Tryz.func71 rfl Tryz.ntmps71 Tryz.results71 (by simp) ?_
    simp -implicitDefEqProofs [h]
    refine go_draw 16 f_mixed (by decide +kernel) ?_
    simp -implicitDefEqProofs [h]
    refine AQS.eq (c_ref1TakeIntNeg b t) ?_
    simp -implicitDefEqProofs [h]
  | false =>
    have hc := c_ref1TakeInt (H := K) b t a hs hb
    obtain ⟨n, nx, e, hp⟩ : ∃ n nx e, takeK b a = (n, nx, e) := ⟨_, _, _, rfl⟩
    unfold intS
    simp only [tkO, tkC, tkAt_ok, hp] at h hc ⊢
    by_cases he : e = 0
    · subst he
      refine ACalls.into Tryz.func71 rfl Tryz.ntmps71 Tryz.results71 (by simp) ?_
      simp -implicitDefEqProofs [h]
      refine go_draw 16 f_mixed (by decide +kernel) ?_
      simp -implicitDefEqProofs [h]
      refine AQS.eq hc ?_
      simp -implicitDefEqProofs [h, tkAt_ok]
    · have he' : ¬ (e : Int) = 0 := by omega
      refine ACalls.into Tryz.func71 rfl Tryz.ntmps71 Tryz.results71 (by simp) ?_
      simp -implicitDefEqProofs [h]
      refine go_draw 16 f_mixed (by decide +kernel) ?_
      simp -implicitDefEqProofs [h]
      refine AQS.eq hc ?_
      simp -implicitDefEqProofs [h, he, he', tkAt_bad]
theorem c_tSmall {b : List UInt8} {t : Rg.Tok} {p : Nat} {K : Heap} {s : Nat × Bool} (h : K p = some (tkO b t s)) (hs : s.1 ≤ b.length) (hb : b.length ≤ 1000000) :
    AOk Tryz.prog 113 [.sc (.pointer (some ⟨p, 0, none⟩))] K (.sc (.int .i64 ((capS b s).1 : Int))) (K.set p (tkO b t (capS b s).2)) := by
  have hc := c_tNum h hs hb
  unfold capS
  obtain ⟨n, s', hp⟩ : ∃ n s', numS b 18446744073709551615 s = (n, s') := ⟨_, _, rfl⟩
  simp only [hp] at hc ⊢
  refine ACalls.into Tryz.func113 rfl Tryz.ntmps113 Tryz.results113 (by simp) ?_
  simp -implicitDefEqProofs
  refine ACall.eq hc ?_
  by_cases hn : 1099511627776 < n
  · have hn' : (1099511627776 : Int) < (n : Int) := by omega
    rw [Nat.min_eq_right (by omega)]
    simp -implicitDefEqProofs [hn, hn']
  · have hn' : ¬ (1099511627776 : Int) < (n : Int) := by omega
    have hw : IntKind.i64.wrap (n : Int) = (n : Int) := wrap_i64 (by omega) (by omega)
    rw [Nat.min_eq_left (by omega)]
    simp -implicitDefEqProofs [hn, hn', hw]
structure TInv (B : Heap) (b : List UInt8) (t : Rg.Tok) (p pj : Nat) (s : Nat × Bool) (j : Jb) (t0 : Rg.Tok) (K : Heap) : Prop where
  tk : K p = some (tkO b t s)
  row : RowAt 22 25 B pj j.deps.length (jbC j) K
  cell : K pj = some (.cells (jbC j t0) 25)
  p0 : B p = none
  np : p ≠ pj
  le : s.1 ≤ b.length
section
variable {B : Heap} {b : List UInt8} {t : Rg.Tok} {p pj : Nat} {s : Nat × Bool} {j : Jb} {t0 : Rg.Tok} {K : Heap}
theorem TInv.upd (h : TInv B b t p pj s j t0 K) {s' : Nat × Bool} (hs : s'.1 ≤ b.length) : TInv B b t p pj s' j t0 (K.set p (tkO b t s')) :=
  ⟨by simp [Heap.set], h.row.set h.p0 h.tk h.np, by simp [Heap.set, Ne.symm h.np, h.cell], h.p0, h.np, hs⟩
theorem TInv.put (h : TInv B b t p pj s j t0 K) {j' : Jb} (hd : j'.deps = j.deps) : TInv B b t p pj s j' t0 (K.set pj (.cells (jbC j' t0) 25)) := by
  refine ⟨by simp [Heap.set, h.np, h.tk], ?_, by simp [Heap.set], h.p0, h.np, h.le⟩
  rw [hd]
  exact h.row.put h.cell fun t' ht => jbC_inj ht
theorem TInv.app (h : TInv B b t p pj s j t0 K) (n : Nat) : ∃ G0 G, Grows G0 (u64s j.deps) 1 22 t0 G ∧ HLe G K ∧ ∀ t' K' Hn, Grows G0 (u64s (j.deps ++ [n])) 1 22 t' K' → HLe K' Hn →
    Hn pj = some (.cells (jbC j t0) 25) ∧ TInv B b t p pj s { j with deps := j.deps ++ [n] } t' (Hn.set pj (.cells (jbC { j with deps := j.deps ++ [n] } t') 25)) := by
  have hr := h.row
  rw [show j.deps.length = (u64s j.deps).length by simp] at hr
  obtain ⟨t1, G0, G, c1, hg, hl, hl0, c2, hp⟩ := hr.grows
  rw [h.cell] at c1
  simp only [Option.some.injEq, AObj.cells.injEq] at c1
  obtain rfl := jbC_inj c1.1
  refine ⟨G0, G, hg, hl, fun t' K' Hn hg' hl' => ?_⟩
  have keep : ∀ p cs T', K p = some (.cells cs T') → Hn p = some (.cells cs T') := fun p cs T' hh => hl' p _ (hg'.le p _ (hp p cs T' hh))
  refine ⟨keep _ _ _ h.cell, by simp [Heap.set, h.np, keep _ _ _ h.tk], ?_, by simp [Heap.set], h.p0, h.np, h.le⟩
  have := RowAt.stored (T := 25) (F := jbC { j with deps := j.deps ++ [n] }) hl0 h.row.no c2 hg' hl'
  simpa using this
end
theorem intS_le (b : List UInt8) (s : Nat × Bool) (h : s.1 ≤ b.length) : (intS b s).2.1 ≤ b.length := by
  unfold intS
  split
  · exact h
  · exact takeK_le b s.1 h
end Go.Proofs.YtghlkjkdejebnaaGreatDoor
