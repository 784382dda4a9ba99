/- A state's parts as bytes: what image.Put gives. A state's parts as bytes: what the document's Put gives. A cell, one of whose places holds a row that grows. -/
import Derived.Test.YtghlkjkdejebnaaGreatDoorP21
import Derived.Test.YtghlkjkdejebnaaGreatDoorP09
set_option linter.unusedSimpArgs false
set_option linter.unusedVariables false
set_option linter.unnecessarySimpa false
namespace Go.Proofs.YtghlkjkdejebnaaGreatDoor
open Rg Go
variable {H : Heap}
theorem c_jobPutNo (hG : Glob H) (j : Jb) (t : Rg.Tok) (hm : mayJ j ≠ 0) (hs : j.ex.length ≤ 9223372036854775807) : AOk Tryz.prog 49 [jbAV j t] H (.tup [.sl [] .nil, .sc (.int .i64 (mayJ j))]) H := by
  refine ACalls.into Tryz.func49 rfl Tryz.ntmps49 Tryz.results49 (by simp) ?_
  simp -implicitDefEqProofs
  refine AAlloc.intro fun b1 h1 => ?_
  simp -implicitDefEqProofs
  generalize hK : Heap.set _ b1 _ = K0
  have kG : Glob K0 := by rw [← hK]; exact hG.new h1
  have kW : HLe H K0 := by rw [← hK]; exact HLe.set_fresh h1
  refine ACall.eq (c_jobMay kG j t hs) ?_
  simp -implicitDefEqProofs [hm]
  exact kW.wk
abbrev jbsAV (l : List Jb) : List AV := l.map fun j => jbAV j .no
abbrev frC (f : Fr) : List AV := [.sc (.int .u64 (f.job : Nat)), .sc (.int .i64 f.at_), .sc (.int .i64 f.st), .sc (.int .i64 f.att), .sc (.int .u64 (f.tok : Nat)), .sc (.int .u64 (f.wk : Nat)), .sc (.int .i64 f.til)]
abbrev frAV (f : Fr) : AV := .agg (frC f)
abbrev frsAV (l : List Fr) : List AV := l.map frAV
abbrev tlC (t : Tl) : List AV := [.sc (.int .u64 (t.cl : Nat)), .sc (.int .u64 (t.sq : Nat)), .sc (.int .i64 t.e), .sc (.int .u64 (t.n : Nat))]
abbrev tlAV (t : Tl) : AV := .agg (tlC t)
abbrev tlsAV (l : List Tl) : List AV := l.map tlAV
abbrev ptC (p : Pt) (tj tf tt : Rg.Tok) : List AV := [.sl (jbsAV p.jobs) tj, .sc (.int .u64 (p.last : Nat)), .sl (frsAV p.fires) tf, .sl (tlsAV p.talks) tt, .sc (.int .i64 p.now), .sc (.int .u64 (p.tokens : Nat))]
abbrev ptAV (p : Pt) : AV := .agg (ptC p .no .no .no)
theorem szs_jbs (l : List Jb) : szs 12 (jbsAV l) = true := by simp [szs, AV.cells]
theorem szs_frs (l : List Fr) : szs 7 (frsAV l) = true := by simp [szs, AV.cells]
theorem szs_tls (l : List Tl) : szs 4 (tlsAV l) = true := by simp [szs, AV.cells]
theorem zig_inv {n : Int} (h : zig n < 18446744073709551616) : -9223372036854775808 ≤ n ∧ n ≤ 9223372036854775807 := by
  unfold zig at h
  split at h <;> omega
theorem mayI_first {p : Pt} {i : Nat} {j : Jb} (h1 : p.jobs.length ≤ 64) (h2 : p.fires.length ≤ 2000) (h3 : p.talks.length ≤ 64) (h : ∀ x ∈ p.jobs.take i, mayJ x = 0) (hj : p.jobs[i]? = some j) (hm : mayJ j ≠ 0) : mayI p = mayJ j := by
  unfold mayI
  rw [if_neg (by omega)]
  have hd : p.jobs = p.jobs.take i ++ j :: p.jobs.drop (i + 1) := by
    have := List.drop_eq_getElem_cons (List.getElem?_eq_some_iff.1 hj).1
    rw [(List.getElem?_eq_some_iff.1 hj).2] at this
    rw [← this, List.take_append_drop]
  have : (p.jobs.map mayJ).find? (· ≠ 0) = some (mayJ j) := by
    rw [hd, List.map_append, List.find?_append]
    have hn : ((p.jobs.take i).map mayJ).find? (· ≠ 0) = none := by
      rw [List.find?_eq_none]
      intro x hx
      obtain ⟨y, hy, rfl⟩ := List.mem_map.1 hx
      simp [h y hy]
    rw [hn]
    simp [hm]
  rw [this]
  rfl
theorem take_all {α : Type} {l : List α} {i : Nat} {x : α} {P : α → Prop} (h : ∀ y ∈ l.take i, P y) (hx : l[i]? = some x) (hp : P x) : ∀ y ∈ l.take (i + 1), P y := by
  rw [List.take_add_one, hx]
  intro y hy
  rcases List.mem_append.1 hy with hy | hy
  · exact h y hy
  · simp at hy; subst hy; exact hp
theorem flat_take {α : Type} {f : α → List UInt8} {l : List α} {i : Nat} {x : α} (h : l[i]? = some x) : (l.take (i + 1)).flatMap f = (l.take i).flatMap f ++ f x := by
  rw [List.take_add_one, h]
  simp
theorem flat_len {α : Type} {f : α → List UInt8} {n : Nat} {l : List α} (h : ∀ x ∈ l, (f x).length ≤ n) : (l.flatMap f).length ≤ n * l.length := by
  induction l with
  | nil => simp
  | cons a l ih =>
    have h1 := h a (by simp)
    have h2 := ih fun x hx => h x (by simp [hx])
    simp only [List.flatMap_cons, List.length_append, List.length_cons, Nat.mul_add, Nat.mul_one]
    omega
theorem flat_takeLen {α : Type} {f : α → List UInt8} {n m : Nat} {l : List α} (h : ∀ x ∈ l, (f x).length ≤ n) (i : Nat) (hm : l.length ≤ m) : ((l.take i).flatMap f).length ≤ n * m := by
  have h1 := flat_len (l := l.take i) fun x hx => h x (List.mem_of_mem_take hx)
  have h2 : (l.take i).length ≤ m := by rw [List.length_take]; omega
  exact Nat.le_trans h1 (Nat.mul_le_mul_left n h2)
def putIR (p : Pt) : List UInt8 := if mayI p = 0 then putI p else []
set_option maxHeartbeats 4000000 in
theorem c_imgPut (hG : Glob H) (p : Pt) (tj tf tt : Rg.Tok) (ho : PtOk p) : AOk Tryz.prog 20 [.agg (ptC p tj tf tt)] H (.tup [.sl (u8s (putIR p)) .no, .sc (.int .i64 (mayI p))]) H := by
  have hnow := zig_inv ho.now
  refine ACalls.into Tryz.func20 rfl Tryz.ntmps20 Tryz.results20 (by simp) ?_
  simp -implicitDefEqProofs
  refine AAlloc.intro fun b1 h1 => ?_
  simp -implicitDefEqProofs
  generalize hK : Heap.set _ b1 _ = K0
  have k1 : K0 b1 = some (.cells (ptC p tj tf tt) 44) := by rw [← hK]; simp [Heap.set]
  have kG : Glob K0 := by rw [← hK]; exact hG.new h1
  have kW : HLe H K0 := by rw [← hK]; exact HLe.set_fresh h1
  clear hK
  have long : 64 < p.jobs.length ∨ 2000 < p.fires.length ∨ 64 < p.talks.length → putIR p = [] ∧ mayI p = 3 := fun h => by
    have : mayI p = 3 := by unfold mayI; rw [if_pos h]
    exact ⟨by unfold putIR; rw [if_neg (by omega)], this⟩
  by_cases c1 : 64 < p.jobs.length
  · have c1' : (64 : Int) < (p.jobs.length : Int) := by omega
    rw [(long (.inl c1)).1, (long (.inl c1)).2]
    simp -implicitDefEqProofs [k1, c1, c1', kW.wk]
  have c1' : ¬ (64 : Int) < (p.jobs.length : Int) := by omega
  by_cases c2 : 2000 < p.fires.length
  · have c2' : (2000 : Int) < (p.fires.length : Int) := by omega
    rw [(long (.inr (.inl c2))).1, (long (.inr (.inl c2))).2]
    simp -implicitDefEqProofs [k1, c1, c1', c2, c2', kW.wk]
  have c2' : ¬ (2000 : Int) < (p.fires.length : Int) := by omega
  by_cases c3 : 64 < p.talks.length
  · have c3' : (64 : Int) < (p.talks.length : Int) := by omega
    rw [(long (.inr (.inr c3))).1, (long (.inr (.inr c3))).2]
    simp -implicitDefEqProofs [k1, c1, c1', c2, c2', c3, c3', kW.wk]
  have c3' : ¬ (64 : Int) < (p.talks.length : Int) := by omega
  clear long
  simp -implicitDefEqProofs [k1, c1, c1', c2, c2', c3, c3']
  refine AAlloc.intro fun pw hpw => ?_
  have hB0 : BufAt 5 96 K0 pw (u8s []) (K0.set pw (.cells [.sl [] .nil] 96)) := BufAt.start hpw
  have npw : b1 ≠ pw := by rintro rfl; rw [k1] at hpw; cases hpw
  simp -implicitDefEqProofs [k1, npw]
  generalize K0.set pw _ = K1 at *
  have hw1 := c_wWhole hB0 [p.now] .full (by simp) (by simp) (by simpa using hnow)
  simp only [List.map_cons, List.map_nil, List.nil_append] at hw1
  refine ACall.intro hw1 ?_
  rintro v K2 ⟨rfl, hB1⟩
  have wl : IntKind.u64.wrap (p.jobs.length : Int) = (p.jobs.length : Int) := wrap_u64 (by omega) (by omega)
  have wf : IntKind.u64.wrap (p.fires.length : Int) = (p.fires.length : Int) := wrap_u64 (by omega) (by omega)
  have wt : IntKind.u64.wrap (p.talks.length : Int) = (p.talks.length : Int) := wrap_u64 (by omega) (by omega)
  have l0 := numsB_len [zig p.now]
  have l1 := numsB_len [p.tokens, p.last, p.jobs.length]
  simp only [List.length_cons, List.length_nil] at l0 l1
  simp -implicitDefEqProofs [hB1.cell k1, wl]
  have hw2 := c_wNum hB1 [p.tokens, p.last, p.jobs.length] .full (by simp) (by omega) (by
    simp only [List.mem_cons, List.not_mem_nil, or_false]
    rintro n (rfl | rfl | rfl)
    · exact ho.tokens
    · exact ho.last
    · omega)
  simp only [List.map_cons, List.map_nil] at hw2
  refine ACall.intro hw2 ?_
  rintro v K3 ⟨rfl, hB2⟩
  have e2 : numsB [zig p.now] ++ numsB [p.tokens, p.last, p.jobs.length] = numsB [zig p.now, p.tokens, p.last, p.jobs.length] := by simp [numsB]
  rw [e2] at hB2
  obtain ⟨q0, hq0⟩ : ∃ q, numsB [zig p.now, p.tokens, p.last, p.jobs.length] = q := ⟨_, rfl⟩
  have lq0 : q0.length ≤ 40 := by rw [← hq0, ← e2, List.length_append]; omega
  rw [hq0] at hB2
  clear hw1 hw2 hB0 hB1
  simp -implicitDefEqProofs [hB2.cell k1]
  have hz12 := szs_jbs p.jobs
  have hz7 := szs_frs p.fires
  have hz4 := szs_tls p.talks
  have hJl : (∀ j ∈ p.jobs, mayJ j = 0) → ∀ i, ((p.jobs.take i).flatMap putJ).length ≤ 4500 * 64 := fun hall i => flat_takeLen (fun x hx => putJ_len (ho.jobs x hx).1 (hall x hx) (ho.jobs x hx).2) i (by omega)
  have hFl : ∀ i, ((p.fires.take i).flatMap fun f => numsB (frN f)).length ≤ 70 * 2000 := fun i => flat_takeLen (fun x _ => by have := numsB_len (frN x); simp only [frN, List.length_cons, List.length_nil] at this; exact this) i (by omega)
  have hTl : ∀ i, ((p.talks.take i).flatMap fun f => numsB (tlN f)).length ≤ 40 * 64 := fun i => flat_takeLen (fun x _ => by have := numsB_len (tlN x); simp only [tlN, List.length_cons, List.length_nil] at this; exact this) i (by omega)
  refine AGo.joinLoop (fun ρ K => (∀ j ∈ p.jobs, mayJ j = 0) ∧ ρ 1 = .sc (.pointer (some ⟨b1, 0, none⟩)) ∧ ρ 4 = .sc (.pointer (some ⟨pw, 0, none⟩)) ∧ BufAt 5 96 K0 pw (u8s (q0 ++ p.jobs.flatMap putJ)) K) (fun k' hk => ?_) ?_
  · refine AGo.rounds (fun m ρ K => ∃ i q, m = p.jobs.length - i ∧ i ≤ p.jobs.length ∧ (∀ j ∈ p.jobs.take i, mayJ j = 0) ∧ q0 ++ (p.jobs.take i).flatMap putJ = q ∧ ρ 50 = .sc (.int .i64 (i : Int)) ∧ ρ 1 = .sc (.pointer (some ⟨b1, 0, none⟩)) ∧ ρ 4 = .sc (.pointer (some ⟨pw, 0, none⟩)) ∧ ρ 48 = .sl (jbsAV p.jobs) tj ∧ ρ 49 = .sc (.int .i64 (p.jobs.length : Int)) ∧ BufAt 5 96 K0 pw (u8s q) K) ?_ (m := p.jobs.length) (HLe.refl _)
      ⟨0, q0, rfl, by omega, by simp, by simp, by simp, by simp, by simp, by simp, by simp, hB2⟩
    rintro m ρ K ih ⟨i, q, rfl, hi, hall, hq, r50, r1, r4, r48, r49, hB⟩
    rcases Nat.lt_or_ge i p.jobs.length with hlt | hge
    · obtain ⟨j, hej, hj⟩ := getAt hlt
      have hlt' : (i : Int) < (p.jobs.length : Int) := by omega
      have hw1 : IntKind.i64.wrap ((i : Int) + 1) = (i : Int) + 1 := wrap_i64 (by omega) (by omega)
      have hjm := List.mem_of_getElem? hj
      have hG3 : Glob K := kG.le hB.le
      simp -implicitDefEqProofs [r50, r1, r4, r48, r49, hlt, hlt', hej, hz12]
      refine AAlloc.intro fun b6 h6 => ?_
      simp -implicitDefEqProofs [r4]
      have hB' := hB.new h6 (o := .cells (jbC j .no) 25)
      have hGb := hG3.new h6 (o := .cells (jbC j .no) 25)
      have hWb : HWk H (K.set b6 (.cells (jbC j .no) 25)) := HWk.new (kW.trans hB.le |>.none h6) (kW.trans hB.le).wk
      generalize K.set b6 _ = Kb at *
      by_cases hm : mayJ j = 0
      · refine ACall.eq (c_jobPut hGb j .no (ho.jobs j hjm).1 hm (ho.jobs j hjm).2) ?_
        have hpj := putJ_len (ho.jobs j hjm).1 hm (ho.jobs j hjm).2
        have hql : q.length ≤ 40 + 4500 * 64 := by
          have := flat_len (l := p.jobs.take i) (f := putJ) (n := 4500) fun x hx => putJ_len (ho.jobs x (List.mem_of_mem_take hx)).1 (hall x hx) (ho.jobs x (List.mem_of_mem_take hx)).2
          rw [List.length_take] at this
          rw [← hq, List.length_append]
          have : 4500 * min i p.jobs.length ≤ 4500 * 64 := Nat.mul_le_mul_left _ (by omega)
          omega
        obtain ⟨t1, G0, G, hc, hg, hl, hl0, hc0⟩ := hB'.grows
        simp -implicitDefEqProofs [r4, hc]
        refine AApp.grows0 el_28 hg hl (szs_u8s _) (szs_u8s _) (by simp; omega) (by simp [maxLen]; omega) fun t' K' Hn hg' hl' => ?_
        have hcn : Hn pw = some (.cells [.sl (u8s q) t1] 96) := hl' pw _ (hg'.le pw _ hc0)
        rw [← u8s_app] at hg' ⊢
        obtain ⟨q2, hq2⟩ : ∃ q2, q ++ putJ j = q2 := ⟨_, rfl⟩
        rw [hq2] at hg' ⊢
        simp -implicitDefEqProofs [r50, r1, r4, r48, r49, hcn, hw1]
        refine AGo.again ih (m' := p.jobs.length - (i + 1)) (by omega) (HLe.refl _) ⟨i + 1, q2, rfl, by omega, take_all hall hj hm, by rw [flat_take hj, ← List.append_assoc, hq, hq2], by simp, by simp [r1], by simp [r4], by simp [r48], by simp [r49], BufAt.stored hl0 hB.no hc0 hg' hl'⟩
      · have hz := (ho.jobs j hjm).2
        refine ACall.eq (c_jobPutNo hGb j .no hm (by omega)) ?_
        have he : mayI p = mayJ j := mayI_first (by omega) (by omega) (by omega) hall hj hm
        have he2 : putIR p = [] := by unfold putIR; rw [if_neg (by rw [he]; exact hm)]
        rw [he, he2]
        simp -implicitDefEqProofs [hm]
        exact hWb
    · have hn : ¬ (i : Int) < (p.jobs.length : Int) := by omega
      simp -implicitDefEqProofs [r50, r1, r4, r48, r49, hn]
      rw [List.take_of_length_le (by omega)] at hall hq
      exact hk _ _ ⟨hall, by simp [r1], by simp [r4], by rw [hq]; exact hB⟩
  · rintro ρ K ⟨hall, r1, r4, hB⟩
    have hmI : mayI p = 0 := mayI_of (by omega) (by omega) (by omega) hall
    have hpI : putIR p = putI p := by unfold putIR; rw [if_pos hmI]
    rw [hmI, hpI]
    have hjl := hJl hall p.jobs.length
    rw [List.take_of_length_le (Nat.le_refl _)] at hjl
    obtain ⟨q1, hq1⟩ : ∃ q, q0 ++ p.jobs.flatMap putJ = q := ⟨_, rfl⟩
    have lq1 : q1.length ≤ 300000 := by rw [← hq1, List.length_append]; omega
    rw [hq1] at hB
    simp -implicitDefEqProofs [r1, r4, hB.cell k1, wf]
    have hw3 := c_wNum hB [p.fires.length] .full (by simp) (by omega) (by simpa using (by omega : p.fires.length < 18446744073709551616))
    simp only [List.map_cons, List.map_nil] at hw3
    refine ACall.intro hw3 ?_
    rintro v K4 ⟨rfl, hB4⟩
    have l4 := numsB_len [p.fires.length]
    simp only [List.length_cons, List.length_nil] at l4
    obtain ⟨q2, hq2⟩ : ∃ q, q1 ++ numsB [p.fires.length] = q := ⟨_, rfl⟩
    have lq2 : q2.length ≤ 300010 := by rw [← hq2, List.length_append]; omega
    rw [hq2] at hB4
    simp -implicitDefEqProofs [r1, r4, hB4.cell k1]
    refine AGo.joinLoop (fun ρ K => ρ 1 = .sc (.pointer (some ⟨b1, 0, none⟩)) ∧ ρ 4 = .sc (.pointer (some ⟨pw, 0, none⟩)) ∧ BufAt 5 96 K0 pw (u8s (q2 ++ p.fires.flatMap fun f => numsB (frN f))) K) (fun k' hk => ?_) ?_
    · refine AGo.rounds (fun m ρ K => ∃ i q, m = p.fires.length - i ∧ i ≤ p.fires.length ∧ q2 ++ ((p.fires.take i).flatMap fun f => numsB (frN f)) = q ∧ ρ 82 = .sc (.int .i64 (i : Int)) ∧ ρ 1 = .sc (.pointer (some ⟨b1, 0, none⟩)) ∧ ρ 4 = .sc (.pointer (some ⟨pw, 0, none⟩)) ∧ ρ 80 = .sl (frsAV p.fires) tf ∧ ρ 81 = .sc (.int .i64 (p.fires.length : Int)) ∧ BufAt 5 96 K0 pw (u8s q) K) ?_ (m := p.fires.length) (HLe.refl _)
        ⟨0, q2, rfl, by omega, by simp, by simp, by simp [r1], by simp [r4], by simp, by simp, hB4⟩
      rintro m ρ K ih ⟨i, q, rfl, hi, hq, r82, r1, r4, r80, r81, hB⟩
      rcases Nat.lt_or_ge i p.fires.length with hlt | hge
      · obtain ⟨f, hej, hf⟩ := getAt hlt
        have hlt' : (i : Int) < (p.fires.length : Int) := by omega
        have hw1 : IntKind.i64.wrap ((i : Int) + 1) = (i : Int) + 1 := wrap_i64 (by omega) (by omega)
        have hfn := ho.fires f (List.mem_of_getElem? hf)
        simp only [frN, List.mem_cons, List.not_mem_nil, or_false, forall_eq_or_imp, forall_eq] at hfn
        obtain ⟨u1, u2, u3, u4, u5, u6, u7⟩ := hfn
        have hql : q.length ≤ 300010 + 140000 := by
          have := hFl i
          rw [← hq, List.length_append]
          omega
        simp -implicitDefEqProofs [r82, r1, r4, r80, r81, hlt, hlt', hej, hz7]
        refine AAlloc.intro fun b6 h6 => ?_
        have h60 : K0 b6 = none := hB.le.none h6
        have hX := hB.box h6 (o := .cells (frC f) 100)
        have x1 : (K0.set b6 (.cells (frC f) 100)) b6 = some (.cells (frC f) 100) := by simp [Heap.set]
        simp -implicitDefEqProofs [r4]
        generalize K.set b6 _ = Kb at *
        have c1 := c_wNum hX [f.job] .full (by simp) (by omega) (by simpa using u1)
        simp only [List.map_cons, List.map_nil] at c1
        refine ACall.intro c1 ?_
        rintro v Kc ⟨rfl, hY⟩
        have p1 := numsB_len [f.job]
        simp only [List.length_cons, List.length_nil] at p1
        simp -implicitDefEqProofs [r4, hY.cell x1]
        have c2 := c_wWhole hY [f.at_, f.st, f.att] .full (by simp) (by rw [List.length_append]; omega) (by
          simp only [List.mem_cons, List.not_mem_nil, or_false]
          rintro n (rfl | rfl | rfl)
          · exact zig_inv u2
          · exact zig_inv u3
          · exact zig_inv u4)
        simp only [List.map_cons, List.map_nil] at c2
        refine ACall.intro c2 ?_
        rintro v Kd ⟨rfl, hZ⟩
        have p2 := numsB_len [zig f.at_, zig f.st, zig f.att]
        simp only [List.length_cons, List.length_nil] at p2
        simp -implicitDefEqProofs [r4, hZ.cell x1]
        have c3 := c_wNum hZ [f.tok, f.wk] .full (by simp) (by rw [List.length_append, List.length_append]; omega) (by
          simp only [List.mem_cons, List.not_mem_nil, or_false]
          rintro n (rfl | rfl)
          · exact u5
          · exact u6)
        simp only [List.map_cons, List.map_nil] at c3
        refine ACall.intro c3 ?_
        rintro v Ke ⟨rfl, hV⟩
        have p3 := numsB_len [f.tok, f.wk]
        simp only [List.length_cons, List.length_nil] at p3
        simp -implicitDefEqProofs [r4, hV.cell x1]
        have c4 := c_wWhole hV [f.til] .full (by simp) (by rw [List.length_append, List.length_append, List.length_append]; omega) (by simpa using zig_inv u7)
        simp only [List.map_cons, List.map_nil] at c4
        refine ACall.intro c4 ?_
        rintro v Kf ⟨rfl, hW⟩
        have hU := hW.unbox h60
        have eq : q ++ numsB [f.job] ++ numsB [zig f.at_, zig f.st, zig f.att] ++ numsB [f.tok, f.wk] ++ numsB [zig f.til] = q ++ numsB (frN f) := by simp [numsB, frN]
        rw [eq] at hU
        simp -implicitDefEqProofs [r82, r1, r4, r80, r81, hw1]
        exact AGo.again ih (m' := p.fires.length - (i + 1)) (by omega) (HLe.refl _) ⟨i + 1, _, rfl, by omega, by rw [flat_take hf, ← List.append_assoc, hq], by simp, by simp [r1], by simp [r4], by simp [r80], by simp [r81], hU⟩
      · have hn : ¬ (i : Int) < (p.fires.length : Int) := by omega
        simp -implicitDefEqProofs [r82, r1, r4, r80, r81, hn]
        rw [List.take_of_length_le (by omega)] at hq
        exact hk _ _ ⟨by simp [r1], by simp [r4], by rw [hq]; exact hB⟩
    clear r1 r4 hB hB4 hw3
    rintro ρ K ⟨r1, r4, hB⟩
    have hfl := hFl p.fires.length
    rw [List.take_of_length_le (Nat.le_refl _)] at hfl
    obtain ⟨q3, hq3⟩ : ∃ q, (q2 ++ p.fires.flatMap fun f => numsB (frN f)) = q := ⟨_, rfl⟩
    have lq3 : q3.length ≤ 450010 := by rw [← hq3, List.length_append]; omega
    rw [hq3] at hB
    simp -implicitDefEqProofs [r1, r4, hB.cell k1, wt]
    have hw3 := c_wNum hB [p.talks.length] .full (by simp) (by omega) (by simpa using (by omega : p.talks.length < 18446744073709551616))
    simp only [List.map_cons, List.map_nil] at hw3
    refine ACall.intro hw3 ?_
    rintro v K4 ⟨rfl, hB4⟩
    have l4 := numsB_len [p.talks.length]
    simp only [List.length_cons, List.length_nil] at l4
    obtain ⟨q4, hq4⟩ : ∃ q, q3 ++ numsB [p.talks.length] = q := ⟨_, rfl⟩
    have lq4 : q4.length ≤ 450020 := by rw [← hq4, List.length_append]; omega
    rw [hq4] at hB4
    simp -implicitDefEqProofs [r1, r4, hB4.cell k1]
    refine AGo.joinLoop (fun ρ K => ρ 4 = .sc (.pointer (some ⟨pw, 0, none⟩)) ∧ BufAt 5 96 K0 pw (u8s (q4 ++ p.talks.flatMap fun f => numsB (tlN f))) K) (fun k' hk => ?_) ?_
    · refine AGo.rounds (fun m ρ K => ∃ i q, m = p.talks.length - i ∧ i ≤ p.talks.length ∧ q4 ++ ((p.talks.take i).flatMap fun f => numsB (tlN f)) = q ∧ ρ 123 = .sc (.int .i64 (i : Int)) ∧ ρ 4 = .sc (.pointer (some ⟨pw, 0, none⟩)) ∧ ρ 121 = .sl (tlsAV p.talks) tt ∧ ρ 122 = .sc (.int .i64 (p.talks.length : Int)) ∧ BufAt 5 96 K0 pw (u8s q) K) ?_ (m := p.talks.length) (HLe.refl _)
        ⟨0, q4, rfl, by omega, by simp, by simp, by simp [r4], by simp, by simp, hB4⟩
      rintro m ρ K ih ⟨i, q, rfl, hi, hq, r123, r4, r121, r122, hB⟩
      rcases Nat.lt_or_ge i p.talks.length with hlt | hge
      · obtain ⟨f, hej, hf⟩ := getAt hlt
        have hlt' : (i : Int) < (p.talks.length : Int) := by omega
        have hw1 : IntKind.i64.wrap ((i : Int) + 1) = (i : Int) + 1 := wrap_i64 (by omega) (by omega)
        have hfn := ho.talks f (List.mem_of_getElem? hf)
        simp only [tlN, List.mem_cons, List.not_mem_nil, or_false, forall_eq_or_imp, forall_eq] at hfn
        obtain ⟨u1, u2, u3, u4⟩ := hfn
        have hql : q.length ≤ 450020 + 2560 := by
          have := hTl i
          rw [← hq, List.length_append]
          omega
        simp -implicitDefEqProofs [r123, r4, r121, r122, hlt, hlt', hej, hz4]
        refine AAlloc.intro fun b6 h6 => ?_
        have h60 : K0 b6 = none := hB.le.none h6
        have hX := hB.box h6 (o := .cells (tlC f) 104)
        have x1 : (K0.set b6 (.cells (tlC f) 104)) b6 = some (.cells (tlC f) 104) := by simp [Heap.set]
        simp -implicitDefEqProofs [r4]
        generalize K.set b6 _ = Kb at *
        have c1 := c_wNum hX [f.cl, f.sq] .full (by simp) (by omega) (by
          simp only [List.mem_cons, List.not_mem_nil, or_false]
          rintro n (rfl | rfl)
          · exact u1
          · exact u2)
        simp only [List.map_cons, List.map_nil] at c1
        refine ACall.intro c1 ?_
        rintro v Kc ⟨rfl, hY⟩
        have p1 := numsB_len [f.cl, f.sq]
        simp only [List.length_cons, List.length_nil] at p1
        simp -implicitDefEqProofs [r4, hY.cell x1]
        have c2 := c_wWhole hY [f.e] .full (by simp) (by rw [List.length_append]; omega) (by simpa using zig_inv u3)
        simp only [List.map_cons, List.map_nil] at c2
        refine ACall.intro c2 ?_
        rintro v Kd ⟨rfl, hZ⟩
        have p2 := numsB_len [zig f.e]
        simp only [List.length_cons, List.length_nil] at p2
        simp -implicitDefEqProofs [r4, hZ.cell x1]
        have c3 := c_wNum hZ [f.n] .full (by simp) (by rw [List.length_append, List.length_append]; omega) (by simpa using u4)
        simp only [List.map_cons, List.map_nil] at c3
        refine ACall.intro c3 ?_
        rintro v Ke ⟨rfl, hV⟩
        have hU := hV.unbox h60
        have eq : q ++ numsB [f.cl, f.sq] ++ numsB [zig f.e] ++ numsB [f.n] = q ++ numsB (tlN f) := by simp [numsB, tlN]
        rw [eq] at hU
        simp -implicitDefEqProofs [r123, r4, r121, r122, hw1]
        exact AGo.again ih (m' := p.talks.length - (i + 1)) (by omega) (HLe.refl _) ⟨i + 1, _, rfl, by omega, by rw [flat_take hf, ← List.append_assoc, hq], by simp, by simp [r4], by simp [r121], by simp [r122], hU⟩
      · have hn : ¬ (i : Int) < (p.talks.length : Int) := by omega
        simp -implicitDefEqProofs [r123, r4, r121, r122, hn]
        rw [List.take_of_length_le (by omega)] at hq
        exact hk _ _ ⟨by simp [r4], by rw [hq]; exact hB⟩
    clear r4 hB hB4 hw3
    rintro ρ K ⟨r4, hB⟩
    have hfin : (q4 ++ p.talks.flatMap fun f => numsB (tlN f)) = putI p := by
      rw [← hq4, ← hq3, ← hq2, ← hq1, ← hq0]
      simp only [putI, List.append_assoc]
    rw [hfin] at hB
    obtain ⟨t1, G0, G, hc, hg, hl, hl0, hc0⟩ := hB.grows
    simp -implicitDefEqProofs [r4, hc]
    exact (kW.trans hB.le).wk
end Go.Proofs.YtghlkjkdejebnaaGreatDoor
namespace Go.Proofs.YtghlkjkdejebnaaGreatDoor
open Rg Go
variable {H : Heap}
theorem Gr.box {e : TypeId} {sz : Nat} {H0 K : Heap} {xs : List AV} {t : Rg.Tok} {b : Nat} {o : AObj} (h : Gr e sz H0 xs t K) (hb : K b = none) : Gr e sz (H0.set b o) xs t (K.set b o) := by
  rcases h with ⟨h1, rfl⟩ | ⟨g, cap, h1, h2, rfl⟩
  · exact .inl ⟨h1, rfl⟩
  · have hgb : g ≠ b := by rintro rfl; simp [Heap.set] at hb
    refine .inr ⟨g, cap, by simp [Heap.set, hgb, h1], h2, ?_⟩
    funext q
    by_cases hq : q = b
    · subst hq; simp [Heap.set, Ne.symm hgb]
    · by_cases hqg : q = g
      · subst hqg; simp [Heap.set, hq]
      · simp [Heap.set, hq, hqg]
theorem c_ref21num {H0 K Kx : Heap} {bs : List UInt8} {t : Rg.Tok} (hg : Gr 5 1 H0 (u8s bs) t K) (hx : HLe K Kx) (hl : bs.length ≤ 1000000) (n : Nat) (hn : n < 18446744073709551616) :
    ACalls Tryz.prog 65 [.sl (u8s bs) t, .sc (.int .u64 (n : Int))] Kx (fun v K' => ∃ t', v = .sl (u8s (bs ++ putB n)) t' ∧ Gr 5 1 H0 (u8s (bs ++ putB n)) t' K') := by
  generalize hR : (fun (v : AV) (K' : Heap) => ∃ t', v = .sl (u8s (bs ++ putB n)) t' ∧ Gr 5 1 H0 (u8s (bs ++ putB n)) t' K') = R
  refine ACalls.into Tryz.func65 rfl Tryz.ntmps65 Tryz.results65 (by simp) ?_
  simp -implicitDefEqProofs
  refine ACall.intro (c_ref1PutG n hn) ?_
  rintro v K1 ⟨t1, rfl, hg1⟩
  have hpl := putB_len n
  simp -implicitDefEqProofs
  refine AApp.gr el_28 hg (hx.trans hg1.le) (szs_u8s _) (szs_u8s _) (by simp only [List.length_map]; omega) (by simp only [List.length_map, maxLen]; omega) fun t' K' Hn hg' hl' => ?_
  rw [← u8s_app] at hg' ⊢
  simp -implicitDefEqProofs
  subst hR
  exact AFin.intro _ _ (wk_refl _) hl'.wk ⟨t', by simp, hg'⟩
theorem c_ref21whole {H0 K Kx : Heap} {bs : List UInt8} {t : Rg.Tok} (hg : Gr 5 1 H0 (u8s bs) t K) (hx : HLe K Kx) (hl : bs.length ≤ 1000000) (n : Int) (hn : zig n < 18446744073709551616) :
    ACalls Tryz.prog 66 [.sl (u8s bs) t, .sc (.int .i64 n)] Kx (fun v K' => ∃ t', v = .sl (u8s (bs ++ putB (zig n))) t' ∧ Gr 5 1 H0 (u8s (bs ++ putB (zig n))) t' K') := by
  generalize hR : (fun (v : AV) (K' : Heap) => ∃ t', v = .sl (u8s (bs ++ putB (zig n))) t' ∧ Gr 5 1 H0 (u8s (bs ++ putB (zig n))) t' K') = R
  have hz := zig_inv hn
  refine ACalls.into Tryz.func66 rfl Tryz.ntmps66 Tryz.results66 (by simp) ?_
  simp -implicitDefEqProofs
  refine ACall.intro (c_ref1PutInt n hz.1 hz.2) ?_
  rintro v K1 ⟨t1, rfl, hg1⟩
  have hpl := putB_len (zig n)
  simp -implicitDefEqProofs
  refine AApp.gr el_28 hg (hx.trans hg1.le) (szs_u8s _) (szs_u8s _) (by simp only [List.length_map]; omega) (by simp only [List.length_map, maxLen]; omega) fun t' K' Hn hg' hl' => ?_
  rw [← u8s_app] at hg' ⊢
  simp -implicitDefEqProofs
  subst hR
  exact AFin.intro _ _ (wk_refl _) hl'.wk ⟨t', by simp, hg'⟩
set_option maxHeartbeats 4000000 in
theorem c_ref21Put (p : Pt) (tj tf tt : Rg.Tok) (ho : PtOk p) : AOk Tryz.prog 21 [.agg (ptC p tj tf tt)] H (.tup [.sl (u8s (putIR p)) .no, .sc (.int .i64 (mayI p))]) H := by
  refine ACalls.into Tryz.func21 rfl Tryz.ntmps21 Tryz.results21 (by simp) ?_
  simp -implicitDefEqProofs
  refine AAlloc.intro fun b1 h1 => ?_
  simp -implicitDefEqProofs
  generalize hK : Heap.set _ b1 _ = K0
  have k1 : K0 b1 = some (.cells (ptC p tj tf tt) 44) := by rw [← hK]; simp [Heap.set]
  have kW : HLe H K0 := by rw [← hK]; exact HLe.set_fresh h1
  clear hK
  have long : 64 < p.jobs.length ∨ 2000 < p.fires.length ∨ 64 < p.talks.length → putIR p = [] ∧ mayI p = 3 := fun h => by
    have : mayI p = 3 := by unfold mayI; rw [if_pos h]
    exact ⟨by unfold putIR; rw [if_neg (by omega)], this⟩
  by_cases c1 : 64 < p.jobs.length
  · have c1' : (64 : Int) < (p.jobs.length : Int) := by omega
    rw [(long (.inl c1)).1, (long (.inl c1)).2]
    simp -implicitDefEqProofs [k1, c1, c1', kW.wk]
  have c1' : ¬ (64 : Int) < (p.jobs.length : Int) := by omega
  by_cases c2 : 2000 < p.fires.length
  · have c2' : (2000 : Int) < (p.fires.length : Int) := by omega
    rw [(long (.inr (.inl c2))).1, (long (.inr (.inl c2))).2]
    simp -implicitDefEqProofs [k1, c1, c1', c2, c2', kW.wk]
  have c2' : ¬ (2000 : Int) < (p.fires.length : Int) := by omega
  by_cases c3 : 64 < p.talks.length
  · have c3' : (64 : Int) < (p.talks.length : Int) := by omega
    rw [(long (.inr (.inr c3))).1, (long (.inr (.inr c3))).2]
    simp -implicitDefEqProofs [k1, c1, c1', c2, c2', c3, c3', kW.wk]
  have c3' : ¬ (64 : Int) < (p.talks.length : Int) := by omega
  clear long
  have wl : IntKind.u64.wrap (p.jobs.length : Int) = (p.jobs.length : Int) := wrap_u64 (by omega) (by omega)
  have wf : IntKind.u64.wrap (p.fires.length : Int) = (p.fires.length : Int) := wrap_u64 (by omega) (by omega)
  have wt : IntKind.u64.wrap (p.talks.length : Int) = (p.talks.length : Int) := wrap_u64 (by omega) (by omega)
  have hz12 := szs_jbs p.jobs
  have hz7 := szs_frs p.fires
  have hz4 := szs_tls p.talks
  have hJl : (∀ j ∈ p.jobs, mayJ j = 0) → ∀ i, ((p.jobs.take i).flatMap putJ).length ≤ 4500 * 64 := fun hall i => flat_takeLen (fun x hx => putJ_len (ho.jobs x hx).1 (hall x hx) (ho.jobs x hx).2) i (by omega)
  have hFl : ∀ i, ((p.fires.take i).flatMap fun f => numsB (frN f)).length ≤ 70 * 2000 := fun i => flat_takeLen (fun x _ => by have := numsB_len (frN x); simp only [frN, List.length_cons, List.length_nil] at this; exact this) i (by omega)
  have hTl : ∀ i, ((p.talks.take i).flatMap fun f => numsB (tlN f)).length ≤ 40 * 64 := fun i => flat_takeLen (fun x _ => by have := numsB_len (tlN x); simp only [tlN, List.length_cons, List.length_nil] at this; exact this) i (by omega)
  simp -implicitDefEqProofs [k1, c1, c1', c2, c2', c3, c3']
  refine go_draw3 [0, 1, 3, 4, 6, 7, 9, 10, 11, 12] K0 f_mixed (by decide +kernel) (HC.refl _) ?_
  simp -implicitDefEqProofs
  refine aq3_op ?_
  simp -implicitDefEqProofs [k1, wl]
  refine aq3_op ?_
  simp -implicitDefEqProofs [k1, wl]
  refine aq3_op ?_
  simp -implicitDefEqProofs [k1, wl]
  refine aq3_op ?_
  simp -implicitDefEqProofs [k1, wl]
  refine aq3_op ?_
  simp -implicitDefEqProofs [k1, wl]
  refine aq3_op ?_
  simp -implicitDefEqProofs [k1, wl]
  refine aq3_op ?_
  simp -implicitDefEqProofs [k1, wl]
  refine aq3_op ?_
  simp -implicitDefEqProofs [k1, wl]
  refine aq3_op ?_
  simp -implicitDefEqProofs [k1, wl]
  refine aq3_op ?_
  simp -implicitDefEqProofs [k1, wl]
  refine AWK.one 2 (by decide +kernel) ?_
  refine AWE.op rfl ?_
  simp -implicitDefEqProofs [k1, wl]
  refine ⟨_, c_ref21whole (bs := []) .nil (HLe.refl _) (by simp) p.now ho.now, ?_⟩
  rintro v Ka1 ⟨ta1, rfl, ga1⟩
  refine ⟨HLe.hc ga1.le, ?_⟩
  obtain ⟨qa1, hqa1⟩ : ∃ zz, ([] : List UInt8) ++ putB (zig p.now) = zz := ⟨_, rfl⟩
  have la1 : qa1.length ≤ 0+10 := by have := putB_len (zig p.now); rw [← hqa1, List.length_append]; simp only [List.length_nil]; omega
  rw [hqa1] at ga1 ⊢
  refine AWK.one 5 (by decide +kernel) ?_
  refine AWE.op rfl ?_
  simp -implicitDefEqProofs [k1, wl]
  refine ⟨_, c_ref21num ga1 (HLe.refl _) (by omega) p.tokens ho.tokens, ?_⟩
  rintro v Ka2 ⟨ta2, rfl, ga2⟩
  refine ⟨HLe.hc ga2.le, ?_⟩
  obtain ⟨qa2, hqa2⟩ : ∃ zz, qa1 ++ putB p.tokens = zz := ⟨_, rfl⟩
  have la2 : qa2.length ≤ 0+10+10 := by have := putB_len p.tokens; rw [← hqa2, List.length_append]; omega
  rw [hqa2] at ga2 ⊢
  refine AWK.one 8 (by decide +kernel) ?_
  refine AWE.op rfl ?_
  simp -implicitDefEqProofs [k1, wl]
  refine ⟨_, c_ref21num ga2 (HLe.refl _) (by omega) p.last ho.last, ?_⟩
  rintro v Ka3 ⟨ta3, rfl, ga3⟩
  refine ⟨HLe.hc ga3.le, ?_⟩
  obtain ⟨qa3, hqa3⟩ : ∃ zz, qa2 ++ putB p.last = zz := ⟨_, rfl⟩
  have la3 : qa3.length ≤ 0+10+10+10 := by have := putB_len p.last; rw [← hqa3, List.length_append]; omega
  rw [hqa3] at ga3 ⊢
  refine AWK.one 13 (by decide +kernel) ?_
  refine AWE.op rfl ?_
  simp -implicitDefEqProofs [k1, wl]
  refine ⟨_, c_ref21num ga3 (HLe.refl _) (by omega) p.jobs.length (by omega), ?_⟩
  rintro v Ka4 ⟨ta4, rfl, ga4⟩
  refine ⟨HLe.hc ga4.le, ?_⟩
  obtain ⟨qa4, hqa4⟩ : ∃ zz, qa3 ++ putB p.jobs.length = zz := ⟨_, rfl⟩
  have la4 : qa4.length ≤ 0+10+10+10+10 := by have := putB_len p.jobs.length; rw [← hqa4, List.length_append]; omega
  rw [hqa4] at ga4 ⊢
  refine AWK.one 14 (by decide +kernel) ?_
  refine AWE.op rfl ?_
  simp -implicitDefEqProofs
  refine AWK.fin (by decide +kernel) ?_
  obtain ⟨q0, hq0⟩ : ∃ q, qa4 = q := ⟨_, rfl⟩
  have e0 : q0 = numsB [zig p.now, p.tokens, p.last, p.jobs.length] := by rw [← hq0, ← hqa4, ← hqa3, ← hqa2, ← hqa1]; simp [numsB]
  have lq0 : q0.length ≤ 40 := by rw [← hq0]; omega
  rw [hq0] at ga4
  rw [hq0]
  have kq := ga4.le b1 _ k1
  simp -implicitDefEqProofs [kq]
  refine AGo.joinLoop (fun ρ K => ∃ t q K', (∀ j ∈ p.jobs, mayJ j = 0) ∧ q = q0 ++ p.jobs.flatMap putJ ∧ ρ 1 = .sc (.pointer (some ⟨b1, 0, none⟩)) ∧ ρ 4 = .sl (u8s q) t ∧ Gr 5 1 K0 (u8s q) t K' ∧ HLe K' K) (fun k' hk => ?_) ?_
  · refine AGo.rounds (fun m ρ K => ∃ i t q K', m = p.jobs.length - i ∧ i ≤ p.jobs.length ∧ (∀ j ∈ p.jobs.take i, mayJ j = 0) ∧ q0 ++ (p.jobs.take i).flatMap putJ = q ∧ ρ 5 = .sc (.int .i64 (i : Int)) ∧ ρ 1 = .sc (.pointer (some ⟨b1, 0, none⟩)) ∧ ρ 4 = .sl (u8s q) t ∧ Gr 5 1 K0 (u8s q) t K' ∧ HLe K' K) ?_ (m := p.jobs.length) (HLe.refl _)
      ⟨0, ta4, q0, Ka4, rfl, by omega, by simp, by simp, by simp, by simp, by simp, ga4, HLe.refl _⟩
    rintro m ρ K ih ⟨i, t, q, K', rfl, hi, hall, hq, r5, r1, r4, hg, hl⟩
    have kk : K b1 = some (.cells (ptC p tj tf tt) 44) := hl _ _ (hg.le _ _ k1)
    rcases Nat.lt_or_ge i p.jobs.length with hlt | hge
    · obtain ⟨j, hej, hj⟩ := getAt hlt
      have hlt' : (i : Int) < (p.jobs.length : Int) := by omega
      have hw1 : IntKind.i64.wrap ((i : Int) + 1) = (i : Int) + 1 := wrap_i64 (by omega) (by omega)
      have hjm := List.mem_of_getElem? hj
      simp -implicitDefEqProofs [r5, r1, r4, kk, hlt, hlt', hej, hz12]
      by_cases hm : mayJ j = 0
      · refine ACall.eq (c_ref14PutOk j .no (ho.jobs j hjm).1 hm (ho.jobs j hjm).2) ?_
        have hpj := putJ_len (ho.jobs j hjm).1 hm (ho.jobs j hjm).2
        have hql : q.length ≤ 40 + 4500 * 64 := by
          have := flat_len (l := p.jobs.take i) (f := putJ) (n := 4500) fun x hx => putJ_len (ho.jobs x (List.mem_of_mem_take hx)).1 (hall x hx) (ho.jobs x (List.mem_of_mem_take hx)).2
          rw [List.length_take] at this
          rw [← hq, List.length_append]
          have : 4500 * min i p.jobs.length ≤ 4500 * 64 := Nat.mul_le_mul_left _ (by omega)
          omega
        simp -implicitDefEqProofs [r4]
        refine AApp.gr el_28 hg hl (szs_u8s _) (szs_u8s _) (by simp only [List.length_map]; omega) (by simp only [List.length_map, maxLen]; omega) fun t2 K2 Hn hg2 hl2 => ?_
        rw [← u8s_app] at hg2 ⊢
        obtain ⟨q2, hq2⟩ : ∃ q2, q ++ putJ j = q2 := ⟨_, rfl⟩
        rw [hq2] at hg2 ⊢
        simp -implicitDefEqProofs [r5, r1, hw1]
        exact AGo.again ih (m' := p.jobs.length - (i + 1)) (by omega) (HLe.refl _) ⟨i + 1, t2, q2, K2, rfl, by omega, take_all hall hj hm, by rw [flat_take hj, ← List.append_assoc, hq, hq2], by simp, by simp [r1], by simp, hg2, hl2⟩
      · have hz := (ho.jobs j hjm).2
        refine ACall.eq (c_ref14PutNo j .no hm (by omega)) ?_
        have he : mayI p = mayJ j := mayI_first (by omega) (by omega) (by omega) hall hj hm
        have he2 : putIR p = [] := by unfold putIR; rw [if_neg (by rw [he]; exact hm)]
        rw [he, he2]
        simp -implicitDefEqProofs [hm]
        exact (kW.trans (hg.le.trans hl)).wk
    · have hn : ¬ (i : Int) < (p.jobs.length : Int) := by omega
      simp -implicitDefEqProofs [r5, r1, r4, kk, hn]
      rw [List.take_of_length_le (by omega)] at hall hq
      exact hk _ _ ⟨t, q, K', hall, hq.symm, by simp [r1], by simp [r4], hg, hl⟩
  · rintro ρ K ⟨t, q1, K', hall, hq1, r1, r4, hg, hl⟩
    have hmI : mayI p = 0 := mayI_of (by omega) (by omega) (by omega) hall
    have hpI : putIR p = putI p := by unfold putIR; rw [if_pos hmI]
    rw [hmI, hpI]
    have kk : K b1 = some (.cells (ptC p tj tf tt) 44) := hl _ _ (hg.le _ _ k1)
    have hjl := hJl hall p.jobs.length
    rw [List.take_of_length_le (Nat.le_refl _)] at hjl
    have lq1 : q1.length ≤ 300000 := by rw [hq1, List.length_append]; omega
    simp -implicitDefEqProofs [r1, r4, kk, wf]
    refine ACall.intro (c_ref21num hg hl (by omega) p.fires.length (by omega)) ?_
    rintro v K4 ⟨t4, rfl, hg4⟩
    have l4 := putB_len p.fires.length
    obtain ⟨q2, hq2⟩ : ∃ q, q1 ++ putB p.fires.length = q := ⟨_, rfl⟩
    have lq2 : q2.length ≤ 300010 := by rw [← hq2, List.length_append]; omega
    rw [hq2] at hg4 ⊢
    simp -implicitDefEqProofs [r1]
    refine AGo.joinLoop (fun ρ K => ∃ t q K', q = (q2 ++ p.fires.flatMap fun f => numsB (frN f)) ∧ ρ 1 = .sc (.pointer (some ⟨b1, 0, none⟩)) ∧ ρ 4 = .sl (u8s q) t ∧ Gr 5 1 K0 (u8s q) t K' ∧ HLe K' K) (fun k' hk => ?_) ?_
    · refine AGo.rounds (fun m ρ K => ∃ i t q K', m = p.fires.length - i ∧ i ≤ p.fires.length ∧ q2 ++ ((p.fires.take i).flatMap fun f => numsB (frN f)) = q ∧ ρ 8 = .sc (.int .i64 (i : Int)) ∧ ρ 1 = .sc (.pointer (some ⟨b1, 0, none⟩)) ∧ ρ 4 = .sl (u8s q) t ∧ Gr 5 1 K0 (u8s q) t K' ∧ HLe K' K) ?_ (m := p.fires.length) (HLe.refl _)
        ⟨0, t4, q2, K4, rfl, by omega, by simp, by simp, by simp [r1], by simp, hg4, HLe.refl _⟩
      clear hg hl kk r1 r4
      rintro m ρ K ih ⟨i, t, q, K', rfl, hi, hq, r8, r1, r4, hg, hl⟩
      have kk : K b1 = some (.cells (ptC p tj tf tt) 44) := hl _ _ (hg.le _ _ k1)
      rcases Nat.lt_or_ge i p.fires.length with hlt | hge
      · obtain ⟨f, hej, hf⟩ := getAt hlt
        have hlt' : (i : Int) < (p.fires.length : Int) := by omega
        have hw1 : IntKind.i64.wrap ((i : Int) + 1) = (i : Int) + 1 := wrap_i64 (by omega) (by omega)
        have hfn := ho.fires f (List.mem_of_getElem? hf)
        simp only [frN, List.mem_cons, List.not_mem_nil, or_false, forall_eq_or_imp, forall_eq] at hfn
        obtain ⟨u1, u2, u3, u4, u5, u6, u7⟩ := hfn
        have hql : q.length ≤ 300010 + 140000 := by
          have := hFl i
          rw [← hq, List.length_append]
          omega
        simp -implicitDefEqProofs [r8, r1, r4, kk, hlt, hlt', hej, hz7]
        refine AAlloc.intro fun b6 h6 => ?_
        have h6' : K' b6 = none := hl.none h6
        have hX := hg.box h6' (o := .cells (frC f) 100)
        have hXl : HLe (K'.set b6 (.cells (frC f) 100)) (K.set b6 (.cells (frC f) 100)) := hl.set_mono
        have h60 : K0 b6 = none := hg.le.none h6'
        have x1 : (K0.set b6 (.cells (frC f) 100)) b6 = some (.cells (frC f) 100) := by simp [Heap.set]
        have xl : HLe K0 (K0.set b6 (.cells (frC f) 100)) := HLe.set_fresh h60
        simp -implicitDefEqProofs [r4]
        generalize K.set b6 _ = Kb at *
        generalize K'.set b6 _ = Kb' at *
        generalize K0.set b6 _ = B0 at *
        refine go_draw3 [0, 1, 2, 4, 5, 7, 8, 10, 11] B0 f_mixed (by decide +kernel) (HLe.hc (hX.le.trans hXl)) ?_
        simp -implicitDefEqProofs
        refine aq3_op ?_
        simp -implicitDefEqProofs [x1, r4]
        refine aq3_op ?_
        simp -implicitDefEqProofs [x1, r4]
        refine aq3_op ?_
        simp -implicitDefEqProofs [x1, r4]
        refine aq3_op ?_
        simp -implicitDefEqProofs [x1, r4]
        refine aq3_op ?_
        simp -implicitDefEqProofs [x1, r4]
        refine aq3_op ?_
        simp -implicitDefEqProofs [x1, r4]
        refine aq3_op ?_
        simp -implicitDefEqProofs [x1, r4]
        refine aq3_op ?_
        simp -implicitDefEqProofs [x1, r4]
        refine aq3_op ?_
        simp -implicitDefEqProofs [x1, r4]
        refine AWK.one 3 (by decide +kernel) ?_
        refine AWE.op rfl ?_
        simp -implicitDefEqProofs [x1, r4]
        refine ⟨_, c_ref21num hX hXl (by omega) f.job u1, ?_⟩
        rintro v Ka5 ⟨ta5, rfl, ga5⟩
        refine ⟨HLe.hc ga5.le, ?_⟩
        obtain ⟨qa5, hqa5⟩ : ∃ zz, q ++ putB f.job = zz := ⟨_, rfl⟩
        have la5 : qa5.length ≤ 450010+10 := by have := putB_len f.job; rw [← hqa5, List.length_append]; omega
        rw [hqa5] at ga5 ⊢
        refine AWK.one 6 (by decide +kernel) ?_
        refine AWE.op rfl ?_
        simp -implicitDefEqProofs [x1, r4]
        refine ⟨_, c_ref21whole ga5 (HLe.refl _) (by omega) f.at_ u2, ?_⟩
        rintro v Ka6 ⟨ta6, rfl, ga6⟩
        refine ⟨HLe.hc ga6.le, ?_⟩
        obtain ⟨qa6, hqa6⟩ : ∃ zz, qa5 ++ putB (zig f.at_) = zz := ⟨_, rfl⟩
        have la6 : qa6.length ≤ 450010+10+10 := by have := putB_len (zig f.at_); rw [← hqa6, List.length_append]; omega
        rw [hqa6] at ga6 ⊢
        refine AWK.one 9 (by decide +kernel) ?_
        refine AWE.op rfl ?_
        simp -implicitDefEqProofs [x1, r4]
        refine ⟨_, c_ref21whole ga6 (HLe.refl _) (by omega) f.st u3, ?_⟩
        rintro v Ka7 ⟨ta7, rfl, ga7⟩
        refine ⟨HLe.hc ga7.le, ?_⟩
        obtain ⟨qa7, hqa7⟩ : ∃ zz, qa6 ++ putB (zig f.st) = zz := ⟨_, rfl⟩
        have la7 : qa7.length ≤ 450010+10+10+10 := by have := putB_len (zig f.st); rw [← hqa7, List.length_append]; omega
        rw [hqa7] at ga7 ⊢
        refine AWK.one 12 (by decide +kernel) ?_
        refine AWE.op rfl ?_
        simp -implicitDefEqProofs [x1, r4]
        refine ⟨_, c_ref21whole ga7 (HLe.refl _) (by omega) f.att u4, ?_⟩
        rintro v Ka8 ⟨ta8, rfl, ga8⟩
        refine ⟨HLe.hc ga8.le, ?_⟩
        obtain ⟨qa8, hqa8⟩ : ∃ zz, qa7 ++ putB (zig f.att) = zz := ⟨_, rfl⟩
        have la8 : qa8.length ≤ 450010+10+10+10+10 := by have := putB_len (zig f.att); rw [← hqa8, List.length_append]; omega
        rw [hqa8] at ga8 ⊢
        refine AWK.one 13 (by decide +kernel) ?_
        refine AWE.op rfl ?_
        simp -implicitDefEqProofs
        refine AWK.fin (by decide +kernel) ?_
        refine go_draw3 [0, 1, 2, 4, 5, 7, 8] B0 f_mixed (by decide +kernel) (HLe.hc ga8.le) ?_
        simp -implicitDefEqProofs
        refine aq3_op ?_
        simp -implicitDefEqProofs [x1]
        refine aq3_op ?_
        simp -implicitDefEqProofs [x1]
        refine aq3_op ?_
        simp -implicitDefEqProofs [x1]
        refine aq3_op ?_
        simp -implicitDefEqProofs [x1]
        refine aq3_op ?_
        simp -implicitDefEqProofs [x1]
        refine aq3_op ?_
        simp -implicitDefEqProofs [x1]
        refine aq3_op ?_
        simp -implicitDefEqProofs [x1]
        refine AWK.one 3 (by decide +kernel) ?_
        refine AWE.op rfl ?_
        simp -implicitDefEqProofs [x1]
        refine ⟨_, c_ref21num ga8 (HLe.refl _) (by omega) f.tok u5, ?_⟩
        rintro v Ka9 ⟨ta9, rfl, ga9⟩
        refine ⟨HLe.hc ga9.le, ?_⟩
        obtain ⟨qa9, hqa9⟩ : ∃ zz, qa8 ++ putB f.tok = zz := ⟨_, rfl⟩
        have la9 : qa9.length ≤ 450010+10+10+10+10+10 := by have := putB_len f.tok; rw [← hqa9, List.length_append]; omega
        rw [hqa9] at ga9 ⊢
        refine AWK.one 6 (by decide +kernel) ?_
        refine AWE.op rfl ?_
        simp -implicitDefEqProofs [x1]
        refine ⟨_, c_ref21num ga9 (HLe.refl _) (by omega) f.wk u6, ?_⟩
        rintro v Ka10 ⟨ta10, rfl, ga10⟩
        refine ⟨HLe.hc ga10.le, ?_⟩
        obtain ⟨qa10, hqa10⟩ : ∃ zz, qa9 ++ putB f.wk = zz := ⟨_, rfl⟩
        have la10 : qa10.length ≤ 450010+10+10+10+10+10+10 := by have := putB_len f.wk; rw [← hqa10, List.length_append]; omega
        rw [hqa10] at ga10 ⊢
        refine AWK.one 9 (by decide +kernel) ?_
        refine AWE.op rfl ?_
        simp -implicitDefEqProofs [x1]
        refine ⟨_, c_ref21whole ga10 (HLe.refl _) (by omega) f.til u7, ?_⟩
        rintro v Ka11 ⟨ta11, rfl, ga11⟩
        refine ⟨HLe.hc ga11.le, ?_⟩
        obtain ⟨qa11, hqa11⟩ : ∃ zz, qa10 ++ putB (zig f.til) = zz := ⟨_, rfl⟩
        have la11 : qa11.length ≤ 450010+10+10+10+10+10+10+10 := by have := putB_len (zig f.til); rw [← hqa11, List.length_append]; omega
        rw [hqa11] at ga11 ⊢
        refine AWK.one 10 (by decide +kernel) ?_
        refine AWE.op rfl ?_
        simp -implicitDefEqProofs
        refine AWK.fin (by decide +kernel) ?_
        obtain ⟨Kz, gz, lz⟩ := ga11.base xl
        have eq : qa11 = q ++ numsB (frN f) := by
          rw [← hqa11, ← hqa10, ← hqa9, ← hqa8, ← hqa7, ← hqa6, ← hqa5]
          simp [numsB, frN]
        simp -implicitDefEqProofs [r8, r1, hw1]
        exact AGo.again ih (m' := p.fires.length - (i + 1)) (by omega) (HLe.refl _) ⟨i + 1, ta11, qa11, Kz, rfl, by omega, by rw [flat_take hf, ← List.append_assoc, hq, eq], by simp, by simp [r1], by simp, gz, lz⟩
      · have hn : ¬ (i : Int) < (p.fires.length : Int) := by omega
        simp -implicitDefEqProofs [r8, r1, r4, kk, hn]
        rw [List.take_of_length_le (by omega)] at hq
        exact hk _ _ ⟨t, q, K', hq.symm, by simp [r1], by simp [r4], hg, hl⟩
    clear hg hl kk r1 r4 hg4
    rintro ρ K ⟨t, q3, K', hq3, r1, r4, hg, hl⟩
    have kk : K b1 = some (.cells (ptC p tj tf tt) 44) := hl _ _ (hg.le _ _ k1)
    have hfl := hFl p.fires.length
    rw [List.take_of_length_le (Nat.le_refl _)] at hfl
    have lq3 : q3.length ≤ 450010 := by rw [hq3, List.length_append]; omega
    simp -implicitDefEqProofs [r1, r4, kk, wt]
    refine ACall.intro (c_ref21num hg hl (by omega) p.talks.length (by omega)) ?_
    rintro v K4 ⟨t4, rfl, hg4⟩
    have l5 := putB_len p.talks.length
    obtain ⟨q4, hq4⟩ : ∃ q, q3 ++ putB p.talks.length = q := ⟨_, rfl⟩
    have lq4 : q4.length ≤ 450020 := by rw [← hq4, List.length_append]; omega
    rw [hq4] at hg4 ⊢
    simp -implicitDefEqProofs [r1]
    refine AGo.joinLoop (fun ρ K => ∃ t q K', q = (q4 ++ p.talks.flatMap fun f => numsB (tlN f)) ∧ ρ 4 = .sl (u8s q) t ∧ Gr 5 1 K0 (u8s q) t K' ∧ HLe K' K) (fun k' hk => ?_) ?_
    · refine AGo.rounds (fun m ρ K => ∃ i t q K', m = p.talks.length - i ∧ i ≤ p.talks.length ∧ q4 ++ ((p.talks.take i).flatMap fun f => numsB (tlN f)) = q ∧ ρ 10 = .sc (.int .i64 (i : Int)) ∧ ρ 1 = .sc (.pointer (some ⟨b1, 0, none⟩)) ∧ ρ 4 = .sl (u8s q) t ∧ Gr 5 1 K0 (u8s q) t K' ∧ HLe K' K) ?_ (m := p.talks.length) (HLe.refl _)
        ⟨0, t4, q4, K4, rfl, by omega, by simp, by simp, by simp [r1], by simp, hg4, HLe.refl _⟩
      clear hg hl kk r1 r4
      rintro m ρ K ih ⟨i, t, q, K', rfl, hi, hq, r10, r1, r4, hg, hl⟩
      have kk : K b1 = some (.cells (ptC p tj tf tt) 44) := hl _ _ (hg.le _ _ k1)
      rcases Nat.lt_or_ge i p.talks.length with hlt | hge
      · obtain ⟨f, hej, hf⟩ := getAt hlt
        have hlt' : (i : Int) < (p.talks.length : Int) := by omega
        have hw1 : IntKind.i64.wrap ((i : Int) + 1) = (i : Int) + 1 := wrap_i64 (by omega) (by omega)
        have hfn := ho.talks f (List.mem_of_getElem? hf)
        simp only [tlN, List.mem_cons, List.not_mem_nil, or_false, forall_eq_or_imp, forall_eq] at hfn
        obtain ⟨u1, u2, u3, u4⟩ := hfn
        have hql : q.length ≤ 450020 + 2560 := by
          have := hTl i
          rw [← hq, List.length_append]
          omega
        simp -implicitDefEqProofs [r10, r1, r4, kk, hlt, hlt', hej, hz4]
        refine AAlloc.intro fun b6 h6 => ?_
        have h6' : K' b6 = none := hl.none h6
        have hX := hg.box h6' (o := .cells (tlC f) 104)
        have hXl : HLe (K'.set b6 (.cells (tlC f) 104)) (K.set b6 (.cells (tlC f) 104)) := hl.set_mono
        have h60 : K0 b6 = none := hg.le.none h6'
        have x1 : (K0.set b6 (.cells (tlC f) 104)) b6 = some (.cells (tlC f) 104) := by simp [Heap.set]
        have xl : HLe K0 (K0.set b6 (.cells (tlC f) 104)) := HLe.set_fresh h60
        simp -implicitDefEqProofs [r4]
        generalize K.set b6 _ = Kb at *
        generalize K'.set b6 _ = Kb' at *
        generalize K0.set b6 _ = B0 at *
        refine go_draw3 [0, 1, 2, 4, 5, 7, 8, 9, 11, 12, 13] B0 f_mixed (by decide +kernel) (HLe.hc (hX.le.trans hXl)) ?_
        simp -implicitDefEqProofs
        refine aq3_op ?_
        simp -implicitDefEqProofs [x1, r4]
        refine aq3_op ?_
        simp -implicitDefEqProofs [x1, r4]
        refine aq3_op ?_
        simp -implicitDefEqProofs [x1, r4]
        refine aq3_op ?_
        simp -implicitDefEqProofs [x1, r4]
        refine aq3_op ?_
        simp -implicitDefEqProofs [x1, r4]
        refine aq3_op ?_
        simp -implicitDefEqProofs [x1, r4]
        refine aq3_op ?_
        simp -implicitDefEqProofs [x1, r4]
        refine aq3_op ?_
        simp -implicitDefEqProofs [x1, r4]
        refine aq3_op ?_
        simp -implicitDefEqProofs [x1, r4]
        refine aq3_op ?_
        simp -implicitDefEqProofs [x1, r4]
        refine aq3_op ?_
        simp -implicitDefEqProofs [x1, r4]
        refine AWK.one 3 (by decide +kernel) ?_
        refine AWE.op rfl ?_
        simp -implicitDefEqProofs [x1, r4]
        refine ⟨_, c_ref21num hX hXl (by omega) f.cl u1, ?_⟩
        rintro v Ka12 ⟨ta12, rfl, ga12⟩
        refine ⟨HLe.hc ga12.le, ?_⟩
        obtain ⟨qa12, hqa12⟩ : ∃ zz, q ++ putB f.cl = zz := ⟨_, rfl⟩
        have la12 : qa12.length ≤ 452580+10 := by have := putB_len f.cl; rw [← hqa12, List.length_append]; omega
        rw [hqa12] at ga12 ⊢
        refine AWK.one 6 (by decide +kernel) ?_
        refine AWE.op rfl ?_
        simp -implicitDefEqProofs [x1, r4]
        refine ⟨_, c_ref21num ga12 (HLe.refl _) (by omega) f.sq u2, ?_⟩
        rintro v Ka13 ⟨ta13, rfl, ga13⟩
        refine ⟨HLe.hc ga13.le, ?_⟩
        obtain ⟨qa13, hqa13⟩ : ∃ zz, qa12 ++ putB f.sq = zz := ⟨_, rfl⟩
        have la13 : qa13.length ≤ 452580+10+10 := by have := putB_len f.sq; rw [← hqa13, List.length_append]; omega
        rw [hqa13] at ga13 ⊢
        refine AWK.one 10 (by decide +kernel) ?_
        refine AWE.op rfl ?_
        simp -implicitDefEqProofs [x1, r4]
        refine ⟨_, c_ref21whole ga13 (HLe.refl _) (by omega) f.e u3, ?_⟩
        rintro v Ka14 ⟨ta14, rfl, ga14⟩
        refine ⟨HLe.hc ga14.le, ?_⟩
        obtain ⟨qa14, hqa14⟩ : ∃ zz, qa13 ++ putB (zig f.e) = zz := ⟨_, rfl⟩
        have la14 : qa14.length ≤ 452580+10+10+10 := by have := putB_len (zig f.e); rw [← hqa14, List.length_append]; omega
        rw [hqa14] at ga14 ⊢
        refine AWK.one 14 (by decide +kernel) ?_
        refine AWE.op rfl ?_
        simp -implicitDefEqProofs [x1, r4]
        refine ⟨_, c_ref21num ga14 (HLe.refl _) (by omega) f.n u4, ?_⟩
        rintro v Ka15 ⟨ta15, rfl, ga15⟩
        refine ⟨HLe.hc ga15.le, ?_⟩
        obtain ⟨qa15, hqa15⟩ : ∃ zz, qa14 ++ putB f.n = zz := ⟨_, rfl⟩
        have la15 : qa15.length ≤ 452580+10+10+10+10 := by have := putB_len f.n; rw [← hqa15, List.length_append]; omega
        rw [hqa15] at ga15 ⊢
        refine AWK.one 15 (by decide +kernel) ?_
        refine AWE.op rfl ?_
        simp -implicitDefEqProofs
        refine AWK.fin (by decide +kernel) ?_
        obtain ⟨Kz, gz, lz⟩ := ga15.base xl
        have eq : qa15 = q ++ numsB (tlN f) := by
          rw [← hqa15, ← hqa14, ← hqa13, ← hqa12]
          simp [numsB, tlN]
        simp -implicitDefEqProofs [r10, r1, hw1]
        exact AGo.again ih (m' := p.talks.length - (i + 1)) (by omega) (HLe.refl _) ⟨i + 1, ta15, qa15, Kz, rfl, by omega, by rw [flat_take hf, ← List.append_assoc, hq, eq], by simp, by simp [r1], by simp, gz, lz⟩
      · have hn : ¬ (i : Int) < (p.talks.length : Int) := by omega
        simp -implicitDefEqProofs [r10, r1, r4, kk, hn]
        rw [List.take_of_length_le (by omega)] at hq
        exact hk _ _ ⟨t, q, K', hq.symm, by simp [r4], hg, hl⟩
    clear hg hl kk r1 r4 hg4
    rintro ρ K ⟨t, q5, K', hq5, r4, hg, hl⟩
    have hfin : q5 = putI p := by
      rw [hq5, ← hq4, hq3, ← hq2, hq1, e0]
      simp only [putI, List.append_assoc, numsB_one]
    rw [hfin] at hg r4
    simp -implicitDefEqProofs [r4]
    exact (kW.trans (hg.le.trans hl)).wk
end Go.Proofs.YtghlkjkdejebnaaGreatDoor
namespace Go.Proofs.YtghlkjkdejebnaaGreatDoor
open Rg Go
variable {H : Heap}
structure RowZ (sz : Nat) (e T : TypeId) (H0 : Heap) (c n : Nat) (F : Rg.Tok → List AV) (K : Heap) : Prop where
  le : HLe H0 K
  no : H0 c = none
  row : ∃ t, K c = some (.cells (F t) T) ∧ ((t = .nil ∧ n = 0) ∨ ∃ g cap, g ≠ c ∧ H0 g = none ∧ t = .own g cap sz e ∧ K g = some (.open n cap sz e))
theorem RowZ.new {sz : Nat} {e T : TypeId} {H0 K : Heap} {c n p : Nat} {F : Rg.Tok → List AV} {o : AObj} (h : RowZ sz e T H0 c n F K) (hp : K p = none) : RowZ sz e T H0 c n F (K.set p o) := by
  obtain ⟨t, h1, h2⟩ := h.row
  have hpc : c ≠ p := by rintro rfl; rw [h1] at hp; cases hp
  refine ⟨h.le.trans (HLe.set_fresh hp), h.no, t, by simp [Heap.set, hpc, h1], h2.imp id ?_⟩
  rintro ⟨g, cap, g1, g2, g3, g4⟩
  have : g ≠ p := by rintro rfl; rw [hp] at g4; cases g4
  exact ⟨g, cap, g1, g2, g3, by simp [Heap.set, this, g4]⟩
theorem RowZ.grows {sz : Nat} {e T : TypeId} {H0 K : Heap} {c : Nat} {F : Rg.Tok → List AV} {xs : List AV} (h : RowZ sz e T H0 c xs.length F K) :
    ∃ t G0 G, K c = some (.cells (F t) T) ∧ Grows G0 xs sz e t G ∧ HLe G K ∧ HLe H0 G0 ∧ G0 c = some (.cells (F t) T) ∧ ∀ p cs T', K p = some (.cells cs T') → G0 p = some (.cells cs T') := by
  obtain ⟨t, h1, ⟨rfl, hn⟩ | ⟨g, cap, h2, h3, rfl, h4⟩⟩ := h.row
  · obtain rfl := List.length_eq_zero_iff.1 hn
    exact ⟨_, K, K, h1, .zero, HLe.refl _, h.le, h1, fun _ _ _ h => h⟩
  · refine ⟨_, K.del g, (K.del g).set g (.open xs.length cap sz e), h1, .inr ⟨g, cap, by simp [Heap.del], rfl, rfl⟩, fun b ob hb => ?_, HLe.del_new h.le h3, by simp [Heap.del, Ne.symm h2, h1], fun p cs T' hp => ?_⟩
    · by_cases hbg : b = g
      · subst hbg
        simp only [Heap.set, if_true] at hb
        rw [← hb]; exact h4
      · simpa [Heap.set, Heap.del, hbg] using hb
    · have : p ≠ g := by rintro rfl; rw [h4] at hp; cases hp
      simp [Heap.del, this, hp]
theorem RowZ.stored {sz : Nat} {e T : TypeId} {H0 G0 K' Hn : Heap} {c : Nat} {xs : List AV} {F : Rg.Tok → List AV} {t' : Rg.Tok} {o : AObj} (h1 : HLe H0 G0) (h2 : H0 c = none) (h3 : G0 c = some o) (h4 : Grows G0 xs sz e t' K') (h5 : HLe K' Hn) :
    RowZ sz e T H0 c xs.length F (Hn.set c (.cells (F t') T)) := by
  have hle := (h1.trans h4.le).trans h5
  refine ⟨HLe.set_new hle h2, h2, t', by simp [Heap.set], ?_⟩
  rcases h4 with ⟨rfl, rfl, rfl⟩ | ⟨g, cap, g1, rfl, rfl⟩
  · exact .inl ⟨rfl, rfl⟩
  · have hgc : g ≠ c := by rintro rfl; rw [h3] at g1; cases g1
    exact .inr ⟨g, cap, hgc, h1.none g1, rfl, by simp [Heap.set, hgc]; exact h5 g _ (by simp [Heap.set])⟩
theorem RowZ.setO {sz : Nat} {e T : TypeId} {H0 K : Heap} {c n p : Nat} {F : Rg.Tok → List AV} {o o' : AObj} (h : RowZ sz e T H0 c n F K) (hp0 : H0 p = none) (hpc : p ≠ c) (hp : K p = some o) (ho : ∀ n cap sz e, o ≠ .open n cap sz e) : RowZ sz e T H0 c n F (K.set p o') := by
  obtain ⟨t, h1, h2⟩ := h.row
  refine ⟨HLe.set_new h.le hp0, h.no, t, by simp [Heap.set, hpc.symm, h1], h2.imp id ?_⟩
  rintro ⟨g, cap, g1, g2, g3, g4⟩
  have : g ≠ p := by rintro rfl; rw [hp] at g4; cases g4; exact ho _ _ _ _ rfl
  exact ⟨g, cap, g1, g2, g3, by simp [Heap.set, this, g4]⟩
theorem RowZ.cell {sz : Nat} {e T : TypeId} {H0 K : Heap} {c n : Nat} {F F' : Rg.Tok → List AV} {t : Rg.Tok} {cs : List AV} (h : RowZ sz e T H0 c n F K) (hc : K c = some (.cells cs T)) (ht : ∀ t', cs = F t' → F' t' = F' t) : RowZ sz e T H0 c n F' (K.set c (.cells (F' t) T)) := by
  obtain ⟨t', h1, h2⟩ := h.row
  rw [hc] at h1
  have h1' : cs = F t' := by simpa using h1
  refine ⟨HLe.set_new h.le h.no, h.no, t', by simp [Heap.set, ht t' h1'], h2.imp id ?_⟩
  rintro ⟨g, cap, g1, g2, g3, g4⟩
  exact ⟨g, cap, g1, g2, g3, by simp [Heap.set, g1, g4]⟩
def GrowsS (H0 : Heap) (xs : List AV) (sz : Nat) (e : TypeId) (t : Rg.Tok) (K : Heap) : Prop :=
  (t = .full ∧ K = H0) ∨ ∃ g cap, H0 g = none ∧ t = .own g cap sz e ∧ K = H0.set g (.open xs.length cap sz e)
theorem GrowsS.le {H0 K : Heap} {xs : List AV} {sz : Nat} {e : TypeId} {t : Rg.Tok} (h : GrowsS H0 xs sz e t K) : HLe H0 K := by
  rcases h with ⟨_, rfl⟩ | ⟨g, cap, h1, _, rfl⟩
  · exact HLe.refl _
  · exact (HLe.refl _).set_new h1
def GrowsK (H0 : Heap) (n sz : Nat) (e : TypeId) (t : Rg.Tok) (K : Heap) : Prop := (t = .nil ∧ n = 0) ∨ ∃ g cap, H0 g = none ∧ t = .own g cap sz e ∧ K g = some (.open n cap sz e)
theorem GrowsK.grows {H0 K : Heap} {xs : List AV} {sz : Nat} {e : TypeId} {t : Rg.Tok} (h : GrowsK H0 xs.length sz e t K) (hl : HLe H0 K) :
    ∃ G0 G, Grows G0 xs sz e t G ∧ HLe G K ∧ HLe H0 G0 ∧ ∀ p o, K p = some o → (∀ n cap, o ≠ .open n cap sz e) → G0 p = some o := by
  rcases h with ⟨rfl, hn⟩ | ⟨g, cap, h3, rfl, h4⟩
  · obtain rfl := List.length_eq_zero_iff.1 hn
    exact ⟨K, K, .zero, HLe.refl _, hl, fun _ _ h _ => h⟩
  · refine ⟨K.del g, (K.del g).set g (.open xs.length cap sz e), .inr ⟨g, cap, by simp [Heap.del], rfl, rfl⟩, fun b ob hb => ?_, HLe.del_new hl h3, fun p o hp ho => ?_⟩
    · by_cases hbg : b = g
      · subst hbg
        simp only [Heap.set, if_true] at hb
        rw [← hb]; exact h4
      · simpa [Heap.set, Heap.del, hbg] using hb
    · have : p ≠ g := by rintro rfl; rw [h4] at hp; cases hp; exact ho _ _ rfl
      simp [Heap.del, this, hp]
theorem GrowsK.of {H0 G0 K' Hn : Heap} {xs : List AV} {sz : Nat} {e : TypeId} {t' : Rg.Tok} (h1 : HLe H0 G0) (h4 : Grows G0 xs sz e t' K') (h5 : HLe K' Hn) : GrowsK H0 xs.length sz e t' Hn ∧ HLe H0 Hn := by
  refine ⟨?_, (h1.trans h4.le).trans h5⟩
  rcases h4 with ⟨rfl, rfl, rfl⟩ | ⟨g, cap, g1, rfl, rfl⟩
  · exact .inl ⟨rfl, rfl⟩
  · exact .inr ⟨g, cap, h1.none g1, rfl, h5 g _ (by simp [Heap.set])⟩
end Go.Proofs.YtghlkjkdejebnaaGreatDoor
