/- A state's parts as bytes: the chapter's rows; the law's walk. A state's parts as bytes: parts that are the same; the law's walk. What a law's row lists of package variables, as the start heap of its run; a world that meets it. -/
import Derived.Test.YtghlkjkdejebnaaGreatDoorP25
import Derived.Test.YtghlkjkdejebnaaGreatDoorP13
import Derived.Test.YtghlkjkdejebnaaGreatDoorP08
import Derived.Lib.LaidU8
set_option linter.unusedSimpArgs false
set_option linter.unusedVariables false
set_option linter.unnecessarySimpa false
namespace Go.Proofs.YtghlkjkdejebnaaGreatDoor
open Rg Go
variable {H : Heap}
def greatD (j : Jb) : Bool := decide (100 < j.name.length) || decide (600 < j.ex.length) || decide (12 < j.deps.length)
set_option maxHeartbeats 1000000 in
theorem c_great20 (c : Cm) (t : Rg.Tok) : AOk Tryz.prog 62 [cmAV c t] H (.sc (.bool (greatD c.job))) H := by
  unfold greatD
  refine ACalls.into Tryz.func62 rfl Tryz.ntmps62 Tryz.results62 (by simp) ?_
  simp -implicitDefEqProofs
  refine AAlloc.intro fun b1 h1 => ?_
  have kW : ∀ o, HWk H (H.set b1 o) := fun o => HWk.new h1 (HWk.refl _)
  by_cases c1 : 100 < c.job.name.length
  · have c1' : (100 : Int) < (c.job.name.length : Int) := by omega
    simp -implicitDefEqProofs [c1, c1']
    exact kW _
  · have c1' : ¬ (100 : Int) < (c.job.name.length : Int) := by omega
    by_cases c2 : 600 < c.job.ex.length
    · have c2' : (600 : Int) < (c.job.ex.length : Int) := by omega
      simp -implicitDefEqProofs [c1, c1', c2, c2']
      exact kW _
    · have c2' : ¬ (600 : Int) < (c.job.ex.length : Int) := by omega
      by_cases c3 : 12 < c.job.deps.length
      · have c3' : (12 : Int) < (c.job.deps.length : Int) := by omega
        simp -implicitDefEqProofs [c1, c1', c2, c2', c3, c3']
        exact kW _
      · have c3' : ¬ (12 : Int) < (c.job.deps.length : Int) := by omega
        simp -implicitDefEqProofs [c1, c1', c2, c2', c3, c3']
        exact kW _
theorem great20_job (j : Jb) : AOk Tryz.prog 62 [.agg [.sc (.int .i64 0), .sc (.int .u64 0), .sc (.int .u64 0), .sc (.int .u64 0), .sc (.int .i64 0), .sc (.int .u64 0), .sc (.int .u64 0), .sc (.int .u64 (j.id : Nat)), str j.name, str j.ex, .sc (.int .i64 j.pol), .sc (.int .i64 j.gr), .sc (.int .i64 j.lim), .sc (.int .i64 j.ret), .sc (.int .i64 j.tim), .sl (j.deps.map fun n : Nat => .sc (.int .u64 n)) .no, .sc (.bool j.pau), .sc (.int .u64 (j.ver : Nat)), .sc (.int .i64 j.seen)]] H (.sc (.bool (greatD j))) H :=
  c_great20 { cm0 with job := j } .no
def greatP (p : Pt) : Bool := p.jobs.any greatD || decide (70 < p.jobs.length) || (decide (100 < p.fires.length) && decide (p.fires.length < 2000)) || decide (2001 < p.fires.length) || decide (70 < p.talks.length)
theorem any_take {L : List Jb} {i : Nat} {j : Jb} (h : L[i]? = some j) (h2 : (L.take i).any greatD = false) : (greatD j = true → L.any greatD = true) ∧ (greatD j = false → (L.take (i + 1)).any greatD = false) := by
  refine ⟨fun hg => List.any_eq_true.2 ⟨j, List.mem_of_getElem? h, hg⟩, fun hg => ?_⟩
  rw [List.take_add_one, h]
  simp [h2, hg]
set_option maxHeartbeats 2000000 in
theorem c_great21 (p : Pt) (tj tf tt : Rg.Tok) (hL : p.jobs.length ≤ 9223372036854775807) : AOk Tryz.prog 19 [.agg (ptC p tj tf tt)] H (.sc (.bool (greatP p))) H := by
  have hz12 := szs_jbs p.jobs
  obtain ⟨res, hres⟩ : ∃ r, greatP p = r := ⟨_, rfl⟩
  rw [hres]
  unfold greatP at hres
  refine ACalls.into Tryz.func19 rfl Tryz.ntmps19 Tryz.results19 (by simp) ?_
  simp -implicitDefEqProofs
  refine AAlloc.intro fun b1 h1 => ?_
  simp -implicitDefEqProofs
  generalize hK : Heap.set _ b1 _ = K0
  have k1 : K0 b1 = some (.cells (ptC p tj tf tt) 44) := by rw [← hK]; simp [Heap.set]
  have kW : HWk H K0 := by rw [← hK]; exact (HLe.set_fresh h1).wk
  clear hK
  refine AGo.joinLoop (fun ρ K => p.jobs.any greatD = false ∧ ρ 1 = .sc (.pointer (some ⟨b1, 0, none⟩)) ∧ K = K0) (fun k' hk => ?_) ?_
  · refine AGo.rounds (fun m ρ K => ∃ i, m = p.jobs.length - i ∧ i ≤ p.jobs.length ∧ (p.jobs.take i).any greatD = false ∧ ρ 3 = .sc (.int .i64 (i : Int)) ∧ ρ 1 = .sc (.pointer (some ⟨b1, 0, none⟩)) ∧ K = K0) ?_ (m := p.jobs.length) (HLe.refl _)
      ⟨0, rfl, by omega, by simp, by simp, by simp, rfl⟩
    rintro m ρ K ih ⟨i, rfl, hi, hany, r3, r1, rfl⟩
    by_cases hlt : i < p.jobs.length
    · obtain ⟨j, hej, hj⟩ := getAt hlt
      have hlt' : (i : Int) < (p.jobs.length : Int) := by omega
      obtain ⟨a1, a2⟩ := any_take hj hany
      have hg := great20_job (H := K) j
      simp -implicitDefEqProofs [r3, r1, k1, hlt, hlt', hej, hz12]
      refine ACall.eq hg ?_
      cases hgj : greatD j with
      | true =>
        rw [a1 hgj] at hres
        simp only [Bool.true_or] at hres
        subst hres
        simp -implicitDefEqProofs
        exact kW
      | false =>
        have hlm : (i : Int) + 1 ≤ 9223372036854775807 ∨ True := .inr trivial
        by_cases hbig : p.jobs.length ≤ 9223372036854775807
        · have hw1 : IntKind.i64.wrap ((i : Int) + 1) = (i : Int) + 1 := wrap_i64 (by omega) (by omega)
          simp -implicitDefEqProofs [r3, r1, hw1]
          exact AGo.again ih (m' := p.jobs.length - (i + 1)) (by omega) (HLe.refl _) ⟨i + 1, rfl, by omega, a2 hgj, by simp, by simp [r1], rfl⟩
        · exact absurd hL hbig
    · have hn' : ¬ (i : Int) < (p.jobs.length : Int) := by omega
      simp -implicitDefEqProofs [r3, r1, k1, hn', hlt]
      rw [List.take_of_length_le (by omega)] at hany
      exact hk _ _ ⟨hany, by simp [r1], rfl⟩
  · rintro ρ K ⟨hany, r1, rfl⟩
    rw [hany, Bool.false_or] at hres
    by_cases c1 : 70 < p.jobs.length
    · have c1' : (70 : Int) < (p.jobs.length : Int) := by omega
      rw [decide_eq_true c1] at hres
      simp only [Bool.true_or] at hres
      subst hres
      simp -implicitDefEqProofs [r1, k1, c1, c1', kW]
    have c1' : ¬ (70 : Int) < (p.jobs.length : Int) := by omega
    rw [decide_eq_false c1, Bool.false_or] at hres
    have hres2 : ((decide (100 < p.fires.length) && decide (p.fires.length < 2000)) = true → res = true) ∧ (2001 < p.fires.length → res = true) ∧ (70 < p.talks.length → res = true) ∧ ((decide (100 < p.fires.length) && decide (p.fires.length < 2000)) = false → ¬ 2001 < p.fires.length → ¬ 70 < p.talks.length → res = false) := by
      refine ⟨fun h => ?_, fun h => ?_, fun h => ?_, fun h1 h2 h3 => ?_⟩
      · rw [← hres, h]; simp
      · rw [← hres, decide_eq_true h]; simp
      · rw [← hres, decide_eq_true h]; simp
      · rw [← hres, h1, decide_eq_false h2, decide_eq_false h3]; rfl
    obtain ⟨w1, w2, w3, w4⟩ := hres2
    clear hres
    by_cases d1 : 100 < p.fires.length
    · have d1' : (100 : Int) < (p.fires.length : Int) := by omega
      by_cases d2 : p.fires.length < 2000
      · have d2' : (p.fires.length : Int) < 2000 := by omega
        obtain rfl := w1 (by simp [d1, d2])
        simp -implicitDefEqProofs [r1, k1, c1, c1', d1, d1', d2, d2', kW]
      · have d2' : ¬ (p.fires.length : Int) < 2000 := by omega
        by_cases d3 : 2001 < p.fires.length
        · have d3' : (2001 : Int) < (p.fires.length : Int) := by omega
          obtain rfl := w2 d3
          simp -implicitDefEqProofs [r1, k1, c1, c1', d1, d1', d2, d2', d3, d3', kW]
        · have d3' : ¬ (2001 : Int) < (p.fires.length : Int) := by omega
          by_cases d4 : 70 < p.talks.length
          · have d4' : (70 : Int) < (p.talks.length : Int) := by omega
            obtain rfl := w3 d4
            simp -implicitDefEqProofs [r1, k1, c1, c1', d1, d1', d2, d2', d3, d3', d4, d4', kW]
          · have d4' : ¬ (70 : Int) < (p.talks.length : Int) := by omega
            obtain rfl := w4 (by simp [d2]) d3 d4
            simp -implicitDefEqProofs [r1, k1, c1, c1', d1, d1', d2, d2', d3, d3', d4, d4', kW]
    · have d1' : ¬ (100 : Int) < (p.fires.length : Int) := by omega
      have d3 : ¬ 2001 < p.fires.length := by omega
      have d3' : ¬ (2001 : Int) < (p.fires.length : Int) := by omega
      by_cases d4 : 70 < p.talks.length
      · have d4' : (70 : Int) < (p.talks.length : Int) := by omega
        obtain rfl := w3 d4
        simp -implicitDefEqProofs [r1, k1, c1, c1', d1, d1', d3, d3', d4, d4', kW]
      · have d4' : ¬ (70 : Int) < (p.talks.length : Int) := by omega
        obtain rfl := w4 (by simp [d1]) d3 d4
        simp -implicitDefEqProofs [r1, k1, c1, c1', d1, d1', d3, d3', d4, d4', kW]
end Go.Proofs.YtghlkjkdejebnaaGreatDoor
namespace Go.Proofs.YtghlkjkdejebnaaGreatDoor
open Rg Go
variable {H : Heap}
def sameJs : List Jb → List Jb → Bool
  | [], [] => true
  | a :: l, b :: m => sameJ a b && sameJs l m
  | _, _ => false
theorem sameJs_iff : ∀ {l m : List Jb}, sameJs l m = true ↔ l = m
  | [], [] => by simp [sameJs]
  | a :: l, b :: m => by simp [sameJs, sameJ_iff, sameJs_iff (l := l)]
  | [], b :: m => by simp [sameJs]
  | a :: l, [] => by simp [sameJs]
theorem c_ref15Jobs (L M : List Jb) (t u : Rg.Tok) (hl : L.length ≤ 1000000) (hd : ∀ j ∈ L, j.deps.length ≤ 1000000) : AOk Tryz.prog 43 [.sl (jbsAV L) t, .sl (jbsAV M) u] H (.sc (.bool (sameJs L M))) H := by
  have hz1 := szs_jbs L
  have hz2 := szs_jbs M
  obtain ⟨res, hres⟩ : ∃ r, sameJs L M = r := ⟨_, rfl⟩
  have hno : L ≠ M → res = false := fun h => by
    rw [← hres]
    cases h2 : sameJs L M with
    | false => rfl
    | true => exact absurd (sameJs_iff.1 h2) h
  have hyes : L = M → res = true := fun h => by rw [← hres]; exact sameJs_iff.2 h
  rw [hres]
  refine ACalls.into Tryz.func43 rfl Tryz.ntmps43 Tryz.results43 (by simp) ?_
  by_cases hlen : L.length = M.length
  · have hlen' : (L.length : Int) = (M.length : Int) := by omega
    simp -implicitDefEqProofs [hlen, hlen']
    refine AGo.rounds (fun m ρ K => ∃ i, m = L.length - i ∧ i ≤ L.length ∧ L.take i = M.take i ∧ ρ 5 = .sc (.int .i64 (i : Int)) ∧ ρ 0 = .sl (jbsAV L) t ∧ ρ 1 = .sl (jbsAV M) u ∧ K = H) ?_ (m := L.length) (HLe.refl _)
      ⟨0, rfl, by omega, by simp, by simp, by simp, by simp, rfl⟩
    rintro m ρ K ih ⟨i, rfl, hi, htk, r5, r0, r1, rfl⟩
    by_cases hlt : i < L.length
    · have hlt' : (i : Int) < (L.length : Int) := by omega
      have hltm : i < M.length := by omega
      have hltm' : (i : Int) < (M.length : Int) := by omega
      obtain ⟨x, hxj, hx⟩ := getAt hlt
      obtain ⟨y, hyj, hy⟩ := getAt hltm
      have hw1 : IntKind.i64.wrap ((i : Int) + 1) = (i : Int) + 1 := wrap_i64 (by omega) (by omega)
      have hc := c_ref14Same (H := K) x y .no .no (hd x (List.mem_of_getElem? hx))
      simp -implicitDefEqProofs [r5, r0, r1, hlt, hlt', hltm, hltm']
      refine go_draw 10 f_mixed (by decide +kernel) ?_
      simp -implicitDefEqProofs [r5, r0, r1, hlt, hlt', hltm, hltm', hxj, hyj, hz1, hz2]
      refine AQS.eq hc ?_
      cases hs : sameJ x y with
      | true =>
        obtain rfl := sameJ_iff.1 hs
        simp -implicitDefEqProofs [r5, hw1]
        refine AGo.again ih (m' := L.length - (i + 1)) (by omega) (HLe.refl _) ⟨i + 1, rfl, by omega, ?_, by simp, by simp [r0], by simp [r1], rfl⟩
        rw [List.take_add_one, List.take_add_one, htk, hx, hy]
      | false =>
        have hne : L ≠ M := fun e => by
          subst e
          rw [hx] at hy
          cases hy
          rw [sameJ_iff.2 rfl] at hs
          cases hs
        have := hno hne
        subst this
        simp -implicitDefEqProofs
    · have hn' : ¬ (i : Int) < (L.length : Int) := by omega
      have hn2 : ¬ (i : Int) < (M.length : Int) := by omega
      rw [List.take_of_length_le (by omega), List.take_of_length_le (by omega)] at htk
      have := hyes htk
      subst this
      simp -implicitDefEqProofs [r5, r0, r1, hlt, hn', hn2]
  · have hlen' : ¬ (L.length : Int) = (M.length : Int) := by omega
    have := hno fun e => hlen (by rw [e])
    subst this
    simp -implicitDefEqProofs [hlen, hlen']
theorem c_ref17Refl (L : List Fr) (t u : Rg.Tok) (hl : L.length ≤ 1000000) : AOk Tryz.prog 73 [.sl (frsAV L) t, .sl (frsAV L) u] H (.sc (.bool true)) H := by
  have hz1 := szs_frs L
  refine ACalls.into Tryz.func73 rfl Tryz.ntmps73 Tryz.results73 (by simp) ?_
  simp -implicitDefEqProofs
  refine AGo.rounds (fun m ρ K => ∃ i, m = L.length - i ∧ i ≤ L.length ∧ ρ 5 = .sc (.int .i64 (i : Int)) ∧ ρ 0 = .sl (frsAV L) t ∧ ρ 1 = .sl (frsAV L) u ∧ K = H) ?_ (m := L.length) (HLe.refl _)
    ⟨0, rfl, by omega, by simp, by simp, by simp, rfl⟩
  rintro m ρ K ih ⟨i, rfl, hi, r5, r0, r1, rfl⟩
  by_cases hlt : i < L.length
  · have hlt' : (i : Int) < (L.length : Int) := by omega
    obtain ⟨x, hxj, hx⟩ := getAt hlt
    have hw1 : IntKind.i64.wrap ((i : Int) + 1) = (i : Int) + 1 := wrap_i64 (by omega) (by omega)
    simp -implicitDefEqProofs [r5, r0, r1, hlt, hlt']
    refine go_draw 9 f_mixed (by decide +kernel) ?_
    simp -implicitDefEqProofs [r5, r0, r1, hlt, hlt', hxj, hz1, hw1]
    exact AGo.again ih (m' := L.length - (i + 1)) (by omega) (HLe.refl _) ⟨i + 1, rfl, by omega, by simp, by simp [r0], by simp [r1], rfl⟩
  · have hn' : ¬ (i : Int) < (L.length : Int) := by omega
    simp -implicitDefEqProofs [r5, r0, r1, hlt, hn']
theorem c_ref18Refl (L : List Tl) (t u : Rg.Tok) (hl : L.length ≤ 1000000) : AOk Tryz.prog 74 [.sl (tlsAV L) t, .sl (tlsAV L) u] H (.sc (.bool true)) H := by
  have hz1 := szs_tls L
  refine ACalls.into Tryz.func74 rfl Tryz.ntmps74 Tryz.results74 (by simp) ?_
  simp -implicitDefEqProofs
  refine AGo.rounds (fun m ρ K => ∃ i, m = L.length - i ∧ i ≤ L.length ∧ ρ 5 = .sc (.int .i64 (i : Int)) ∧ ρ 0 = .sl (tlsAV L) t ∧ ρ 1 = .sl (tlsAV L) u ∧ K = H) ?_ (m := L.length) (HLe.refl _)
    ⟨0, rfl, by omega, by simp, by simp, by simp, rfl⟩
  rintro m ρ K ih ⟨i, rfl, hi, r5, r0, r1, rfl⟩
  by_cases hlt : i < L.length
  · have hlt' : (i : Int) < (L.length : Int) := by omega
    obtain ⟨x, hxj, hx⟩ := getAt hlt
    have hw1 : IntKind.i64.wrap ((i : Int) + 1) = (i : Int) + 1 := wrap_i64 (by omega) (by omega)
    simp -implicitDefEqProofs [r5, r0, r1, hlt, hlt']
    refine go_draw 9 f_mixed (by decide +kernel) ?_
    simp -implicitDefEqProofs [r5, r0, r1, hlt, hlt', hxj, hz1, hw1]
    exact AGo.again ih (m' := L.length - (i + 1)) (by omega) (HLe.refl _) ⟨i + 1, rfl, by omega, by simp, by simp [r0], by simp [r1], rfl⟩
  · have hn' : ¬ (i : Int) < (L.length : Int) := by omega
    simp -implicitDefEqProofs [r5, r0, r1, hlt, hn']
theorem c_ref20Refl (p : Pt) (h1 : p.jobs.length ≤ 1000000) (h2 : ∀ j ∈ p.jobs, j.deps.length ≤ 1000000) (h3 : p.fires.length ≤ 1000000) (h4 : p.talks.length ≤ 1000000) : AOk Tryz.prog 24 [ptAV p, ptAV p] H (.sc (.bool true)) H := by
  refine ACalls.into Tryz.func24 rfl Tryz.ntmps24 Tryz.results24 (by simp) ?_
  simp -implicitDefEqProofs
  refine AAlloc.intro fun a ha => ?_
  simp -implicitDefEqProofs
  refine AAlloc.intro fun c hc => ?_
  have n : a ≠ c := by rintro rfl; simp [Heap.set] at hc
  simp -implicitDefEqProofs [n]
  generalize hK : Heap.set _ c _ = K
  have ka : K a = some (.cells (ptC p .no .no .no) 44) := by rw [← hK]; simp [Heap.set, n]
  have kc : K c = some (.cells (ptC p .no .no .no) 44) := by rw [← hK]; simp [Heap.set]
  have kW : HWk H K := by rw [← hK]; exact (HLe.set_new (HLe.set_fresh ha) ((HLe.set_fresh ha).none hc)).wk
  clear hK
  have c1 := c_ref15Jobs (H := K) p.jobs p.jobs .no .no h1 h2
  rw [sameJs_iff.2 rfl] at c1
  refine ACall.eq c1 ?_
  simp -implicitDefEqProofs [ka, kc]
  refine ACall.eq (c_ref17Refl p.fires .no .no h3) ?_
  simp -implicitDefEqProofs [ka, kc]
  refine ACall.eq (c_ref18Refl p.talks .no .no h4) ?_
  simp -implicitDefEqProofs [ka, kc, kW]
def ptm : Pt := ⟨[], 0, [], [], -1, 0⟩
theorem ptm_ok : PtOk ptm := ⟨by simp [ptm], by decide, by decide, by decide, by simp [ptm], by simp [ptm]⟩
theorem ptm_put : putIR ptm = [1, 0, 0, 0, 0, 0] ∧ mayI ptm = 0 := by decide +kernel
theorem ptn_parse : parseI [] = none := by decide +kernel
theorem k21_put (hG : Glob H) (Q : List UInt8) (hQ : [1, 0, 0, 0, 0, 0] = Q) : AOk Tryz.prog 20 [.agg [.sl [] .nil, .sc (.int .u64 0), .sl [] .nil, .sl [] .nil, .sc (.int .i64 (-1)), .sc (.int .u64 0)]] H (.tup [.sl (u8s Q) .no, .sc (.int .i64 0)]) H := by
  have := c_imgPut hG ptm .nil .nil .nil ptm_ok
  rw [ptm_put.1, ptm_put.2, hQ] at this
  exact this
theorem k21_parse (hG : Glob H) : AOk Tryz.prog 22 [.sl [] .nil] H (.tup [ptAV pt0, .sc (.int .i64 4)]) H := by
  have := c_imgParse hG [] .nil (by simp)
  rw [ptn_parse] at this
  exact this
theorem c_known21 (hG : Glob H) : AOk Tryz.prog 18 [] H (.sc (.bool true)) H := by
  obtain ⟨Q, hQ⟩ : ∃ Q : List UInt8, [1, 0, 0, 0, 0, 0] = Q := ⟨_, rfl⟩
  have hb : (Q == [1, 0, 0, 0, 0, 0]) = true := by rw [← hQ]; decide
  have m1 : Q.length ≤ maxLen := by rw [← hQ]; decide
  refine ACalls.into Tryz.func18 rfl Tryz.ntmps18 Tryz.results18 (by simp) ?_
  simp -implicitDefEqProofs
  refine ACall.eq (k21_put hG Q hQ) ?_
  simp -implicitDefEqProofs
  refine ACall.eq (k21_parse hG) ?_
  simp -implicitDefEqProofs
  refine AAlloc.intro fun p3 h3 => ?_
  simp -implicitDefEqProofs [aconv, abytes_u8s Q, m1, hb]
  exact (HLe.set_fresh h3).wk
set_option maxHeartbeats 4000000 in
theorem imagePuts_walk (hG : Glob H) (p : Pt) (hf : ∀ j ∈ p.jobs, JbOk j) (hL : p.jobs.length ≤ 9223372036854775807) (ho : (∀ j ∈ p.jobs, j.ex.length ≤ 4096) → PtOk p) (b : List UInt8) : AOk Tryz.prog 5 [ptAV p, .sl (u8s b) .no] H (.sc (.bool true)) H := by
  refine ACalls.into Tryz.func5 rfl Tryz.ntmps5 Tryz.results5 (by simp) ?_
  simp -implicitDefEqProofs
  refine AAlloc.intro fun p1 h1 => ?_
  simp -implicitDefEqProofs
  generalize hK : Heap.set _ p1 _ = K
  have k1 : K p1 = some (.cells (ptC p .no .no .no) 44) := by rw [← hK]; simp [Heap.set]
  have kL : HLe H K := by rw [← hK]; exact HLe.set_fresh h1
  have kG : Glob K := hG.le kL
  clear hK
  refine ACall.eq (c_known21 kG) ?_
  simp -implicitDefEqProofs [k1]
  refine ACall.eq (c_great21 p .no .no .no hL) ?_
  cases g1 : greatP p with
  | true =>
    simp -implicitDefEqProofs
    exact kL.wk
  | false =>
    by_cases hb : 5000 < b.length
    · have hb' : (5000 : Int) < (b.length : Int) := by omega
      simp -implicitDefEqProofs [hb, hb']
      exact kL.wk
    · have hb' : ¬ (5000 : Int) < (b.length : Int) := by omega
      simp only [greatP, Bool.or_eq_false_iff, decide_eq_false_iff_not, Nat.not_lt, List.any_eq_false] at g1
      obtain ⟨⟨⟨⟨g2, g3⟩, g4⟩, g5⟩, g6⟩ := g1
      have hok : PtOk p := ho fun j hj => by
        have := g2 j hj
        simp only [greatD, Bool.or_eq_true, decide_eq_true_eq, not_or, Nat.not_lt] at this
        omega
      have hp1 := fun K (hK : Glob K) => c_imgPut hK p .no .no .no hok
      have hp2 := fun K => c_ref21Put (H := K) p .no .no .no hok
      have hq1 := fun K (hK : Glob K) => c_imgParse hK b .no (by omega)
      have hq2 := fun K => c_ref21Parse (H := K) b (by omega)
      have hxl := putIR_len hok
      obtain ⟨xs, hxs⟩ : ∃ x, putIR p = x := ⟨_, rfl⟩
      obtain ⟨e, he⟩ : ∃ x, mayI p = x := ⟨_, rfl⟩
      rw [hxs] at hxl
      simp only [hxs, he] at hp1 hp2
      have m1 : xs.length ≤ maxLen := by simp only [maxLen]; omega
      obtain ⟨q, z, hq, hqs⟩ : ∃ (q : Pt) (z : Int), imgAV (parseI b) = .tup [ptAV q, .sc (.int .i64 z)] ∧ (q.jobs.length ≤ 1000000 ∧ (∀ j ∈ q.jobs, j.deps.length ≤ 1000000) ∧ q.fires.length ≤ 1000000 ∧ q.talks.length ≤ 1000000) := by
        rcases hr : parseI b with _ | q
        · exact ⟨pt0, 4, rfl, by simp [pt0], by simp [pt0], by simp [pt0], by simp [pt0]⟩
        · obtain ⟨-, a2, -⟩ := parseI_inv hr
          obtain ⟨b1, b2, b3, b4⟩ := mayI_parts a2
          exact ⟨q, 0, rfl, by omega, fun j hj => by have := (JbMay.of (b4 j hj)).deps; omega, by omega, by omega⟩
      simp only [hq] at hq1 hq2
      have hs1 := fun K => c_ref20Refl (H := K) q hqs.1 hqs.2.1 hqs.2.2.1 hqs.2.2.2
      simp -implicitDefEqProofs [hb, hb', k1]
      refine ACall.eq (hp1 _ kG) ?_
      simp -implicitDefEqProofs [k1]
      refine ACall.eq (hp2 _) ?_
      simp -implicitDefEqProofs
      refine ACall.eq (hq1 _ kG) ?_
      simp -implicitDefEqProofs
      refine AAlloc.intro fun p3 h3 => ?_
      simp -implicitDefEqProofs
      refine ACall.eq (hq2 _) ?_
      simp -implicitDefEqProofs
      refine AAlloc.intro fun p4 h4 => ?_
      have n34 : p3 ≠ p4 := by rintro rfl; simp [Heap.set] at h4
      simp -implicitDefEqProofs
      generalize hK3 : Heap.set _ p4 _ = K3
      have kL3 : HLe K K3 := by rw [← hK3]; exact HLe.set_new (HLe.set_fresh h3) ((HLe.set_fresh h3).none h4)
      have j3 : K3 p3 = some (.cells (ptC q .no .no .no) 44) := by rw [← hK3]; simp [Heap.set, n34]
      have j4 : K3 p4 = some (.cells (ptC q .no .no .no) 44) := by rw [← hK3]; simp [Heap.set]
      clear hK3
      simp -implicitDefEqProofs [aconv, abytes_u8s xs, m1, j3, j4]
      refine ACall.eq (hs1 _) ?_
      simp -implicitDefEqProofs
      exact (kL.trans kL3).wk
end Go.Proofs.YtghlkjkdejebnaaGreatDoor
namespace Go.Proofs.YtghlkjkdejebnaaGreatDoor
open Rg Go Go.RowKit
theorem eq_ctz : (Rows.laid_math_bits_deBruijn64tab : DataW Unit) = Lib.tabData .u8 (Lib.deBruijn64tab.map fun n : Nat => (n : Int)) := by kernel_rfl
theorem eq_first : Rows.laid_unicode_utf8_first = Lib.firstData := by kernel_rfl
theorem eq_accept : (Rows.laid_unicode_utf8_acceptRanges : DataW Unit) = Lib.acceptData := by kernel_rfl
theorem u8extra : U8Extra Tryz.prog Tryz.lays260_ren := ⟨by kernel_rfl, by kernel_rfl, by kernel_rfl, by kernel_rfl, by kernel_rfl, by kernel_rfl, by kernel_rfl⟩
def ctzUs : List Value := Lib.deBruijn64tab.map fun n : Nat => .int .u8 n
def firstUs : List Value := (List.range 256).map fun c => .int .u8 (Lib.firstT c)
def acceptUs : List Value := (List.range 16).flatMap fun i => [.int .u8 (Lib.accLo i), .int .u8 (Lib.accHi i)]
def gro (m : Int) : Heap := fun b =>
  if b = 7 then some (.ro ctzUs) else if b = 0 then some (.ro [.int .i64 m]) else
  if b = 1 then some (.ro firstUs) else if b = 2 then some (.ro acceptUs) else none
theorem acceptUs_at : ∀ i, i < 16 → acceptUs[2 * i]? = some (.int .u8 (Lib.accLo i)) ∧ acceptUs[2 * i + 1]? = some (.int .u8 (Lib.accHi i)) := fun i hi => by
  have h : i = 0 ∨ i = 1 ∨ i = 2 ∨ i = 3 ∨ i = 4 ∨ i = 5 ∨ i = 6 ∨ i = 7 ∨ i = 8 ∨ i = 9 ∨ i = 10 ∨ i = 11 ∨ i = 12 ∨ i = 13 ∨ i = 14 ∨ i = 15 := by omega
  rcases h with rfl | rfl | rfl | rfl | rfl | rfl | rfl | rfl | rfl | rfl | rfl | rfl | rfl | rfl | rfl | rfl <;> exact ⟨by kernel_rfl, by kernel_rfl⟩
theorem glob_gro (m : Int) : Glob (gro m) := by
  refine ⟨⟨m, rfl⟩, ⟨ctzUs, rfl, fun j hj => ?_⟩, ⟨firstUs, rfl, fun c hc => ?_⟩, ⟨acceptUs, rfl, acceptUs_at⟩⟩
  · simp only [ctzUs, List.getElem?_map, List.getD_eq_getElem?_getD, List.getElem?_eq_getElem hj]
    rfl
  · simp only [firstUs, List.getElem?_map, List.getElem?_range hc]
    rfl
theorem ctz_reads {W : World} {l : List (String × DataW Unit)} (hL : laidMet Tryz.prog l W) (h1 : ("math/bits.deBruijn64tab", Rows.laid_math_bits_deBruijn64tab) ∈ l) (j : Nat) (u : Value) (hu : ctzUs[j]? = some u) : W.cell? ⟨7, j, none⟩ = some u := by
  obtain ⟨g, t, cs, fuel, p, hg, hty, hvar, hd⟩ := Lib.laidMet.reads hL h1
  obtain rfl : 7 = g := Option.some.inj ((show Tryz.prog.globalNamed "math/bits.deBruijn64tab" = some 7 by kernel_rfl).symm.trans hg)
  obtain rfl : 281 = t := Option.some.inj ((show (Tryz.prog.globals[7]?).map (·.type) = some 281 by kernel_rfl).symm.trans hty)
  rw [eq_ctz] at hd
  have hcs := Lib.cells_of_tab (e := 5) (n := 64) (by kernel_rfl) (by kernel_rfl) (by kernel_rfl) (by kernel_rfl) hd
  rw [World.var?_cell hg hvar j, ← Array.getElem?_toList, hcs, ← hu]
  unfold ctzUs
  simp [Function.comp_def]
theorem gro_reads {W : World} {l : List (String × DataW Unit)} (hL : laidMet Tryz.prog l W) (hsh : W.ShapedOpen Tryz.prog) (h1 : ("math/bits.deBruijn64tab", Rows.laid_math_bits_deBruijn64tab) ∈ l)
    (h3 : ("unicode/utf8.first", Rows.laid_unicode_utf8_first) ∈ l) (h4 : ("unicode/utf8.acceptRanges", Rows.laid_unicode_utf8_acceptRanges) ∈ l) : ∃ m, Reads W (gro m) := by
  obtain ⟨m, hm⟩ : ∃ m, W.cell? ⟨0, 0, none⟩ = some (.int .i64 m) := Tryz.laysM145.s1_3 W hsh
  obtain ⟨t3, t4⟩ : Lib.Utf8Tabs 1 2 W := utf8Tabs_of_reads Tryz.lays260 u8extra (eq_first ▸ Lib.laidMet.reads hL h3) (eq_accept ▸ Lib.laidMet.reads hL h4)
  refine ⟨m, fun b ob e => ?_⟩
  unfold gro at e
  split at e
  · rename_i hb
    subst hb; cases e
    exact ⟨ctzUs, rfl, by decide +kernel, by decide +kernel, ctz_reads hL h1, fun h => absurd h (by decide +kernel)⟩
  · split at e
    · rename_i hb
      subst hb; cases e
      refine ⟨_, rfl, by simp, by simp [Value.oneCell'], fun j u hu => ?_, fun h => by simp at h⟩
      cases j with
      | zero => simp at hu; subst hu; exact hm
      | succ j => simp at hu
    · split at e
      · rename_i hb
        subst hb; cases e
        refine ⟨firstUs, rfl, by decide +kernel, by decide +kernel, fun j u hu => ?_, fun h => absurd h (by decide +kernel)⟩
        have hj : j < 256 := by have := (List.getElem?_eq_some_iff.1 hu).1; simpa [firstUs] using this
        rw [t3 j hj, ← hu]
        simp only [firstUs, List.getElem?_map, List.getElem?_range hj]
        rfl
      · split at e
        · rename_i hb
          subst hb; cases e
          refine ⟨acceptUs, rfl, by decide +kernel, by decide +kernel, fun j u hu => ?_, fun h => absurd h (by decide +kernel)⟩
          have hj : j < 32 := by have := (List.getElem?_eq_some_iff.1 hu).1; rwa [show acceptUs.length = 32 by kernel_rfl] at this
          rcases Nat.mod_two_eq_zero_or_one j with h | h
          · obtain ⟨i, rfl⟩ : ∃ i, j = 2 * i := ⟨j / 2, by omega⟩
            rw [(t4 i (by omega)).1, ← hu, (acceptUs_at i (by omega)).1]
          · obtain ⟨i, rfl⟩ : ∃ i, j = 2 * i + 1 := ⟨j / 2, by omega⟩
            rw [(t4 i (by omega)).2, ← hu, (acceptUs_at i (by omega)).2]
        · cases e
def setCells (cs : Array Value) : Obj → Obj
  | .cells _ t fr => .cells cs t fr
  | o => o
noncomputable def low : Nat := (World.holding Tryz.prog default ⟨#[], #[], []⟩).heap.size
noncomputable def laidWorld (os : Os) : World :=
  let w0 := World.holding Tryz.prog os ⟨#[.cells #[.string ⟨#[105, 110, 118, 97, 108, 105, 100, 32, 115, 121, 110, 116, 97, 120]⟩] 271, .cells #[.string ⟨#[118, 97, 108, 117, 101, 32, 111, 117, 116, 32, 111, 102, 32, 114, 97, 110, 103, 101]⟩] 271], #[], []⟩
  { w0 with heap := ((((((w0.heap.modify 7 (setCells ctzUs.toArray)).modify 6 (setCells (Lib.deBruijn32tab.map fun n : Nat => Value.int .u8 n).toArray)).modify 1 (setCells firstUs.toArray)).modify 2 (setCells acceptUs.toArray)).modify 5
    (setCells ((List.range 20).map fun n => Value.int .u64 (10 ^ n)).toArray)).modify 3 (setCells #[.iface 269 (.pointer (some ⟨low, 0, none⟩))])).modify 4 (setCells #[.iface 269 (.pointer (some ⟨low + 1, 0, none⟩))]) }
theorem own : ownKnob Tryz.prog.godebug = none := by kernel_rfl
end Go.Proofs.YtghlkjkdejebnaaGreatDoor
