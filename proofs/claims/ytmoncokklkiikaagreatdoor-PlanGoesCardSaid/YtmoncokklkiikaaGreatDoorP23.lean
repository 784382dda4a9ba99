/- What plans' laws use: rows that are the same, items, which jobs are too many; the chapter's rows. Which jobs are too many for plans' laws; sets of numbers as maps. A plan's items, gone over from outside: plan.All. PlanGoes: the law's walk. -/
import Derived.Test.YtmoncokklkiikaaGreatDoorP22
import Derived.Test.YtmoncokklkiikaaGreatDoorP09
set_option linter.unusedSimpArgs false
set_option linter.unusedVariables false
set_option linter.unnecessarySimpa false
namespace Go.Proofs.YtmoncokklkiikaaGreatDoor
open Rg Go
variable {H : Heap}
def PI.it (y : PI) : Nat × Nat := (y.at_, y.job)
abbrev itAV (p : Nat × Nat) : AV := .agg [.sc (.int .i64 (p.1 : Int)), .sc (.int .u64 (p.2 : Int))]
theorem pit_it (L : List PI) : L.map pitAV = (L.map PI.it).map itAV := by
  rw [List.map_map]; rfl
set_option maxHeartbeats 4000000 in
theorem c_equalP (L M : List (Nat × Nat)) (t u : Rg.Tok) (hL : L.length ≤ 1000000) : AOk Tryz.prog 58 [.sl (L.map itAV) t, .sl (M.map itAV) u] H (.sc (.bool (decide (L = M)))) H := by
  refine ACalls.into Tryz.func58 rfl Tryz.ntmps58 Tryz.results58 (by simp) ?_
  simp -implicitDefEqProofs
  by_cases hl : L.length = M.length
  · have hl' : (L.length : Int) = (M.length : Int) := by omega
    simp -implicitDefEqProofs [hl, hl']
    refine AGo.rounds (fun m ρ K => ∃ i, m = L.length - i ∧ i ≤ L.length ∧ L.take i = M.take i ∧ ρ 13 = .sc (.int .i64 (i : Int)) ∧ ρ 0 = .sl (L.map itAV) t ∧ ρ 1 = .sl (M.map itAV) u ∧ ρ 12 = .sc (.int .i64 (M.length : Int)) ∧ K = H) ?_ (m := L.length) (HLe.refl _)
      ⟨0, rfl, by omega, by simp, by simp, by simp, by simp, by simp, rfl⟩
    rintro m ρ K ih ⟨i, rfl, hi, hti, r13, r0, r1, r12, rfl⟩
    rcases Nat.lt_or_ge i L.length with hlt | hge
    · have hlm : i < M.length := by omega
      obtain ⟨x, hx, hx2⟩ := getAt hlt
      obtain ⟨y, hy, hy2⟩ := getAt hlm
      have hlt' : (i : Int) < (L.length : Int) := by omega
      have hlm' : (i : Int) < (M.length : Int) := by omega
      have hw1 : IntKind.i64.wrap ((i : Int) + 1) = ((i + 1 : Nat) : Int) := wadd (b := 1) rfl (by omega)
      simp -implicitDefEqProofs [r13, r0, r1, r12, hlm, hlm']
      refine go_draw 9 f_mixed (by decide +kernel) ?_
      by_cases hxy : x = y
      · subst hxy
        simp -implicitDefEqProofs [r13, r0, r1, r12, hlt, hlm, hx, hy, hw1]
        refine AGo.again ih (m' := L.length - (i + 1)) (by omega) (HLe.refl _) ⟨i + 1, rfl, by omega, ?_, by simp, by simp [r0], by simp [r1], by simp [r12], rfl⟩
        rw [List.take_add_one, List.take_add_one, hti, hx2, hy2]
      · have hne : ¬ L = M := by
          intro e
          subst e
          rw [hx2] at hy2
          cases hy2
          exact hxy rfl
        have hb : (!((x.1 : Int) == (y.1 : Int)) || !((x.2 : Int) == (y.2 : Int))) = true := by
          by_cases h1 : x.1 = y.1
          · have h2 : ¬ x.2 = y.2 := fun h2 => hxy (Prod.ext h1 h2)
            have h2' : ¬ (x.2 : Int) = (y.2 : Int) := by omega
            simp [h2']
          · have h1' : ¬ (x.1 : Int) = (y.1 : Int) := by omega
            simp [h1']
        simp -implicitDefEqProofs [r13, r0, r1, r12, hlt, hlm, hx, hy, hb, hne]
    · have hn : ¬ (i : Int) < (M.length : Int) := by omega
      have hn' : ¬ i < M.length := by omega
      have he : L = M := by rw [List.take_of_length_le hge, List.take_of_length_le (by omega)] at hti; exact hti
      simp -implicitDefEqProofs [r13, r0, r1, r12, hn, hn', he]
  · have hl' : ¬ (L.length : Int) = (M.length : Int) := by omega
    have hne : ¬ L = M := fun e => hl (by rw [e])
    simp -implicitDefEqProofs [hl, hl', hne]
set_option maxHeartbeats 4000000 in
theorem c_itemsP (L : List PI) (t : Rg.Tok) (hL : L.length ≤ 1000000) : AOk Tryz.prog 60 [.sl (L.map piAV) t] H (.sl ((L.map PI.it).map itAV) .no) H := by
  rw [← pit_it]
  refine ACalls.into Tryz.func60 rfl Tryz.ntmps60 Tryz.results60 (by simp) ?_
  simp -implicitDefEqProofs
  refine AGo.rounds (fun μ ρ K => ∃ (i : Nat) (tk : Rg.Tok) (K3 : Heap), μ = L.length - i ∧ i ≤ L.length ∧ ρ 3 = .sl ((L.take i).map pitAV) tk ∧ ρ 6 = .sl (L.map piAV) t ∧ ρ 7 = .sc (.int .i64 (L.length : Int)) ∧ ρ 8 = .sc (.int .i64 (i : Int)) ∧ Grows H ((L.take i).map pitAV) 2 111 tk K3 ∧ HLe K3 K) ?_ (m := L.length) (HLe.refl _)
    ⟨0, .nil, H, by omega, by omega, by simp, by simp, by simp, by simp, .zero, HLe.refl _⟩
  rintro μ ρ K ih ⟨i, tk, K3, rfl, hi, r9, r16, r17, r18, hg, hle⟩
  rcases Nat.lt_or_ge i L.length with hlt | hge
  · obtain ⟨x, hx, _⟩ := getAt hlt
    have hwi : IntKind.i64.wrap ((i : Int) + 1) = ((i + 1 : Nat) : Int) := wadd (b := 1) rfl (by omega)
    have hd : (L.take (i + 1)).map pitAV = (L.take i).map pitAV ++ [pitAV x] := by
      rw [List.take_succ_eq_append_getElem hlt, List.map_append, hx]; rfl
    have hxl : ((L.take i).map pitAV).length = i := by rw [List.length_map, List.length_take]; omega
    have hsz : szs 2 ((L.take i).map pitAV) = true := szs_map (f := pitAV) (fun _ => rfl) _
    generalize (L.take i).map pitAV = xs at *
    simp -implicitDefEqProofs [r16, r17, r18, hlt, hx]
    refine AAlloc.intro fun b5 h5 => ?_
    simp -implicitDefEqProofs [r9]
    refine AApp.grows el_105 hg (hle.trans (HLe.set_fresh h5)) (by simp) hsz (by simp [szs]) (by simp; omega) (by simp [maxLen]; omega) fun t' K4 Hn hg' hl' => ?_
    simp -implicitDefEqProofs [r18, hwi]
    refine AGo.again ih (m' := L.length - (i + 1)) (by omega) (HLe.refl _) ⟨i + 1, t', K4, rfl, by omega, by simp [hd], by simp [r16], by simp [r17], by simp, ?_, hl'⟩
    rw [hd]
    exact hg'
  · have hn : ¬ i < L.length := by omega
    rw [List.take_of_length_le hge] at r9 hg
    simp -implicitDefEqProofs [r9, r17, r18, hn]
    exact (hg.le.trans hle).wk
def ty6 : List UInt8 := [42, 47, 51, 48, 32, 42, 32, 42, 32, 42, 32, 42]
def yx6 : Ex := ⟨⟨1073741825, true⟩, ⟨16777215, true⟩, ⟨4294967294, true⟩, ⟨8190, true⟩, ⟨127, true⟩⟩
set_option maxRecDepth 100000 in
theorem ky6 : cronK ty6 = (yx6, 0) := by decide +kernel
def jPa : Jb := ⟨1, [97], ty5, 2, 0, 1, 0, 4000, [], false, 0, 0⟩
def jPb : Jb := ⟨2, [98], ty6, 2, 0, 1, 0, 60, [], false, 0, 0⟩
theorem jPa_live : liveJ jPa = true := by
  have e : (cronK jPa.ex).2 = 0 := by rw [show jPa.ex = ty5 from rfl, ky5]
  unfold liveJ mayJ
  rw [e]
  decide
theorem jPb_live : liveJ jPb = true := by
  have e : (cronK jPb.ex).2 = 0 := by rw [show jPb.ex = ty6 from rfl, ky6]
  unfold liveJ mayJ
  rw [e]
  decide
theorem bit6 : ∀ m, m < 60 → hasB yx6.a.bits ((m : Nat) : Int) = true → m = 0 ∨ m = 30 := by decide +kernel
theorem fires_a : firesL yx5 0 7200 = [3600, 7200] := by
  refine pNat_eq (fires_sorted _ _ _) (by decide) fun k => ?_
  rw [fires_mem]
  constructor
  · rintro ⟨h1, h2, h3⟩
    obtain ⟨n, h, m, g1, g2, g3, rfl, _, _, g5, _⟩ := fire_inv (by omega) h3
    have := bit0 m g3 g5
    simp only [List.mem_cons, List.not_mem_nil, or_false]
    omega
  · intro hk
    simp only [List.mem_cons, List.not_mem_nil, or_false] at hk
    rcases hk with rfl | rfl
    · exact ⟨by omega, by omega, fire5 1 (by omega)⟩
    · exact ⟨by omega, by omega, fire5 2 (by omega)⟩
theorem fire6 : ∀ i, i < 25 → fireB yx6 (1800 * i) = true := by decide +kernel
theorem fires_b : firesL yx6 0 7200 = [1800, 3600, 5400, 7200] := by
  refine pNat_eq (fires_sorted _ _ _) (by decide) fun k => ?_
  rw [fires_mem]
  constructor
  · rintro ⟨h1, h2, h3⟩
    obtain ⟨n, h, m, g1, g2, g3, rfl, _, _, g5, _⟩ := fire_inv (by omega) h3
    have := bit6 m g3 g5
    simp only [List.mem_cons, List.not_mem_nil, or_false]
    omega
  · intro hk
    simp only [List.mem_cons, List.not_mem_nil, or_false] at hk
    rcases hk with rfl | rfl | rfl | rfl
    · exact ⟨by omega, by omega, fire6 1 (by omega)⟩
    · exact ⟨by omega, by omega, fire6 2 (by omega)⟩
    · exact ⟨by omega, by omega, fire6 3 (by omega)⟩
    · exact ⟨by omega, by omega, fire6 4 (by omega)⟩
theorem plan_two : planL [jPa, jPb] 0 7200 = [(1800, 1), (3600, 0), (3600, 1), (5400, 1), (7200, 0), (7200, 1)] := by
  have ea : restJ 0 7200 jPa = [3600, 7200] := by
    unfold restJ
    rw [if_pos jPa_live, show jPa.ex = ty5 from rfl, ky5]
    exact fires_a
  have eb : restJ 0 7200 jPb = [1800, 3600, 5400, 7200] := by
    unfold restJ
    rw [if_pos jPb_live, show jPb.ex = ty6 from rfl, ky6]
    exact fires_b
  unfold planL
  rw [List.map_cons, List.map_cons, List.map_nil, ea, eb]
  decide
def itemsTwo : List PI := [⟨1800, 2, 1, 60, 1⟩, ⟨3600, 1, 0, 4000, 1⟩, ⟨3600, 2, 1, 60, 1⟩, ⟨5400, 2, 1, 60, 1⟩, ⟨7200, 1, 0, 4000, 1⟩, ⟨7200, 2, 1, 60, 1⟩]
theorem planI_two : planI [jPa, jPb] 0 7200 9 = itemsTwo := by
  unfold planI planZ
  rw [if_pos (by decide), show (0 : Int).toNat = 0 from rfl, show (7200 : Int).toNat = 7200 from rfl, plan_two]
  rfl
theorem planI_five : planI [jPa, jPb] 5 5 9 = [] := by
  unfold planI planZ
  rw [if_neg (by decide)]
  rfl
theorem planI_zero : planI [jPa, jPb] 0 7200 0 = [] := rfl
theorem jobs_two : JobsOk [jPa, jPb] := by
  refine ⟨by decide, ?_, ?_, by decide⟩
  · intro j hj
    simp only [List.mem_cons, List.not_mem_nil, or_false] at hj
    rcases hj with rfl | rfl <;> decide
  · intro j hj
    simp only [List.mem_cons, List.not_mem_nil, or_false] at hj
    rcases hj with rfl | rfl <;> decide
theorem c_two : AOk Tryz.prog 124 [] H (.sl (jobsAV [jPa, jPb]) .no) H := by
  refine ACalls.into Tryz.func124 rfl Tryz.ntmps124 Tryz.results124 (by simp) ?_
  simp -implicitDefEqProofs
  refine AAlloc.intro fun b1 h1 => ?_
  simp -implicitDefEqProofs
  refine AAlloc.intro fun b2 h2 => ?_
  have n12 : b1 ≠ b2 := by intro e; subst e; simp [Heap.set] at h2
  have e2 : H b2 = none := (HLe.set_fresh h1).none h2
  simp -implicitDefEqProofs [n12, jPa, jPb, ty5, ty6]
  repeat (first | exact HWk.refl _ | refine HWk.new (by assumption) ?_)
theorem c_known37 (hG : Glob H) : AOk Tryz.prog 50 [] H (.sc (.bool true)) H := by
  have hT : GlobT H := hG.ctz
  have f1 := c_pFirst hG hT jobs_two 0 7200 9 (by omega)
  have f2 := c_pPeak hG hT jobs_two 0 7200 9 (by omega)
  have f3 := c_pGap hG hT jobs_two 0 7200 9 (by omega)
  have f4 := c_pClashes hG hT jobs_two 0 7200 9 (by omega)
  have f5 := c_pFirst hG hT jobs_two 5 5 9 (by omega)
  have f6 := c_pFirst hG hT jobs_two 0 7200 0 (by omega)
  rw [planI_two] at f1 f2 f3 f4
  rw [planI_five] at f5
  rw [planI_zero] at f6
  rw [show peakP itemsTwo = (3, 7200) by decide] at f2
  rw [show gapP itemsTwo 0 7200 = (0, 1800) by decide] at f3
  rw [show clashP itemsTwo = [⟨7200, 1, 0, 4000, 1⟩] from by kernel_rfl] at f4
  have g1 := c_equalP (H := H) [(1800, 2), (3600, 1), (3600, 2), (5400, 2), (7200, 1), (7200, 2)] [(1800, 2), (3600, 1), (3600, 2), (5400, 2), (7200, 1), (7200, 2)] .no .full (by decide)
  have g2 := c_equalP (H := H) [(7200, 1)] [(7200, 1)] .no .full (by decide)
  simp only [itemsTwo, List.map_cons, List.map_nil] at f1 f4 f5 f6 g1 g2
  refine ACalls.into Tryz.func50 rfl Tryz.ntmps50 Tryz.results50 (by simp) ?_
  simp -implicitDefEqProofs
  refine ACall.eq c_two ?_
  simp -implicitDefEqProofs
  refine ACall.eq f1 ?_
  simp -implicitDefEqProofs
  refine ACall.eq c_two ?_
  simp -implicitDefEqProofs
  refine ACall.eq f2 ?_
  simp -implicitDefEqProofs
  refine ACall.eq c_two ?_
  simp -implicitDefEqProofs
  refine ACall.eq f3 ?_
  simp -implicitDefEqProofs
  refine ACall.eq g1 ?_
  simp -implicitDefEqProofs
  refine ACall.eq c_two ?_
  simp -implicitDefEqProofs
  refine ACall.eq f4 ?_
  simp -implicitDefEqProofs
  refine ACall.eq g2 ?_
  simp -implicitDefEqProofs
  refine ACall.eq c_two ?_
  simp -implicitDefEqProofs
  refine ACall.eq f5 ?_
  simp -implicitDefEqProofs
  refine ACall.eq c_two ?_
  simp -implicitDefEqProofs
  refine ACall.eq f6 ?_
  simp -implicitDefEqProofs
end Go.Proofs.YtmoncokklkiikaaGreatDoor
namespace Go.Proofs.YtmoncokklkiikaaGreatDoor
open Rg Go
variable {H : Heap}
abbrev u64V (n : Nat) : AV := .sc (.int .u64 (n : Int))
def setU (D : List Nat) : List (AV × AV × Nat) := D.zipIdx.map fun p => (u64V p.1, .agg [], p.2)
theorem setU_snoc (D : List Nat) (a : Nat) : setU (D ++ [a]) = setU D ++ [(u64V a, .agg [], D.length)] := by
  unfold setU
  rw [List.zipIdx_append]
  simp
theorem aeqv_u64 (k x : Nat) : aeqv Tryz.prog 5 22 (u64V k) (u64V x) = some (decide (k = x)) := by
  have e : decide (k = x) = decide ((k : Int) = (x : Int)) := by
    by_cases h : k = x
    · subst h; simp
    · have : ¬ (k : Int) = (x : Int) := by omega
      simp [h, this]
  rw [e]
  unfold u64V aeqv
  simp [tkd_22]
  rfl
theorem leastU (p : Nat → Prop) : ∀ n, p n → ∃ m, m ≤ n ∧ p m ∧ ∀ k, k < m → ¬ p k := fun n => by
  induction n using Nat.strongRecOn with
  | _ n ih =>
    intro hn
    by_cases h : ∃ k, k < n ∧ p k
    · obtain ⟨k, hk, hp⟩ := h
      obtain ⟨m, h1, h2, h3⟩ := ih k hk hp
      exact ⟨m, by omega, h2, h3⟩
    · exact ⟨n, Nat.le_refl n, hn, fun k hk hp => h ⟨k, hk, hp⟩⟩
theorem setU_hit {D : List Nat} {a : Nat} (h : a ∈ D) : ∃ i, afind Tryz.prog 22 (u64V a) (setU D) 0 = some (some (i, .agg [])) := by
  obtain ⟨n, hn, hmin⟩ : ∃ n, D[n]? = some a ∧ ∀ j, j < n → D[j]? ≠ some a := by
    obtain ⟨n, hn⟩ := List.getElem?_of_mem h
    obtain ⟨m, h1, h2, h3⟩ := leastU (fun k => D[k]? = some a) n hn
    exact ⟨m, h2, h3⟩
  have hz : D.zipIdx[n]? = some (a, n) := by simp [List.getElem?_zipIdx, hn]
  refine ⟨n, ?_⟩
  have := afind_hit (P := Tryz.prog) (kt := 22) (k := u64V a) (fun p : Nat × Nat => u64V p.1) (fun _ => .agg []) (fun p => p.2) (fun p => decide (a = p.1)) D.zipIdx 0 n (a, n) (fun p _ => aeqv_u64 a p.1) hz (by simp) fun j p hj hp => by
    simp only [decide_eq_false_iff_not]
    intro e
    simp only [List.getElem?_zipIdx, Option.map_eq_some_iff] at hp
    obtain ⟨y, h1, h2⟩ := hp
    rw [← h2] at e
    exact hmin j hj (by rw [h1, e])
  rw [Nat.zero_add] at this
  exact this
theorem setU_miss {D : List Nat} {a : Nat} (h : a ∉ D) : afind Tryz.prog 22 (u64V a) (setU D) 0 = some none := by
  refine afind_miss (P := Tryz.prog) (kt := 22) (k := u64V a) (fun p : Nat × Nat => u64V p.1) (fun _ => .agg []) (fun p => p.2) (fun p => decide (a = p.1)) D.zipIdx 0 (fun p _ => aeqv_u64 a p.1) fun p hp => ?_
  simp only [decide_eq_false_iff_not]
  rintro rfl
  exact h (List.fst_mem_of_mem_zipIdx hp)
theorem mapTU : Tryz.prog.underlying 184 = some (.map 22 82) := by kernel_rfl
theorem uintT : Tryz.prog.underlying 22 = some (.int .u64) := by kernel_rfl
theorem u64_check (a : Nat) : acheck Tryz.prog 3 22 (u64V a) = true := by
  unfold acheck
  rw [uintT]
def bigJ (j : Jb) : Bool := decide (1000 < IntKind.i64.wrap ((j.name.length : Int) + (j.ex.length : Int))) || decide (20 < j.deps.length)
def heavyGo : List Nat → List Jb → Bool
  | _, [] => false
  | seen, j :: r => decide (j.id ∈ seen) || bigJ j || heavyGo (seen ++ [j.id]) r
def heavyP (js : List Jb) (most : Int) : Bool := heavyGo [] js || decide (12 < js.length) || decide (60 < most)
theorem heavy_no : ∀ (js : List Jb) (seen : List Nat), heavyGo seen js = false → (∀ j ∈ js, j.id ∉ seen ∧ j.deps.length ≤ 20) ∧ (js.map Jb.id).Nodup
  | [], _, _ => ⟨by simp, List.nodup_nil⟩
  | j :: r, seen, h => by
    unfold heavyGo bigJ at h
    simp only [Bool.or_eq_false_iff, decide_eq_false_iff_not] at h
    obtain ⟨⟨h1, _, h2⟩, h3⟩ := h
    obtain ⟨g1, g2⟩ := heavy_no r _ h3
    refine ⟨fun k hk => ?_, ?_⟩
    · rcases List.mem_cons.1 hk with e | hk
      · rw [e]; exact ⟨h1, by omega⟩
      · exact ⟨fun hs => (g1 k hk).1 (List.mem_append.2 (.inl hs)), (g1 k hk).2⟩
    · rw [List.map_cons, List.nodup_cons]
      refine ⟨fun hm => ?_, g2⟩
      obtain ⟨k, hk, e⟩ := List.mem_map.1 hm
      exact (g1 k hk).1 (List.mem_append.2 (.inr (by rw [e]; simp)))
theorem heavy_ok {js : List Jb} {most : Int} (hex : ∀ j ∈ js, j.ex.length ≤ 9223372036854775807) (h : heavyP js most = false) : JobsOk js ∧ js.length ≤ 12 ∧ most ≤ 60 := by
  unfold heavyP at h
  simp only [Bool.or_eq_false_iff, decide_eq_false_iff_not] at h
  obtain ⟨⟨h1, h2⟩, h3⟩ := h
  obtain ⟨g1, g2⟩ := heavy_no js [] h1
  exact ⟨⟨by omega, hex, fun j hj => by have := (g1 j hj).2; omega, g2⟩, by omega, by omega⟩
set_option maxHeartbeats 8000000 in
theorem c_heavy37 (js : List Jb) (most : Int) (hjs : js.length ≤ 9223372036854775807) : AOk Tryz.prog 51 [.sl (jobsAV js) .no, .sc (.int .i64 most)] H (.sc (.bool (heavyP js most))) H := by
  obtain ⟨R, hR⟩ : ∃ R, heavyGo [] js = R := ⟨_, rfl⟩
  unfold heavyP
  rw [hR]
  refine ACalls.into Tryz.func51 rfl Tryz.ntmps51 Tryz.results51 (by simp) ?_
  simp -implicitDefEqProofs
  refine ACall.intro (c_makeMap 184) fun v K hv => ?_
  obtain ⟨m, hm, rfl, rfl⟩ := hv
  simp -implicitDefEqProofs
  refine AGo.rounds (fun μ ρ K => ∃ (i : Nat), μ = js.length - i ∧ i ≤ js.length ∧ heavyGo ((js.take i).map Jb.id) (js.drop i) = R ∧ ρ 0 = .sl (jobsAV js) .no ∧ ρ 1 = .sc (.int .i64 most) ∧ ρ 5 = .sc (.map (some m)) ∧ ρ 11 = .sl (jobsAV js) .no ∧ ρ 12 = .sc (.int .i64 (js.length : Int)) ∧ ρ 13 = .sc (.int .i64 (i : Int)) ∧ HLe H K ∧
    K m = some (.map (setU ((js.take i).map Jb.id)) i)) ?_ (m := js.length) (HLe.refl _)
    ⟨0, by omega, by omega, hR, by simp, by simp, by simp, by simp, by simp, by simp, HLe.set_fresh hm, by simp [Heap.set, setU]⟩
  clear hR
  rintro μ ρ K ih ⟨i, rfl, hi, hgo, r0, r1, r5, r11, r12, r13, hle, hmK⟩
  rcases Nat.lt_or_ge i js.length with hlt | hge
  · obtain ⟨j, hj, _⟩ := getAt hlt
    have hwi : IntKind.i64.wrap ((i : Int) + 1) = ((i + 1 : Nat) : Int) := wadd (b := 1) rfl (by omega)
    have hDl : ((js.take i).map Jb.id).length = i := by rw [List.length_map, List.length_take]; omega
    have hDs : (js.take (i + 1)).map Jb.id = (js.take i).map Jb.id ++ [j.id] := by
      rw [List.take_succ_eq_append_getElem hlt, List.map_append, hj]; rfl
    rw [List.drop_eq_getElem_cons hlt, heavyGo, hj, ← hDs] at hgo
    have hsn := setU_snoc ((js.take i).map Jb.id) j.id
    rw [← hDs, hDl] at hsn
    obtain ⟨D, hD⟩ : ∃ D, (js.take i).map Jb.id = D := ⟨_, rfl⟩
    rw [hD] at hgo hmK hsn hDl
    simp -implicitDefEqProofs [r11, r12, r13, hlt, hj]
    refine AAlloc.intro fun b7 h7 => ?_
    have nm7 : m ≠ b7 := by rintro rfl; rw [hmK] at h7; cases h7
    simp -implicitDefEqProofs [r5]
    generalize hK1 : Heap.set K b7 _ = K1
    have l1 : HLe K K1 := by rw [← hK1]; exact HLe.set_fresh h7
    have k7 : K1 b7 = some (.cells (jbC j .no) 25) := by rw [← hK1]; simp [Heap.set]
    have hm1 := l1 _ _ hmK
    clear hK1 h7
    by_cases hin : j.id ∈ D
    · have hR : R = true := by rw [← hgo]; simp [hin]
      subst hR
      obtain ⟨q, hq⟩ := setU_hit hin
      refine ACall.eq (c_lookup2 mapTU uintT hm1 (u64_check j.id) hq) ?_
      simp -implicitDefEqProofs
      refine AAlloc.intro fun b8 h8 => ?_
      have n78 : b7 ≠ b8 := by rintro rfl; rw [k7] at h8; cases h8
      simp -implicitDefEqProofs [n78, k7]
      exact HWk.new (hle.none (l1.none h8)) (hle.trans l1).wk
    · have hc2 := c_lookup2_no (z := .agg #[]) mapTU uintT hm1 (u64_check j.id) (by kernel_rfl) (setU_miss hin)
      refine ACall.eq hc2 ?_
      simp -implicitDefEqProofs
      refine AAlloc.intro fun b8 h8 => ?_
      have n78 : b7 ≠ b8 := by rintro rfl; rw [k7] at h8; cases h8
      have nm8 : m ≠ b8 := by rintro rfl; rw [hm1] at h8; cases h8
      have hle := hle.trans l1
      obtain ⟨w, hw⟩ : ∃ w, IntKind.i64.wrap ((j.name.length : Int) + (j.ex.length : Int)) = w := ⟨_, rfl⟩
      unfold bigJ at hgo
      rw [hw] at hgo
      have i20 : (20 : Int) < (j.deps.length : Int) ↔ 20 < j.deps.length := by omega
      by_cases c1 : 1000 < w
      · have hR : R = true := by rw [← hgo]; simp [c1]
        subst hR
        simp -implicitDefEqProofs [n78, k7, hw, c1]
        exact HWk.new (hle.none h8) hle.wk
      · by_cases c2 : 20 < j.deps.length
        · have hR : R = true := by rw [← hgo]; simp [c2]
          subst hR
          simp -implicitDefEqProofs [n78, k7, hw, c1, i20, c2]
          exact HWk.new (hle.none h8) hle.wk
        · have hgo : heavyGo ((js.take (i + 1)).map Jb.id) (js.drop (i + 1)) = R := by
            rw [← hgo]
            simp [hin, c1, c2]
          simp -implicitDefEqProofs [n78, k7, hw, c1, i20, c2, r5]
          generalize hK2 : Heap.set K1 b8 _ = K2
          have l2 : HLe K1 K2 := by rw [← hK2]; exact HLe.set_fresh h8
          have hm2 := l2 _ _ hm1
          have hle := hle.trans l2
          clear hK2
          refine ACall.eq (c_insert mapTU uintT hm2 (u64_check j.id) (setU_miss hin) (.agg [])) ?_
          rw [← hsn]
          simp -implicitDefEqProofs [r13, hwi]
          exact AGo.again ih (m' := js.length - (i + 1)) (by omega) (HLe.refl _) ⟨i + 1, rfl, by omega, hgo, by simp [r0], by simp [r1], by simp [r5], by simp [r11], by simp [r12], by simp, HLe.set_new hle hm, by simp [Heap.set]⟩
  · have hn : ¬ i < js.length := by omega
    rw [List.drop_of_length_le hge] at hgo
    obtain rfl : false = R := hgo
    have i12 : (12 : Int) < (js.length : Int) ↔ 12 < js.length := by omega
    by_cases c1 : 12 < js.length
    · simp -implicitDefEqProofs [r0, r12, r13, hn, i12, c1]
      exact hle.wk
    · simp -implicitDefEqProofs [r0, r1, r12, r13, hn, i12, c1]
      exact hle.wk
end Go.Proofs.YtmoncokklkiikaaGreatDoor
namespace Go.Proofs.YtmoncokklkiikaaGreatDoor
open Rg Go
variable {H : Heap}
def PAllR (js : List Jb) (fr tt : Int) (H : Heap) (r : AV) (K : Heap) : Prop :=
  ∃ bj bf bt, r = .sc (.func (.func 129) #[] #[.pointer (some ⟨bj, 0, none⟩), .pointer (some ⟨bf, 0, none⟩), .pointer (some ⟨bt, 0, none⟩)]) ∧ HLe H K ∧
    K bj = some (.cells [.sl (jobsAV js) .no] 95) ∧ K bf = some (.cells [.sc (.int .i64 fr)] 2) ∧ K bt = some (.cells [.sc (.int .i64 tt)] 2)
theorem c_pAll (js : List Jb) (fr tt : Int) : ACalls Tryz.prog 62 [.sl (jobsAV js) .no, .sc (.int .i64 fr), .sc (.int .i64 tt)] H (PAllR js fr tt H) := by
  refine ACalls.into Tryz.func62 rfl Tryz.ntmps62 Tryz.results62 (by simp) ?_
  simp -implicitDefEqProofs
  refine AAlloc.intro fun b3 h3 => ?_
  simp -implicitDefEqProofs
  refine AAlloc.intro fun b4 h4 => ?_
  simp -implicitDefEqProofs
  refine AAlloc.intro fun b5 h5 => ?_
  have n34 : b3 ≠ b4 := by intro e; subst e; simp [Heap.set] at h4
  have n35 : b3 ≠ b5 := by intro e; subst e; simp [Heap.set, n34] at h5
  have n45 : b4 ≠ b5 := by intro e; subst e; simp [Heap.set] at h5
  simp -implicitDefEqProofs
  refine ⟨_, _, wk_refl _, HWk.refl _, b3, b4, b5, rfl, ((HLe.set_fresh h3).trans (HLe.set_fresh h4)).trans (HLe.set_fresh h5), ?_, ?_, ?_⟩
  · simp [Heap.set, n34, n35]
  · simp [Heap.set, n45]
  · simp [Heap.set]
structure JAll (J : Nat → Heap → Prop) (bt l D b4 ly : Nat) (tt : Int) (r : ARec) (j : Nat) (K : Heap) : Prop where
  st : J j K
  kl : K l = some (.lrec r)
  kD : K D = some .dfr
  kt : K bt = some (.cells [.sc (.int .i64 tt)] 2)
  ky : K b4 = some (.cells [.sc (.func (.yield ly) #[] #[])] 124)
structure XAll (Jx : Heap → Prop) (l D : Nat) (p : Option Code) (K : Heap) : Prop where
  st : Jx K
  kl : ∃ r, K l = some (.lrec r) ∧ r.st ≠ .busy ∧ r.pe = p
  kD : K D = some .dfr
set_option maxHeartbeats 8000000 in
theorem c_pAllIt {ly bj bf bt : Nat} {js : List Jb} {fr tt : Int} (hG : Glob H) (hjs : js.length ≤ 1000000) (hex : ∀ j ∈ js, j.ex.length ≤ 9223372036854775807)
    (J : Nat → Heap → Prop) (Jx : Heap → Prop)
    (hJ : ∀ j K, J j K → GlobT K)
    (hL : ∀ j K K', J j K → HLe K K' → J j K')
    (hS : ∀ j K p o o', J j K → H p = none → K p = some o → NotOpen o → J j (K.set p o'))
    (hX : ∀ K p o o', Jx K → H p = none → K p = some o → NotOpen o → Jx (K.set p o'))
    (hSd : ∀ j K p o, J j K → H p = none → K p = some o → NotOpen o → J j (K.del p))
    (hXd : ∀ K p o, Jx K → H p = none → K p = some o → NotOpen o → Jx (K.del p))
    (hY : ∀ (j : Nat) (K : Heap) (z : PIt), (planZ js fr tt)[j]? = some z → J j K →
      ACalls Tryz.prog (Tryz.prog.funcs.size + 1 + ly) [planItAV z js] K (fun v K' => KeepN H K K' ∧ ((v = .sc (.bool true) ∧ J (j + 1) K') ∨ (v = .sc (.bool false) ∧ Jx K'))))
    (h0 : J 0 H) (kj : H bj = some (.cells [.sl (jobsAV js) .no] 95)) (kf : H bf = some (.cells [.sc (.int .i64 fr)] 2)) (kt : H bt = some (.cells [.sc (.int .i64 tt)] 2)) :
    ACalls Tryz.prog 129 [.sc (.func (.yield ly) #[] #[]), ptr bj, ptr bf, ptr bt] H (fun _ K => J (planZ js fr tt).length K ∨ Jx K) := by
  obtain ⟨E, hE⟩ : ∃ E, planZ js fr tt = E := ⟨_, rfl⟩
  rw [hE] at hY ⊢
  refine ACalls.into Tryz.func129 rfl Tryz.ntmps129 Tryz.results129 (by simp) ?_
  simp -implicitDefEqProofs
  refine AAlloc.intro fun b4 h4 => ?_
  have eb4 := h4
  have nj : bj ≠ b4 := by rintro rfl; rw [kj] at h4; cases h4
  have nf : bf ≠ b4 := by rintro rfl; rw [kf] at h4; cases h4
  have nt : bt ≠ b4 := by rintro rfl; rw [kt] at h4; cases h4
  simp -implicitDefEqProofs [nj, nf, nt, kj, kf, kt]
  generalize hK1 : Heap.set H b4 _ = K1
  have l1 : HLe H K1 := by rw [← hK1]; exact HLe.set_fresh h4
  have k4 : K1 b4 = some (.cells [.sc (.func (.yield ly) #[] #[])] 124) := by rw [← hK1]; simp [Heap.set]
  clear hK1
  refine ACall.intro (c_each js fr tt) fun v K3 hv => ?_
  obtain ⟨cj, cf, ct, rfl, hle, q1, q2, q3, f3⟩ := hv
  have f3 := l1.none f3
  have l3 := l1.trans hle
  have q4 := hle _ _ k4
  simp -implicitDefEqProofs
  refine atRhoT fun ρ1 hρ1 => ?_
  have r4 : ρ1 4 = ptr b4 := by rw [hρ1]; simp
  have r9 : ρ1 9 = .sc (.func (.func 173) #[] #[.pointer (some ⟨cf, 0, none⟩), .pointer (some ⟨ct, 0, none⟩), .pointer (some ⟨cj, 0, none⟩)]) := by rw [hρ1]; simp
  clear hρ1 k4 hle l1
  refine AGo.rangeF (gf := 173) (lb := #[.pointer (some ⟨cf, 0, none⟩), .pointer (some ⟨ct, 0, none⟩), .pointer (some ⟨cj, 0, none⟩)])
    (fun D l _ K => XAll (J E.length) l D none K ∨ XAll Jx l D (some .ret) K) rfl r9 (by simp) ?_ ?_ ?_
  · intro D l hD hl'
    generalize hr : ARec.mk _ _ _ _ _ _ _ _ = r0
    have hst : r0.st = .ready := by rw [← hr]
    have hpe : r0.pe = none := by rw [← hr]
    have hps : r0.ps.size = 2 := by rw [← hr]; rfl
    have hDl : D ≠ l := by intro e; subst e; simp [Heap.set] at hl'
    have hl3 : K3 l = none := by simpa [Heap.set, hDl.symm] using hl'
    have ne1 : ∀ {c : Nat} {o : AObj}, K3 c = some o → c ≠ D := by rintro c o hc rfl; rw [hc] at hD; cases hD
    have ne2 : ∀ {c : Nat} {o : AObj}, K3 c = some o → c ≠ l := by rintro c o hc rfl; rw [hc] at hl3; cases hl3
    have eD : H D = none := l3.none hD
    have el : H l = none := l3.none hl3
    have btl := ne2 q3
    have b4l := ne2 q4
    generalize hKs : (K3.set D .dfr).set l (.lrec r0) = Ks
    have ls : HLe K3 Ks := by rw [← hKs]; exact (HLe.set_fresh hD).trans (HLe.set_fresh hl')
    have sl : Ks l = some (.lrec r0) := by rw [← hKs]; simp [Heap.set]
    have sD : Ks D = some .dfr := by rw [← hKs]; simp [Heap.set, hDl]
    clear hKs
    have lH := l3.trans ls
    refine (c_eachIt (l := l) (bj := cj) (bf := cf) (bt := ct) (js := js) (fr := fr) (tt := tt) (hG.le lH) ((hG.le lH).ctz) hjs hex
      (JAll J ct l D b4 ly tt r0) (XAll Jx l D (some .ret)) ?_ ?_ ?_ ?_ ?_ (ls _ _ q1) (ls _ _ q2)).mono ?_
    · rintro j K ⟨h1, h2, h3, h4, h5⟩
      exact ⟨hJ _ _ h1, h4⟩
    · rintro j K K' ⟨h1, h2, h3, h4, h5⟩ hle
      exact ⟨hL _ _ _ h1 hle, hle _ _ h2, hle _ _ h3, hle _ _ h4, hle _ _ h5⟩
    · rintro j K p o o' ⟨h1, h2, h3, h4, h5⟩ hp hK hno
      have np : ∀ {c : Nat} {o : AObj}, Ks c = some o → c ≠ p := by rintro c o hc rfl; rw [hc] at hp; cases hp
      have p1 := np sl
      have p2 := np sD
      have p3 := np (ls _ _ q3)
      have p4 := np (ls _ _ q4)
      exact ⟨hS _ _ _ _ _ h1 (lH.none hp) hK hno, by simp [Heap.set, p1, h2], by simp [Heap.set, p2, h3], by simp [Heap.set, p3, h4], by simp [Heap.set, p4, h5]⟩
    · rintro j K z hz ⟨h1, h2, h3, h4, h5⟩
      rw [hE] at hz
      refine ACalls.round h2 (by simp [hps]) ?_
      obtain ⟨r9', hr9⟩ : ∃ r9, r0 = r9 := ⟨_, rfl⟩
      clear hps hst hpe
      subst hr
      simp -implicitDefEqProofs [aputs]
      refine AAlloc.intro fun b5 f5 => ?_
      simp -implicitDefEqProofs
      generalize hKa : Heap.set _ b5 _ = Ka
      have la : HLe K Ka := by rw [← hKa]; exact HLe.set_fresh f5
      have k5 : Ka b5 = some (.cells [.sc (.int .i64 (z.1 : Int)), .sc (.int .u64 ((jobOf js z.2).id : Int))] 111) := by rw [← hKa]; simp [Heap.set]
      clear hKa
      have g2 := la _ _ h2
      refine AGo.bgn rfl g2 rfl ?_
      rw [hr9] at h2 g2 sl ⊢
      generalize hrb : ARec.mk _ _ _ _ _ _ _ _ = rb
      generalize hKb : Heap.set Ka l _ = Kb
      have b5l : b5 ≠ l := by rintro rfl; rw [k5] at g2; simp at g2
      have kb5 : Kb b5 = some (.cells [.sc (.int .i64 (z.1 : Int)), .sc (.int .u64 ((jobOf js z.2).id : Int))] 111) := by rw [← hKb]; simp only [Heap.set, if_neg b5l]; exact k5
      have kbl : Kb l = some (.lrec rb) := by rw [← hKb]; simp [Heap.set]
      have kbD : Kb D = some .dfr := by rw [← hKb]; simp only [Heap.set, if_neg hDl]; exact la _ _ h3
      have kbt : Kb ct = some (.cells [.sc (.int .i64 tt)] 2) := by rw [← hKb]; simp only [Heap.set, if_neg btl]; exact la _ _ h4
      have kb4 : Kb b4 = some (.cells [.sc (.func (.yield ly) #[] #[])] 124) := by rw [← hKb]; simp only [Heap.set, if_neg b4l]; exact la _ _ h5
      have hJb : J j Kb := by rw [← hKb]; exact hS _ _ _ _ _ (hL _ _ _ h1 la) el g2 .lrec
      have hkeep : KeepN Ks K Kb := by
        intro p o hp hK _
        have : p ≠ l := by rintro rfl; rw [sl] at hp; cases hp
        rw [← hKb]
        simp only [Heap.set, if_neg this]
        exact la _ _ hK
      clear hKb k5 g2
      have hc := hY j Kb z hz hJb
      unfold planItAV at hc
      have ta : tagg Tryz.prog 124 = some false := by kernel_rfl
      simp -implicitDefEqProofs [r4, kb4, kb5, ta]
      refine ACall.intro hc fun v K' hv => ?_
      obtain ⟨hKK, hv⟩ := hv
      have kl' := hKK _ _ el kbl .lrec
      have kD' := hKK _ _ eD kbD .dfr
      have kt' := hKK _ _ f3 kbt .cells
      have k4' := hKK _ _ eb4 kb4 .cells
      have hkn : ∀ o, KeepN Ks K (K'.set l o) := by
        intro o p o2 hp hK ho
        have p1 : p ≠ l := by rintro rfl; rw [sl] at hp; cases hp
        simp only [Heap.set, if_neg p1]
        exact hKK _ _ (lH.none hp) (hkeep p o2 hp hK ho) ho
      rcases hv with ⟨rfl, hJ'⟩ | ⟨rfl, hJx⟩
      · simp -implicitDefEqProofs
        refine ⟨rb, kl', .inl ⟨rfl, ⟨hS _ _ _ _ _ hJ' el kl' .lrec, by simp [Heap.set]; rw [← hrb, ← hr9], by simp [Heap.set, hDl, kD'], by simp [Heap.set, btl, kt'], by simp [Heap.set, b4l, k4']⟩, hkn _⟩⟩
      · simp -implicitDefEqProofs
        exact ⟨rb, kl', .inr ⟨rfl, hX _ _ _ _ hJx el kl' .lrec, ⟨_, by simp [Heap.set]; rfl, by simp, by simp⟩, by simp [Heap.set, hDl, kD']⟩⟩
    · exact ⟨hL _ _ _ h0 lH, sl, sD, ls _ _ q3, ls _ _ q4⟩
    · rintro v K (⟨h1, h2, h3, _, _⟩ | h)
      · rw [hE] at h1
        exact .inl ⟨h1, ⟨_, h2, by rw [hst]; simp, hpe⟩, h3⟩
      · exact .inr h
  · rintro D l v K hD hl (⟨_, ⟨r, h1, h2, _⟩, _⟩ | ⟨_, ⟨r, h1, h2, _⟩, _⟩)
    · exact ⟨r, h1, h2⟩
    · exact ⟨r, h1, h2⟩
  · rintro D l v K r hD hl hres hK
    have hDl : D ≠ l := by intro e; subst e; simp [Heap.set] at hl
    have hl3 : K3 l = none := by simpa [Heap.set, hDl.symm] using hl
    have eD := l3.none hD
    have el := l3.none hl3
    rcases hres with ⟨hst, ⟨r', gl, _, hpe⟩, gD⟩ | ⟨hst, ⟨r', gl, _, hpe⟩, gD⟩
    · rw [gl] at hK
      cases hK
      simp -implicitDefEqProofs [hpe, del_apply, mark_ret, mark_nrm, hDl, gD]
      have h1 := hSd _ _ _ _ hst el gl .lrec
      exact ⟨_, _, wk_refl _, HWk.refl _, .inl (hSd _ _ _ _ h1 eD (show (K.del l) D = some .dfr by simp [Heap.del, hDl, gD]) .dfr)⟩
    · rw [gl] at hK
      cases hK
      simp -implicitDefEqProofs [hpe, del_apply, mark_ret, mark_nrm, hDl, gD]
      have h1 := hXd _ _ _ hst el gl .lrec
      exact ⟨_, _, wk_refl _, HWk.refl _, .inr (hXd _ _ _ h1 eD (show (K.del l) D = some .dfr by simp [Heap.del, hDl, gD]) .dfr)⟩
end Go.Proofs.YtmoncokklkiikaaGreatDoor
namespace Go.Proofs.YtmoncokklkiikaaGreatDoor
open Rg Go
variable {H : Heap}
structure JGo (H : Heap) (W : List (Nat × Nat)) (left : Int) (b9 b10 b11 b12 l D : Nat) (r : ARec) (j : Nat) (K : Heap) : Prop where
  lt : j < 60
  lf : j = 0 ∨ (j : Int) < left
  le : HLe H K
  k9 : K b9 = some (.cells [.sc (.int .i64 left)] 3)
  k10 : K b10 = some (.cells [.sc (.bool false)] 4)
  k11 : K b11 = some (.cells [.sl (W.map itAV) .no] 105)
  k12 : K b12 = some (.cells [.sc (.int .i64 (j : Int))] 3)
  kl : K l = some (.lrec r)
  kD : K D = some .dfr
structure XGo (H : Heap) (W : List (Nat × Nat)) (left : Int) (b9 b10 b11 b12 l D : Nat) (p : Option Code) (K : Heap) : Prop where
  le : HLe H K
  k9 : K b9 = some (.cells [.sc (.int .i64 left)] 3)
  k10 : K b10 = some (.cells [.sc (.bool false)] 4)
  k11 : K b11 = some (.cells [.sl (W.map itAV) .no] 105)
  k12 : ∃ n : Nat, K b12 = some (.cells [.sc (.int .i64 (n : Int))] 3) ∧ (n : Int) = min (W.length : Int) (max left 1)
  kl : ∃ r, K l = some (.lrec r) ∧ r.st ≠ .busy ∧ r.pe = p
  kD : K D = some .dfr
theorem planI_it_len (js : List Jb) (fr tt : Int) : ((planI js fr tt 60).map PI.it).length = min 60 (planZ js fr tt).length := by
  unfold planI
  rw [List.length_map, List.length_map, List.length_take]
  rfl
theorem planI_it_at {js : List Jb} {fr tt : Int} {j : Nat} {z : PIt} (hj : j < 60) (hz : (planZ js fr tt)[j]? = some z) : ((planI js fr tt 60).map PI.it)[j]? = some (z.1, (jobOf js z.2).id) := by
  unfold planI
  rw [List.getElem?_map, List.getElem?_map, List.getElem?_take, show Int.toNat 60 = 60 from rfl, if_pos hj, hz]
  rfl
theorem go_fin1 {j w : Nat} {left : Int} (h1 : j < w) (h2 : j = 0 ∨ (j : Int) < left) (h3 : left ≤ ((j + 1 : Nat) : Int)) : ((j + 1 : Nat) : Int) = min (w : Int) (max left 1) := by omega
theorem go_fin2 {j w : Nat} {left : Int} (h1 : j < w) (h2 : ¬ left ≤ ((j + 1 : Nat) : Int)) (h3 : j + 1 = 60) (hw : w ≤ 60) : ((j + 1 : Nat) : Int) = min (w : Int) (max left 1) := by omega
theorem go_fin3 {j w e : Nat} {left : Int} (hj : j = e) (hw : w = min 60 e) (h1 : j < 60) (h2 : j = 0 ∨ (j : Int) < left) : (j : Int) = min (w : Int) (max left 1) := by omega
set_option maxHeartbeats 16000000 in
theorem planGoes_ok (hG : Glob H) {js : List Jb} (hjs : js.length ≤ 9223372036854775807) (hex : ∀ j ∈ js, j.ex.length ≤ 9223372036854775807) (fr tt most left : Int) :
    AOk Tryz.prog 10 [.sl (jobsAV js) .no, .sc (.int .i64 fr), .sc (.int .i64 tt), .sc (.int .i64 most), .sc (.int .i64 left)] H (.sc (.bool true)) H := by
  refine ACalls.into Tryz.func10 rfl Tryz.ntmps10 Tryz.results10 (by simp) ?_
  simp -implicitDefEqProofs
  refine AAlloc.intro fun b9 h9 => ?_
  simp -implicitDefEqProofs
  refine AAlloc.intro fun b10 h10 => ?_
  have n910 : b9 ≠ b10 := by intro e; subst e; simp [Heap.set] at h10
  have e10 : H b10 = none := (HLe.set_fresh h9).none h10
  simp -implicitDefEqProofs
  generalize hK : Heap.set _ b10 _ = K1
  have k9 : K1 b9 = some (.cells [.sc (.int .i64 left)] 3) := by rw [← hK]; simp [Heap.set, n910]
  have k10 : K1 b10 = some (.cells [.sc (.bool false)] 4) := by rw [← hK]; simp [Heap.set]
  have l1 : HLe H K1 := by rw [← hK]; exact (HLe.set_fresh h9).trans (HLe.set_fresh h10)
  clear hK h10
  have hG1 := hG.le l1
  refine ACall.eq (c_known37 hG1) ?_
  simp -implicitDefEqProofs
  refine ACall.eq (c_heavy37 js most hjs) ?_
  cases hh : heavyP js most with
  | true =>
    simp -implicitDefEqProofs [k10]
    exact HWk.new e10 l1.wk
  | false =>
  obtain ⟨hj, hl12, hm60⟩ := heavy_ok hex hh
  have q1 := fun K => c_rFirst (H := K) hj (by omega) fr tt 60 (by omega)
  have q2 := fun K => c_rFirst (H := K) hj (by omega) fr tt most (by omega)
  have q3 := fun K (h : Glob K) => c_pFirst h h.ctz hj fr tt most (by omega)
  have hLm := planI_len js fr tt most
  have hWl := planI_it_len js fr tt
  have hWat := fun {j z} => planI_it_at (js := js) (fr := fr) (tt := tt) (j := j) (z := z)
  have q4 := fun K => c_itemsP (H := K) (planI js fr tt 60) .no (by have := planI_len js fr tt 60; omega)
  generalize (planI js fr tt 60).map PI.it = W at *
  have q5 := fun K => c_itemsP (H := K) (planI js fr tt most) .no (by omega)
  have q6 := fun K => c_equalP (H := K) ((planI js fr tt most).map PI.it) ((planI js fr tt most).map PI.it) .no .no (by rw [List.length_map]; omega)
  rw [← pit_it] at q5 q6
  simp -implicitDefEqProofs
  refine ACall.eq (q1 _) ?_
  simp -implicitDefEqProofs
  refine ACall.eq (q4 _) ?_
  simp -implicitDefEqProofs
  refine AAlloc.intro fun b11 h11 => ?_
  have n911 : b9 ≠ b11 := by rintro rfl; rw [k9] at h11; cases h11
  have n1011 : b10 ≠ b11 := by rintro rfl; rw [k10] at h11; cases h11
  simp -implicitDefEqProofs
  generalize hK : Heap.set _ b11 _ = K2
  have l2 : HLe K1 K2 := by rw [← hK]; exact HLe.set_fresh h11
  have k11 : K2 b11 = some (.cells [.sl (W.map itAV) .no] 105) := by rw [← hK]; simp [Heap.set]
  have k9 := l2 _ _ k9
  have k10 := l2 _ _ k10
  have e11 := l1.none h11
  have l1 := l1.trans l2
  clear hK h11 l2
  refine ACall.eq (q3 _ (hG.le l1)) ?_
  simp -implicitDefEqProofs
  refine ACall.eq (q2 _) ?_
  simp -implicitDefEqProofs
  refine ACall.eq (q5 _) ?_
  simp -implicitDefEqProofs
  refine ACall.eq (q6 _) ?_
  simp -implicitDefEqProofs
  refine AAlloc.intro fun b12 h12 => ?_
  have n912 : b9 ≠ b12 := by rintro rfl; rw [k9] at h12; cases h12
  have n1012 : b10 ≠ b12 := by rintro rfl; rw [k10] at h12; cases h12
  have n1112 : b11 ≠ b12 := by rintro rfl; rw [k11] at h12; cases h12
  simp -implicitDefEqProofs
  generalize hK : Heap.set _ b12 _ = K3
  have l3 : HLe K2 K3 := by rw [← hK]; exact HLe.set_fresh h12
  have k12 : K3 b12 = some (.cells [.sc (.int .i64 (0 : Nat))] 3) := by rw [← hK]; simp [Heap.set]
  have k9 := l3 _ _ k9
  have k10 := l3 _ _ k10
  have k11 := l3 _ _ k11
  have e12 := l1.none h12
  have l1 := l1.trans l3
  clear hK h12 l3 q1 q2 q3 q4 q5 q6
  refine ACall.intro (c_pAll js fr tt) fun v K4 hv => ?_
  obtain ⟨cj, cf, ct, rfl, hle, q1, q2, q3⟩ := hv
  have k9 := hle _ _ k9
  have k10 := hle _ _ k10
  have k11 := hle _ _ k11
  have k12 := hle _ _ k12
  have l1 := l1.trans hle
  clear hle
  simp -implicitDefEqProofs
  refine atRhoT fun ρ1 hρ1 => ?_
  have r9 : ρ1 9 = ptr b9 := by rw [hρ1]; simp
  have r10 : ρ1 10 = ptr b10 := by rw [hρ1]; simp
  have r11 : ρ1 11 = ptr b11 := by rw [hρ1]; simp
  have r12 : ρ1 12 = ptr b12 := by rw [hρ1]; simp
  have r40 : ρ1 40 = .sc (.func (.func 129) #[] #[.pointer (some ⟨cj, 0, none⟩), .pointer (some ⟨cf, 0, none⟩), .pointer (some ⟨ct, 0, none⟩)]) := by rw [hρ1]; simp
  clear hρ1
  have hWl60 : W.length ≤ 60 := by omega
  refine AGo.rangeF (gf := 129) (lb := #[.pointer (some ⟨cj, 0, none⟩), .pointer (some ⟨cf, 0, none⟩), .pointer (some ⟨ct, 0, none⟩)])
    (fun D l _ K => XGo H W left b9 b10 b11 b12 l D none K ∨ XGo H W left b9 b10 b11 b12 l D (some (.exit 0)) K) rfl r40 (by simp) ?_ ?_ ?_
  · intro D l hD hl'
    generalize hr : ARec.mk _ _ _ _ _ _ _ _ = r0
    have hst : r0.st = .ready := by rw [← hr]
    have hpe : r0.pe = none := by rw [← hr]
    have hps : r0.ps.size = 1 := by rw [← hr]; rfl
    have hDl : D ≠ l := by intro e; subst e; simp [Heap.set] at hl'
    have hl3 : K4 l = none := by simpa [Heap.set, hDl.symm] using hl'
    have ne1 : ∀ {c : Nat} {o : AObj}, K4 c = some o → c ≠ D := by rintro c o hc rfl; rw [hc] at hD; cases hD
    have ne2 : ∀ {c : Nat} {o : AObj}, K4 c = some o → c ≠ l := by rintro c o hc rfl; rw [hc] at hl3; cases hl3
    have eD : H D = none := l1.none hD
    have el : H l = none := l1.none hl3
    have i9 := ne2 k9
    have i10 := ne2 k10
    have i11 := ne2 k11
    have i12 := ne2 k12
    have j9 := ne1 k9
    have j10 := ne1 k10
    have j11 := ne1 k11
    have j12 := ne1 k12
    generalize hKs : (K4.set D .dfr).set l (.lrec r0) = Ks
    have ls : HLe K4 Ks := by rw [← hKs]; exact (HLe.set_fresh hD).trans (HLe.set_fresh hl')
    have sl : Ks l = some (.lrec r0) := by rw [← hKs]; simp [Heap.set]
    have sD : Ks D = some .dfr := by rw [← hKs]; simp [Heap.set, hDl]
    clear hKs
    have lH := l1.trans ls
    have s9 := ls _ _ k9
    have s10 := ls _ _ k10
    have s11 := ls _ _ k11
    have s12 := ls _ _ k12
    have np : ∀ {p c : Nat} {o : AObj}, Ks p = none → Ks c = some o → c ≠ p := by rintro p c o hp hc rfl; rw [hc] at hp; cases hp
    refine (c_pAllIt (ly := l) (bj := cj) (bf := cf) (bt := ct) (js := js) (fr := fr) (tt := tt) (hG.le lH) (by omega) hex
      (JGo H W left b9 b10 b11 b12 l D r0) (XGo H W left b9 b10 b11 b12 l D (some (.exit 0))) ?_ ?_ ?_ ?_ ?_ ?_ ?_ ?_ (ls _ _ q1) (ls _ _ q2) (ls _ _ q3)).mono ?_
    · rintro j K h
      exact (hG.le h.le).ctz
    · rintro j K K' ⟨h1, h2, h3, g1, g2, g3, g4, g5, g6⟩ hle
      exact ⟨h1, h2, h3.trans hle, hle _ _ g1, hle _ _ g2, hle _ _ g3, hle _ _ g4, hle _ _ g5, hle _ _ g6⟩
    · rintro j K p o o' ⟨h1, h2, h3, g1, g2, g3, g4, g5, g6⟩ hp _ _
      have p1 := np hp s9
      have p2 := np hp s10
      have p3 := np hp s11
      have p4 := np hp s12
      have p5 := np hp sl
      have p6 := np hp sD
      exact ⟨h1, h2, HLe.set_new h3 (lH.none hp), by simp [Heap.set, p1, g1], by simp [Heap.set, p2, g2], by simp [Heap.set, p3, g3], by simp [Heap.set, p4, g4], by simp [Heap.set, p5, g5], by simp [Heap.set, p6, g6]⟩
    · rintro K p o o' ⟨h3, g1, g2, g3, ⟨n, g4, hn⟩, ⟨r', g5, h5⟩, g6⟩ hp _ _
      have p1 := np hp s9
      have p2 := np hp s10
      have p3 := np hp s11
      have p4 := np hp s12
      have p5 := np hp sl
      have p6 := np hp sD
      exact ⟨HLe.set_new h3 (lH.none hp), by simp [Heap.set, p1, g1], by simp [Heap.set, p2, g2], by simp [Heap.set, p3, g3], ⟨n, by simp [Heap.set, p4, g4], hn⟩, ⟨r', by simp [Heap.set, p5, g5], h5⟩, by simp [Heap.set, p6, g6]⟩
    · rintro j K p o ⟨h1, h2, h3, g1, g2, g3, g4, g5, g6⟩ hp _ _
      have p1 := np hp s9
      have p2 := np hp s10
      have p3 := np hp s11
      have p4 := np hp s12
      have p5 := np hp sl
      have p6 := np hp sD
      exact ⟨h1, h2, HLe.del_new h3 (lH.none hp), by simp [Heap.del, p1, g1], by simp [Heap.del, p2, g2], by simp [Heap.del, p3, g3], by simp [Heap.del, p4, g4], by simp [Heap.del, p5, g5], by simp [Heap.del, p6, g6]⟩
    · rintro K p o ⟨h3, g1, g2, g3, ⟨n, g4, hn⟩, ⟨r', g5, h5⟩, g6⟩ hp _ _
      have p1 := np hp s9
      have p2 := np hp s10
      have p3 := np hp s11
      have p4 := np hp s12
      have p5 := np hp sl
      have p6 := np hp sD
      exact ⟨HLe.del_new h3 (lH.none hp), by simp [Heap.del, p1, g1], by simp [Heap.del, p2, g2], by simp [Heap.del, p3, g3], ⟨n, by simp [Heap.del, p4, g4], hn⟩, ⟨r', by simp [Heap.del, p5, g5], h5⟩, by simp [Heap.del, p6, g6]⟩
    · rintro j K z hz ⟨h1, h2, h3, g1, g2, g3, g4, g5, g6⟩
      have hWj := hWat h1 hz
      have hjW : j < W.length := (List.getElem?_eq_some_iff.1 hWj).1
      have hWj' : W[j] = (z.1, (jobOf js z.2).id) := (List.getElem?_eq_some_iff.1 hWj).2
      refine ACalls.round g5 (by simp [hps]) ?_
      obtain ⟨r9', hr9⟩ : ∃ r9, r0 = r9 := ⟨_, rfl⟩
      clear hps hst hpe
      subst hr
      simp -implicitDefEqProofs [aputs]
      refine AAlloc.intro fun b13 f13 => ?_
      simp -implicitDefEqProofs
      generalize hKa : Heap.set _ b13 _ = Ka
      have la : HLe K Ka := by rw [← hKa]; exact HLe.set_fresh f13
      have k13 : Ka b13 = some (.cells [.sc (.int .i64 (z.1 : Int)), .sc (.int .u64 ((jobOf js z.2).id : Int))] 111) := by rw [← hKa]; simp [Heap.set]
      clear hKa
      have g5a := la _ _ g5
      refine AGo.bgn rfl g5a rfl ?_
      rw [hr9] at g5 g5a sl ⊢
      generalize hrb : ARec.mk _ _ _ _ _ _ _ _ = rb
      generalize hKb : Heap.set Ka l _ = Kb
      have b13l : b13 ≠ l := by rintro rfl; rw [k13] at g5a; simp at g5a
      have m13 : Kb b13 = some (.cells [.sc (.int .i64 (z.1 : Int)), .sc (.int .u64 ((jobOf js z.2).id : Int))] 111) := by rw [← hKb]; simp only [Heap.set, if_neg b13l]; exact k13
      have mle : HLe H Kb := by rw [← hKb]; exact HLe.set_new (h3.trans la) el
      have ml : Kb l = some (.lrec rb) := by rw [← hKb]; simp [Heap.set]
      have mD : Kb D = some .dfr := by rw [← hKb]; simp only [Heap.set, if_neg hDl]; exact la _ _ g6
      have m9 : Kb b9 = some (.cells [.sc (.int .i64 left)] 3) := by rw [← hKb]; simp only [Heap.set, if_neg i9]; exact la _ _ g1
      have m10 : Kb b10 = some (.cells [.sc (.bool false)] 4) := by rw [← hKb]; simp only [Heap.set, if_neg i10]; exact la _ _ g2
      have m11 : Kb b11 = some (.cells [.sl (W.map itAV) .no] 105) := by rw [← hKb]; simp only [Heap.set, if_neg i11]; exact la _ _ g3
      have m12 : Kb b12 = some (.cells [.sc (.int .i64 (j : Int))] 3) := by rw [← hKb]; simp only [Heap.set, if_neg i12]; exact la _ _ g4
      have hkeep : KeepN Ks K Kb := by
        intro p o hp hK _
        have : p ≠ l := by rintro rfl; rw [sl] at hp; cases hp
        rw [← hKb]
        simp only [Heap.set, if_neg this]
        exact la _ _ hK
      clear hKb k13 g5a
      have hjn : ¬ (W.length : Int) ≤ (j : Int) := by omega
      have hjn2 : ¬ W.length ≤ j := by omega
      obtain ⟨j1, hj1⟩ : ∃ q, j + 1 = q := ⟨_, rfl⟩
      have hwj : IntKind.i64.wrap ((j : Int) + 1) = (j1 : Int) := wadd (b := 1) hj1 (by omega)
      have fin : ∀ K', K' = Kb.set b12 (.cells [.sc (.int .i64 (j1 : Int))] 3) → KeepN Ks K K' ∧ HLe H K' ∧ K' b9 = some (.cells [.sc (.int .i64 left)] 3) ∧ K' b10 = some (.cells [.sc (.bool false)] 4) ∧ K' b11 = some (.cells [.sl (W.map itAV) .no] 105) ∧ K' b12 = some (.cells [.sc (.int .i64 (j1 : Int))] 3) ∧ K' l = some (.lrec rb) ∧ K' D = some .dfr := by
        rintro K' rfl
        refine ⟨fun p o hp hK ho => ?_, HLe.set_new mle e12, by simp [Heap.set, n912, m9], by simp [Heap.set, n1012, m10], by simp [Heap.set, n1112, m11], by simp [Heap.set], by simp [Heap.set, i12.symm, ml], by simp [Heap.set, j12.symm, mD]⟩
        have p2 : p ≠ b12 := by rintro rfl; rw [s12] at hp; cases hp
        simp only [Heap.set, if_neg p2]
        exact hkeep p o hp hK ho
      have finl : ∀ K' o, KeepN Ks K K' → KeepN Ks K (K'.set l o) := fun K' o h p o2 hp hK ho => by
        have p1 : p ≠ l := by rintro rfl; rw [sl] at hp; cases hp
        simp only [Heap.set, if_neg p1]
        exact h p o2 hp hK ho
      clear hkeep np
      have hf1 := go_fin1 (left := left) hjW h2
      have hf2 := go_fin2 (left := left) hjW
      rw [hj1] at hf1 hf2
      simp -implicitDefEqProofs
      refine go_draw 12 f_mixed (by decide +kernel) ?_
      by_cases hc1 : left ≤ (j1 : Int)
      · simp -implicitDefEqProofs [r9, r10, r11, r12, m9, m10, m11, m12, m13, hjn, hjn2, hjW, hWj', n912, hwj, hc1]
        generalize hK' : Heap.set Kb b12 _ = K'
        obtain ⟨f0, f1, f2, f3, f4, f5, f6, f7⟩ := fin K' hK'.symm
        exact ⟨rb, f6, finl _ _ f0, .inr ⟨rfl, ⟨HLe.set_new f1 el, by simp [Heap.set, i9, f2], by simp [Heap.set, i10, f3], by simp [Heap.set, i11, f4], ⟨j1, by simp [Heap.set, i12, f5], hf1 hc1⟩, ⟨_, by simp [Heap.set]; rfl, by simp, by simp⟩, by simp [Heap.set, hDl, f7]⟩⟩⟩
      · by_cases hc2 : j1 = 60
        · have hf2 := hf2 hc1 hc2 hWl60
          subst hc2
          have hw60 : ((60 : Nat) : Int) = 60 := rfl
          rw [hw60] at hwj fin hc1
          simp -implicitDefEqProofs [r9, r10, r11, r12, m9, m10, m11, m12, m13, hjn, hjn2, hjW, hWj', n912, hwj, hc1]
          generalize hK' : Heap.set Kb b12 _ = K'
          obtain ⟨f0, f1, f2, f3, f4, f5, f6, f7⟩ := fin K' hK'.symm
          exact ⟨rb, f6, finl _ _ f0, .inr ⟨rfl, ⟨HLe.set_new f1 el, by simp [Heap.set, i9, f2], by simp [Heap.set, i10, f3], by simp [Heap.set, i11, f4], ⟨60, by simp [Heap.set, i12, f5], hf2⟩, ⟨_, by simp [Heap.set]; rfl, by simp, by simp⟩, by simp [Heap.set, hDl, f7]⟩⟩⟩
        · have hc2' : ¬ (j1 : Int) = 60 := fun h => hc2 (Int.ofNat.inj h)
          simp -implicitDefEqProofs [r9, r10, r11, r12, m9, m10, m11, m12, m13, hjn, hjn2, hjW, hWj', n912, hwj, hc1, hc2, hc2']
          generalize hK' : Heap.set Kb b12 _ = K'
          obtain ⟨f0, f1, f2, f3, f4, f5, f6, f7⟩ := fin K' hK'.symm
          refine ⟨rb, f6, finl _ _ f0, .inl ⟨rfl, ?_⟩⟩
          rw [hj1]
          exact ⟨Nat.lt_of_le_of_ne (by rw [← hj1]; exact h1) hc2, .inr (Int.not_le.1 hc1), HLe.set_new f1 el, by simp [Heap.set, i9, f2], by simp [Heap.set, i10, f3], by simp [Heap.set, i11, f4], by simp [Heap.set, i12, f5], by simp [Heap.set]; rw [← hrb, ← hr9], by simp [Heap.set, hDl, f7]⟩
    · exact ⟨by omega, .inl rfl, lH, s9, s10, s11, s12, sl, sD⟩
    · rintro v K (⟨h1, h2, h3, g1, g2, g3, g4, g5, g6⟩ | h)
      · exact .inl ⟨h3, g1, g2, g3, ⟨_, g4, go_fin3 rfl hWl h1 h2⟩, ⟨_, g5, by rw [hst]; simp, hpe⟩, g6⟩
      · exact .inr h
  · rintro D l v K hD hl (⟨_, _, _, _, _, ⟨r, h1, h2, _⟩, _⟩ | ⟨_, _, _, _, _, ⟨r, h1, h2, _⟩, _⟩)
    · exact ⟨r, h1, h2⟩
    · exact ⟨r, h1, h2⟩
  · rintro D l v K r hD hl hres hK
    have hDl : D ≠ l := by intro e; subst e; simp [Heap.set] at hl
    have hl3 : K4 l = none := by simpa [Heap.set, hDl.symm] using hl
    have eD := l1.none hD
    have el := l1.none hl3
    obtain ⟨p, hp, le, g9, g10, g11, ⟨n, g12, hn⟩, ⟨r', gl, _, hpe⟩, gD⟩ : ∃ p, (p = none ∨ p = some (.exit 0)) ∧ XGo H W left b9 b10 b11 b12 l D p K := by
      rcases hres with h | h
      · exact ⟨_, .inl rfl, h⟩
      · exact ⟨_, .inr rfl, h⟩
    rw [gl] at hK
    cases hK
    have ne1 : ∀ {c : Nat} {cs : List AV} {T : TypeId}, K c = some (.cells cs T) → c ≠ D := by rintro c cs T hc rfl; rw [hc] at gD; cases gD
    have ne2 : ∀ {c : Nat} {cs : List AV} {T : TypeId}, K c = some (.cells cs T) → c ≠ l := by rintro c cs T hc rfl; rw [hc] at gl; cases gl
    have i1 := ne1 g9
    have i2 := ne1 g10
    have i3 := ne1 g11
    have i4 := ne1 g12
    have j1 := ne2 g9
    have j2 := ne2 g10
    have j3 := ne2 g11
    have j4 := ne2 g12
    have hnX : (n : Int) = if (if left < 1 then 1 else left) < (W.length : Int) then (if left < 1 then 1 else left) else (W.length : Int) := by
      split <;> split <;> omega
    rcases hp with rfl | rfl
    · simp -implicitDefEqProofs [hpe, del_apply, r9, r10, r11, r12, mark_ret, mark_nrm, hDl, gD, g9, g10, g11, g12, i1, i2, i3, i4, j1, j2, j3, j4]
      exact ⟨i2.symm, hnX, HWk.delNew eD (HWk.new e10 (HWk.delNew el le.wk))⟩
    · simp -implicitDefEqProofs [hpe, del_apply, r9, r10, r11, r12, mark_ret, mark_nrm, hDl, gD, g9, g10, g11, g12, i1, i2, i3, i4, j1, j2, j3, j4]
      exact ⟨i2.symm, hnX, HWk.delNew eD (HWk.new e10 (HWk.delNew el le.wk))⟩
end Go.Proofs.YtmoncokklkiikaaGreatDoor
