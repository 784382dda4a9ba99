/- What plans' laws use: rows that are the same, items, which jobs are too many; the chapter's rows. Which jobs are too many for plans' laws; sets of numbers as maps. PlanCut: what is cut in two; items joined; the law's walk. Rows of one's own made by an append onto nothing, to be changed in place; such a row handed on. PlanFree: the law's walk. Plans, plainly: what is within the longest time without an item; how many run at once; where nothing clashes. Plans, plainly: a job more. -/
import Derived.Test.YtmoncokklkiikaaGreatDoorP22
import Derived.Test.YtmoncokklkiikaaGreatDoorP09
import Derived.Test.YtmoncokklkiikaaGreatDoorP10
set_option linter.unusedSimpArgs false
set_option linter.unusedVariables false
set_option linter.unnecessarySimpa false
namespace Go.Proofs.YtmoncokklkiikaaGreatDoor
open Rg Go
variable {H : Heap}
def PI.it (y : PI) : Nat × Nat := (y.at_, y.job)
abbrev itAV (p : Nat × Nat) : AV := .agg [.sc (.int .i64 (p.1 : Int)), .sc (.int .u64 (p.2 : Int))]
theorem pit_it (L : List PI) : L.map pitAV = (L.map PI.it).map itAV := by
  rw [List.map_map]; rfl
set_option maxHeartbeats 4000000 in
theorem c_equalP (L M : List (Nat × Nat)) (t u : Rg.Tok) (hL : L.length ≤ 1000000) : AOk Tryz.prog 58 [.sl (L.map itAV) t, .sl (M.map itAV) u] H (.sc (.bool (decide (L = M)))) H := by
  refine ACalls.into Tryz.func58 rfl Tryz.ntmps58 Tryz.results58 (by simp) ?_
  simp -implicitDefEqProofs
  by_cases hl : L.length = M.length
  · have hl' : (L.length : Int) = (M.length : Int) := by omega
    simp -implicitDefEqProofs [hl, hl']
    refine AGo.rounds (fun m ρ K => ∃ i, m = L.length - i ∧ i ≤ L.length ∧ L.take i = M.take i ∧ ρ 13 = .sc (.int .i64 (i : Int)) ∧ ρ 0 = .sl (L.map itAV) t ∧ ρ 1 = .sl (M.map itAV) u ∧ ρ 12 = .sc (.int .i64 (M.length : Int)) ∧ K = H) ?_ (m := L.length) (HLe.refl _)
      ⟨0, rfl, by omega, by simp, by simp, by simp, by simp, by simp, rfl⟩
    rintro m ρ K ih ⟨i, rfl, hi, hti, r13, r0, r1, r12, rfl⟩
    rcases Nat.lt_or_ge i L.length with hlt | hge
    · have hlm : i < M.length := by omega
      obtain ⟨x, hx, hx2⟩ := getAt hlt
      obtain ⟨y, hy, hy2⟩ := getAt hlm
      have hlt' : (i : Int) < (L.length : Int) := by omega
      have hlm' : (i : Int) < (M.length : Int) := by omega
      have hw1 : IntKind.i64.wrap ((i : Int) + 1) = ((i + 1 : Nat) : Int) := wadd (b := 1) rfl (by omega)
      simp -implicitDefEqProofs [r13, r0, r1, r12, hlm, hlm']
      refine go_draw 9 f_mixed (by decide +kernel) ?_
      by_cases hxy : x = y
      · subst hxy
        simp -implicitDefEqProofs [r13, r0, r1, r12, hlt, hlm, hx, hy, hw1]
        refine AGo.again ih (m' := L.length - (i + 1)) (by omega) (HLe.refl _) ⟨i + 1, rfl, by omega, ?_, by simp, by simp [r0], by simp [r1], by simp [r12], rfl⟩
        rw [List.take_add_one, List.take_add_one, hti, hx2, hy2]
      · have hne : ¬ L = M := by
          intro e
          subst e
          rw [hx2] at hy2
          cases hy2
          exact hxy rfl
        have hb : (!((x.1 : Int) == (y.1 : Int)) || !((x.2 : Int) == (y.2 : Int))) = true := by
          by_cases h1 : x.1 = y.1
          · have h2 : ¬ x.2 = y.2 := fun h2 => hxy (Prod.ext h1 h2)
            have h2' : ¬ (x.2 : Int) = (y.2 : Int) := by omega
            simp [h2']
          · have h1' : ¬ (x.1 : Int) = (y.1 : Int) := by omega
            simp [h1']
        simp -implicitDefEqProofs [r13, r0, r1, r12, hlt, hlm, hx, hy, hb, hne]
    · have hn : ¬ (i : Int) < (M.length : Int) := by omega
      have hn' : ¬ i < M.length := by omega
      have he : L = M := by rw [List.take_of_length_le hge, List.take_of_length_le (by omega)] at hti; exact hti
      simp -implicitDefEqProofs [r13, r0, r1, r12, hn, hn', he]
  · have hl' : ¬ (L.length : Int) = (M.length : Int) := by omega
    have hne : ¬ L = M := fun e => hl (by rw [e])
    simp -implicitDefEqProofs [hl, hl', hne]
def ty6 : List UInt8 := [42, 47, 51, 48, 32, 42, 32, 42, 32, 42, 32, 42]
def yx6 : Ex := ⟨⟨1073741825, true⟩, ⟨16777215, true⟩, ⟨4294967294, true⟩, ⟨8190, true⟩, ⟨127, true⟩⟩
set_option maxRecDepth 100000 in
theorem ky6 : cronK ty6 = (yx6, 0) := by decide +kernel
def jPa : Jb := ⟨1, [97], ty5, 2, 0, 1, 0, 4000, [], false, 0, 0⟩
def jPb : Jb := ⟨2, [98], ty6, 2, 0, 1, 0, 60, [], false, 0, 0⟩
theorem jPa_live : liveJ jPa = true := by
  have e : (cronK jPa.ex).2 = 0 := by rw [show jPa.ex = ty5 from rfl, ky5]
  unfold liveJ mayJ
  rw [e]
  decide
theorem jPb_live : liveJ jPb = true := by
  have e : (cronK jPb.ex).2 = 0 := by rw [show jPb.ex = ty6 from rfl, ky6]
  unfold liveJ mayJ
  rw [e]
  decide
theorem bit6 : ∀ m, m < 60 → hasB yx6.a.bits ((m : Nat) : Int) = true → m = 0 ∨ m = 30 := by decide +kernel
theorem fires_a : firesL yx5 0 7200 = [3600, 7200] := by
  refine pNat_eq (fires_sorted _ _ _) (by decide) fun k => ?_
  rw [fires_mem]
  constructor
  · rintro ⟨h1, h2, h3⟩
    obtain ⟨n, h, m, g1, g2, g3, rfl, _, _, g5, _⟩ := fire_inv (by omega) h3
    have := bit0 m g3 g5
    simp only [List.mem_cons, List.not_mem_nil, or_false]
    omega
  · intro hk
    simp only [List.mem_cons, List.not_mem_nil, or_false] at hk
    rcases hk with rfl | rfl
    · exact ⟨by omega, by omega, fire5 1 (by omega)⟩
    · exact ⟨by omega, by omega, fire5 2 (by omega)⟩
theorem fire6 : ∀ i, i < 25 → fireB yx6 (1800 * i) = true := by decide +kernel
theorem fires_b : firesL yx6 0 7200 = [1800, 3600, 5400, 7200] := by
  refine pNat_eq (fires_sorted _ _ _) (by decide) fun k => ?_
  rw [fires_mem]
  constructor
  · rintro ⟨h1, h2, h3⟩
    obtain ⟨n, h, m, g1, g2, g3, rfl, _, _, g5, _⟩ := fire_inv (by omega) h3
    have := bit6 m g3 g5
    simp only [List.mem_cons, List.not_mem_nil, or_false]
    omega
  · intro hk
    simp only [List.mem_cons, List.not_mem_nil, or_false] at hk
    rcases hk with rfl | rfl | rfl | rfl
    · exact ⟨by omega, by omega, fire6 1 (by omega)⟩
    · exact ⟨by omega, by omega, fire6 2 (by omega)⟩
    · exact ⟨by omega, by omega, fire6 3 (by omega)⟩
    · exact ⟨by omega, by omega, fire6 4 (by omega)⟩
theorem plan_two : planL [jPa, jPb] 0 7200 = [(1800, 1), (3600, 0), (3600, 1), (5400, 1), (7200, 0), (7200, 1)] := by
  have ea : restJ 0 7200 jPa = [3600, 7200] := by
    unfold restJ
    rw [if_pos jPa_live, show jPa.ex = ty5 from rfl, ky5]
    exact fires_a
  have eb : restJ 0 7200 jPb = [1800, 3600, 5400, 7200] := by
    unfold restJ
    rw [if_pos jPb_live, show jPb.ex = ty6 from rfl, ky6]
    exact fires_b
  unfold planL
  rw [List.map_cons, List.map_cons, List.map_nil, ea, eb]
  decide
def itemsTwo : List PI := [⟨1800, 2, 1, 60, 1⟩, ⟨3600, 1, 0, 4000, 1⟩, ⟨3600, 2, 1, 60, 1⟩, ⟨5400, 2, 1, 60, 1⟩, ⟨7200, 1, 0, 4000, 1⟩, ⟨7200, 2, 1, 60, 1⟩]
theorem planI_two : planI [jPa, jPb] 0 7200 9 = itemsTwo := by
  unfold planI planZ
  rw [if_pos (by decide), show (0 : Int).toNat = 0 from rfl, show (7200 : Int).toNat = 7200 from rfl, plan_two]
  rfl
theorem planI_five : planI [jPa, jPb] 5 5 9 = [] := by
  unfold planI planZ
  rw [if_neg (by decide)]
  rfl
theorem planI_zero : planI [jPa, jPb] 0 7200 0 = [] := rfl
theorem jobs_two : JobsOk [jPa, jPb] := by
  refine ⟨by decide, ?_, ?_, by decide⟩
  · intro j hj
    simp only [List.mem_cons, List.not_mem_nil, or_false] at hj
    rcases hj with rfl | rfl <;> decide
  · intro j hj
    simp only [List.mem_cons, List.not_mem_nil, or_false] at hj
    rcases hj with rfl | rfl <;> decide
theorem c_two : AOk Tryz.prog 124 [] H (.sl (jobsAV [jPa, jPb]) .no) H := by
  refine ACalls.into Tryz.func124 rfl Tryz.ntmps124 Tryz.results124 (by simp) ?_
  simp -implicitDefEqProofs
  refine AAlloc.intro fun b1 h1 => ?_
  simp -implicitDefEqProofs
  refine AAlloc.intro fun b2 h2 => ?_
  have n12 : b1 ≠ b2 := by intro e; subst e; simp [Heap.set] at h2
  have e2 : H b2 = none := (HLe.set_fresh h1).none h2
  simp -implicitDefEqProofs [n12, jPa, jPb, ty5, ty6]
  repeat (first | exact HWk.refl _ | refine HWk.new (by assumption) ?_)
theorem c_known37 (hG : Glob H) : AOk Tryz.prog 50 [] H (.sc (.bool true)) H := by
  have hT : GlobT H := hG.ctz
  have f1 := c_pFirst hG hT jobs_two 0 7200 9 (by omega)
  have f2 := c_pPeak hG hT jobs_two 0 7200 9 (by omega)
  have f3 := c_pGap hG hT jobs_two 0 7200 9 (by omega)
  have f4 := c_pClashes hG hT jobs_two 0 7200 9 (by omega)
  have f5 := c_pFirst hG hT jobs_two 5 5 9 (by omega)
  have f6 := c_pFirst hG hT jobs_two 0 7200 0 (by omega)
  rw [planI_two] at f1 f2 f3 f4
  rw [planI_five] at f5
  rw [planI_zero] at f6
  rw [show peakP itemsTwo = (3, 7200) by decide] at f2
  rw [show gapP itemsTwo 0 7200 = (0, 1800) by decide] at f3
  rw [show clashP itemsTwo = [⟨7200, 1, 0, 4000, 1⟩] from by kernel_rfl] at f4
  have g1 := c_equalP (H := H) [(1800, 2), (3600, 1), (3600, 2), (5400, 2), (7200, 1), (7200, 2)] [(1800, 2), (3600, 1), (3600, 2), (5400, 2), (7200, 1), (7200, 2)] .no .full (by decide)
  have g2 := c_equalP (H := H) [(7200, 1)] [(7200, 1)] .no .full (by decide)
  simp only [itemsTwo, List.map_cons, List.map_nil] at f1 f4 f5 f6 g1 g2
  refine ACalls.into Tryz.func50 rfl Tryz.ntmps50 Tryz.results50 (by simp) ?_
  simp -implicitDefEqProofs
  refine ACall.eq c_two ?_
  simp -implicitDefEqProofs
  refine ACall.eq f1 ?_
  simp -implicitDefEqProofs
  refine ACall.eq c_two ?_
  simp -implicitDefEqProofs
  refine ACall.eq f2 ?_
  simp -implicitDefEqProofs
  refine ACall.eq c_two ?_
  simp -implicitDefEqProofs
  refine ACall.eq f3 ?_
  simp -implicitDefEqProofs
  refine ACall.eq g1 ?_
  simp -implicitDefEqProofs
  refine ACall.eq c_two ?_
  simp -implicitDefEqProofs
  refine ACall.eq f4 ?_
  simp -implicitDefEqProofs
  refine ACall.eq g2 ?_
  simp -implicitDefEqProofs
  refine ACall.eq c_two ?_
  simp -implicitDefEqProofs
  refine ACall.eq f5 ?_
  simp -implicitDefEqProofs
  refine ACall.eq c_two ?_
  simp -implicitDefEqProofs
  refine ACall.eq f6 ?_
  simp -implicitDefEqProofs
end Go.Proofs.YtmoncokklkiikaaGreatDoor
namespace Go.Proofs.YtmoncokklkiikaaGreatDoor
open Rg Go
variable {H : Heap}
abbrev u64V (n : Nat) : AV := .sc (.int .u64 (n : Int))
def setU (D : List Nat) : List (AV × AV × Nat) := D.zipIdx.map fun p => (u64V p.1, .agg [], p.2)
theorem setU_snoc (D : List Nat) (a : Nat) : setU (D ++ [a]) = setU D ++ [(u64V a, .agg [], D.length)] := by
  unfold setU
  rw [List.zipIdx_append]
  simp
theorem aeqv_u64 (k x : Nat) : aeqv Tryz.prog 5 22 (u64V k) (u64V x) = some (decide (k = x)) := by
  have e : decide (k = x) = decide ((k : Int) = (x : Int)) := by
    by_cases h : k = x
    · subst h; simp
    · have : ¬ (k : Int) = (x : Int) := by omega
      simp [h, this]
  rw [e]
  unfold u64V aeqv
  simp [tkd_22]
  rfl
theorem leastU (p : Nat → Prop) : ∀ n, p n → ∃ m, m ≤ n ∧ p m ∧ ∀ k, k < m → ¬ p k := fun n => by
  induction n using Nat.strongRecOn with
  | _ n ih =>
    intro hn
    by_cases h : ∃ k, k < n ∧ p k
    · obtain ⟨k, hk, hp⟩ := h
      obtain ⟨m, h1, h2, h3⟩ := ih k hk hp
      exact ⟨m, by omega, h2, h3⟩
    · exact ⟨n, Nat.le_refl n, hn, fun k hk hp => h ⟨k, hk, hp⟩⟩
theorem setU_hit {D : List Nat} {a : Nat} (h : a ∈ D) : ∃ i, afind Tryz.prog 22 (u64V a) (setU D) 0 = some (some (i, .agg [])) := by
  obtain ⟨n, hn, hmin⟩ : ∃ n, D[n]? = some a ∧ ∀ j, j < n → D[j]? ≠ some a := by
    obtain ⟨n, hn⟩ := List.getElem?_of_mem h
    obtain ⟨m, h1, h2, h3⟩ := leastU (fun k => D[k]? = some a) n hn
    exact ⟨m, h2, h3⟩
  have hz : D.zipIdx[n]? = some (a, n) := by simp [List.getElem?_zipIdx, hn]
  refine ⟨n, ?_⟩
  have := afind_hit (P := Tryz.prog) (kt := 22) (k := u64V a) (fun p : Nat × Nat => u64V p.1) (fun _ => .agg []) (fun p => p.2) (fun p => decide (a = p.1)) D.zipIdx 0 n (a, n) (fun p _ => aeqv_u64 a p.1) hz (by simp) fun j p hj hp => by
    simp only [decide_eq_false_iff_not]
    intro e
    simp only [List.getElem?_zipIdx, Option.map_eq_some_iff] at hp
    obtain ⟨y, h1, h2⟩ := hp
    rw [← h2] at e
    exact hmin j hj (by rw [h1, e])
  rw [Nat.zero_add] at this
  exact this
theorem setU_miss {D : List Nat} {a : Nat} (h : a ∉ D) : afind Tryz.prog 22 (u64V a) (setU D) 0 = some none := by
  refine afind_miss (P := Tryz.prog) (kt := 22) (k := u64V a) (fun p : Nat × Nat => u64V p.1) (fun _ => .agg []) (fun p => p.2) (fun p => decide (a = p.1)) D.zipIdx 0 (fun p _ => aeqv_u64 a p.1) fun p hp => ?_
  simp only [decide_eq_false_iff_not]
  rintro rfl
  exact h (List.fst_mem_of_mem_zipIdx hp)
theorem mapTU : Tryz.prog.underlying 184 = some (.map 22 82) := by kernel_rfl
theorem uintT : Tryz.prog.underlying 22 = some (.int .u64) := by kernel_rfl
theorem u64_check (a : Nat) : acheck Tryz.prog 3 22 (u64V a) = true := by
  unfold acheck
  rw [uintT]
def bigJ (j : Jb) : Bool := decide (1000 < IntKind.i64.wrap ((j.name.length : Int) + (j.ex.length : Int))) || decide (20 < j.deps.length)
def heavyGo : List Nat → List Jb → Bool
  | _, [] => false
  | seen, j :: r => decide (j.id ∈ seen) || bigJ j || heavyGo (seen ++ [j.id]) r
def heavyP (js : List Jb) (most : Int) : Bool := heavyGo [] js || decide (12 < js.length) || decide (60 < most)
theorem heavy_no : ∀ (js : List Jb) (seen : List Nat), heavyGo seen js = false → (∀ j ∈ js, j.id ∉ seen ∧ j.deps.length ≤ 20) ∧ (js.map Jb.id).Nodup
  | [], _, _ => ⟨by simp, List.nodup_nil⟩
  | j :: r, seen, h => by
    unfold heavyGo bigJ at h
    simp only [Bool.or_eq_false_iff, decide_eq_false_iff_not] at h
    obtain ⟨⟨h1, _, h2⟩, h3⟩ := h
    obtain ⟨g1, g2⟩ := heavy_no r _ h3
    refine ⟨fun k hk => ?_, ?_⟩
    · rcases List.mem_cons.1 hk with e | hk
      · rw [e]; exact ⟨h1, by omega⟩
      · exact ⟨fun hs => (g1 k hk).1 (List.mem_append.2 (.inl hs)), (g1 k hk).2⟩
    · rw [List.map_cons, List.nodup_cons]
      refine ⟨fun hm => ?_, g2⟩
      obtain ⟨k, hk, e⟩ := List.mem_map.1 hm
      exact (g1 k hk).1 (List.mem_append.2 (.inr (by rw [e]; simp)))
theorem heavy_ok {js : List Jb} {most : Int} (hex : ∀ j ∈ js, j.ex.length ≤ 9223372036854775807) (h : heavyP js most = false) : JobsOk js ∧ js.length ≤ 12 ∧ most ≤ 60 := by
  unfold heavyP at h
  simp only [Bool.or_eq_false_iff, decide_eq_false_iff_not] at h
  obtain ⟨⟨h1, h2⟩, h3⟩ := h
  obtain ⟨g1, g2⟩ := heavy_no js [] h1
  exact ⟨⟨by omega, hex, fun j hj => by have := (g1 j hj).2; omega, g2⟩, by omega, by omega⟩
set_option maxHeartbeats 8000000 in
theorem c_heavy37 (js : List Jb) (most : Int) (hjs : js.length ≤ 9223372036854775807) : AOk Tryz.prog 51 [.sl (jobsAV js) .no, .sc (.int .i64 most)] H (.sc (.bool (heavyP js most))) H := by
  obtain ⟨R, hR⟩ : ∃ R, heavyGo [] js = R := ⟨_, rfl⟩
  unfold heavyP
  rw [hR]
  refine ACalls.into Tryz.func51 rfl Tryz.ntmps51 Tryz.results51 (by simp) ?_
  simp -implicitDefEqProofs
  refine ACall.intro (c_makeMap 184) fun v K hv => ?_
  obtain ⟨m, hm, rfl, rfl⟩ := hv
  simp -implicitDefEqProofs
  refine AGo.rounds (fun μ ρ K => ∃ (i : Nat), μ = js.length - i ∧ i ≤ js.length ∧ heavyGo ((js.take i).map Jb.id) (js.drop i) = R ∧ ρ 0 = .sl (jobsAV js) .no ∧ ρ 1 = .sc (.int .i64 most) ∧ ρ 5 = .sc (.map (some m)) ∧ ρ 11 = .sl (jobsAV js) .no ∧ ρ 12 = .sc (.int .i64 (js.length : Int)) ∧ ρ 13 = .sc (.int .i64 (i : Int)) ∧ HLe H K ∧
    K m = some (.map (setU ((js.take i).map Jb.id)) i)) ?_ (m := js.length) (HLe.refl _)
    ⟨0, by omega, by omega, hR, by simp, by simp, by simp, by simp, by simp, by simp, HLe.set_fresh hm, by simp [Heap.set, setU]⟩
  clear hR
  rintro μ ρ K ih ⟨i, rfl, hi, hgo, r0, r1, r5, r11, r12, r13, hle, hmK⟩
  rcases Nat.lt_or_ge i js.length with hlt | hge
  · obtain ⟨j, hj, _⟩ := getAt hlt
    have hwi : IntKind.i64.wrap ((i : Int) + 1) = ((i + 1 : Nat) : Int) := wadd (b := 1) rfl (by omega)
    have hDl : ((js.take i).map Jb.id).length = i := by rw [List.length_map, List.length_take]; omega
    have hDs : (js.take (i + 1)).map Jb.id = (js.take i).map Jb.id ++ [j.id] := by
      rw [List.take_succ_eq_append_getElem hlt, List.map_append, hj]; rfl
    rw [List.drop_eq_getElem_cons hlt, heavyGo, hj, ← hDs] at hgo
    have hsn := setU_snoc ((js.take i).map Jb.id) j.id
    rw [← hDs, hDl] at hsn
    obtain ⟨D, hD⟩ : ∃ D, (js.take i).map Jb.id = D := ⟨_, rfl⟩
    rw [hD] at hgo hmK hsn hDl
    simp -implicitDefEqProofs [r11, r12, r13, hlt, hj]
    refine AAlloc.intro fun b7 h7 => ?_
    have nm7 : m ≠ b7 := by rintro rfl; rw [hmK] at h7; cases h7
    simp -implicitDefEqProofs [r5]
    generalize hK1 : Heap.set K b7 _ = K1
    have l1 : HLe K K1 := by rw [← hK1]; exact HLe.set_fresh h7
    have k7 : K1 b7 = some (.cells (jbC j .no) 25) := by rw [← hK1]; simp [Heap.set]
    have hm1 := l1 _ _ hmK
    clear hK1 h7
    by_cases hin : j.id ∈ D
    · have hR : R = true := by rw [← hgo]; simp [hin]
      subst hR
      obtain ⟨q, hq⟩ := setU_hit hin
      refine ACall.eq (c_lookup2 mapTU uintT hm1 (u64_check j.id) hq) ?_
      simp -implicitDefEqProofs
      refine AAlloc.intro fun b8 h8 => ?_
      have n78 : b7 ≠ b8 := by rintro rfl; rw [k7] at h8; cases h8
      simp -implicitDefEqProofs [n78, k7]
      exact HWk.new (hle.none (l1.none h8)) (hle.trans l1).wk
    · have hc2 := c_lookup2_no (z := .agg #[]) mapTU uintT hm1 (u64_check j.id) (by kernel_rfl) (setU_miss hin)
      refine ACall.eq hc2 ?_
      simp -implicitDefEqProofs
      refine AAlloc.intro fun b8 h8 => ?_
      have n78 : b7 ≠ b8 := by rintro rfl; rw [k7] at h8; cases h8
      have nm8 : m ≠ b8 := by rintro rfl; rw [hm1] at h8; cases h8
      have hle := hle.trans l1
      obtain ⟨w, hw⟩ : ∃ w, IntKind.i64.wrap ((j.name.length : Int) + (j.ex.length : Int)) = w := ⟨_, rfl⟩
      unfold bigJ at hgo
      rw [hw] at hgo
      have i20 : (20 : Int) < (j.deps.length : Int) ↔ 20 < j.deps.length := by omega
      by_cases c1 : 1000 < w
      · have hR : R = true := by rw [← hgo]; simp [c1]
        subst hR
        simp -implicitDefEqProofs [n78, k7, hw, c1]
        exact HWk.new (hle.none h8) hle.wk
      · by_cases c2 : 20 < j.deps.length
        · have hR : R = true := by rw [← hgo]; simp [c2]
          subst hR
          simp -implicitDefEqProofs [n78, k7, hw, c1, i20, c2]
          exact HWk.new (hle.none h8) hle.wk
        · have hgo : heavyGo ((js.take (i + 1)).map Jb.id) (js.drop (i + 1)) = R := by
            rw [← hgo]
            simp [hin, c1, c2]
          simp -implicitDefEqProofs [n78, k7, hw, c1, i20, c2, r5]
          generalize hK2 : Heap.set K1 b8 _ = K2
          have l2 : HLe K1 K2 := by rw [← hK2]; exact HLe.set_fresh h8
          have hm2 := l2 _ _ hm1
          have hle := hle.trans l2
          clear hK2
          refine ACall.eq (c_insert mapTU uintT hm2 (u64_check j.id) (setU_miss hin) (.agg [])) ?_
          rw [← hsn]
          simp -implicitDefEqProofs [r13, hwi]
          exact AGo.again ih (m' := js.length - (i + 1)) (by omega) (HLe.refl _) ⟨i + 1, rfl, by omega, hgo, by simp [r0], by simp [r1], by simp [r5], by simp [r11], by simp [r12], by simp, HLe.set_new hle hm, by simp [Heap.set]⟩
  · have hn : ¬ i < js.length := by omega
    rw [List.drop_of_length_le hge] at hgo
    obtain rfl : false = R := hgo
    have i12 : (12 : Int) < (js.length : Int) ↔ 12 < js.length := by omega
    by_cases c1 : 12 < js.length
    · simp -implicitDefEqProofs [r0, r12, r13, hn, i12, c1]
      exact hle.wk
    · simp -implicitDefEqProofs [r0, r1, r12, r13, hn, i12, c1]
      exact hle.wk
end Go.Proofs.YtmoncokklkiikaaGreatDoor
namespace Go.Proofs.YtmoncokklkiikaaGreatDoor
open Rg Go
variable {H : Heap}
abbrev itsAV (L : List (Nat × Nat)) : List AV := L.map itAV
theorem szs_its (L : List (Nat × Nat)) : szs 2 (itsAV L) = true := szs_map (f := itAV) (fun _ => rfl) _
theorem plan_empty (js : List Jb) (a : Nat) : planL js a a = [] := (planL_merged js a a).done fun R hR => by
  obtain ⟨j, _, rfl⟩ := List.mem_map.1 hR
  unfold restJ
  split
  · exact fires_none fun k g1 g2 => by omega
  · rfl
theorem planZ_eq (js : List Jb) {a b : Nat} (h : a ≤ b) (hb : b < 13569465600) : planZ js (a : Int) (b : Int) = planL js a b := by
  unfold planZ
  by_cases hl : a < b
  · rw [if_pos ⟨momP_iff.2 ⟨by omega, by omega⟩, momP_iff.2 ⟨by omega, by omega⟩, by omega⟩]
    rfl
  · obtain rfl : a = b := by omega
    rw [if_neg (fun h => by omega), plan_empty]
theorem planI_all {js : List Jb} {a b : Nat} (h : a ≤ b) (hb : b < 13569465600) (hl : (planI js a b 61).length ≤ 60) : planI js a b 61 = (planL js a b).map (itemOf js) ∧ (planL js a b).length ≤ 60 := by
  unfold planI at *
  rw [planZ_eq js h hb] at *
  rw [List.length_map, List.length_take, show Int.toNat 61 = 61 from rfl] at hl
  rw [show Int.toNat 61 = 61 from rfl, List.take_of_length_le (by omega)]
  exact ⟨rfl, by omega⟩
end Go.Proofs.YtmoncokklkiikaaGreatDoor
namespace Rg
open Go Go.RowKit
variable {P : Program} {W0 w : World} {C : Com} {H : Heap}
theorem ACalls.bareArg {f : FuncId} {g cap sz : Nat} {e : TypeId} {xs zs post : List AV} {R : AV → Heap → Prop} (hg : H g = some (.cells (xs.flatMap AV.cells ++ zs) e)) (hx : szs sz xs = true) (hc : (xs.flatMap AV.cells ++ zs).length = cap * sz) (hn : xs.length ≤ cap) (hm : cap ≤ maxLen)
    (h : ACalls P f (.sl xs (.own g cap sz e) :: post) (H.set g (.open xs.length cap sz e)) R) : ACalls P f (.sc (.slice (some ⟨g, 0, none⟩) xs.length cap) :: post) H R := by
  intro W0 C w vs hi ha
  obtain ⟨v, vs', rfl, hv, hr⟩ := ha.uncons
  obtain rfl := hv.sc_inv
  obtain ⟨C', c1, c2, c3⟩ := hi.ownRow hg hx rfl hc hn hm
  refine (h W0 C' w _ c2 (RelL.cons c3 (hr.mono c1))).mono fun e w' ⟨r, H', C'', v, h1, h2, h3, h4, h5⟩ => ⟨r, H', C'', v, h1, h2, c1.trans h3, h4, h5⟩
theorem ACalls.bareNil {f : FuncId} {post : List AV} {R : AV → Heap → Prop} (h : ACalls P f (.sl [] .nil :: post) H R) : ACalls P f (.sc (.slice none 0 0) :: post) H R := by
  intro W0 C w vs hi ha
  obtain ⟨v, vs', rfl, hv, hr⟩ := ha.uncons
  obtain rfl := hv.sc_inv
  exact h W0 C w _ hi (RelL.cons (.nils _ rfl .nil) hr)
theorem c_clearBare {T e : TypeId} {z : Value} {sz : Nat} (hT : P.underlying T = some (.slice e)) (hz : tzero P e = some z) (hone : ∀ q ∈ z.cells.toList, q.oneCell' = true) (hzs : z.cells.size = sz) (hpos : 0 < sz) {g o n c : Nat} {cs : List AV} {e' : TypeId}
    (hg : H g = some (.cells cs e')) (hfit : o + n * sz ≤ cs.length) : AOk P P.funcs.size (pa 19 T [.sc (.slice (some ⟨g, o, none⟩) n c)]) H (.tup []) (H.set g (.cells (cs.take o ++ (Builtin.zeroCells z.cells n).toList.map .sc ++ cs.drop (o + n * sz)) e')) := by
  refine ACalls.prim fun W0 C w vs hi ha ty => ?_
  obtain ⟨x, vs', rfl, hx, ha⟩ := ha.uncons
  obtain rfl := ha.nil_inv
  obtain rfl := hx.sc_inv
  have g0 : (#[T] : Array TypeId)[0]? = some T := rfl
  have g1 : (#[Value.slice (some ⟨g, o, none⟩) n c] : Array Value)[0]? = some (.slice (some ⟨g, o, none⟩) n c) := rfl
  have hzv : ∀ w, (zeroValue e).run P w = .ok z w := fun w => by
    obtain ⟨i, hi1, hi2⟩ : ∃ i, P.info? e = some i ∧ i.zero = some z := by
      unfold tzero at hz
      cases hinf : P.info? e with
      | none => rw [hinf] at hz; cases hz
      | some i => rw [hinf] at hz; exact ⟨i, rfl, by simpa using hz⟩
    simp [zeroValue, typeInfo, hi1, hi2]
  obtain ⟨hW, us, hcur, hrel, hone0, hcom⟩ := hi.obj _ _ hg
  cases n with
  | zero =>
    refine ⟨.tuple #[], w, by simp [primRun, Builtin.clear_, g0, g1, Sem.run_bind, run_underlying hT w], .tup [], _, C, ⟨rfl, rfl⟩, CLe.refl C, .tup .nil .nil, ?_⟩
    have e1 : cs.take o ++ (Builtin.zeroCells z.cells 0).toList.map .sc ++ cs.drop (o + 0 * sz) = cs := by
      have : (Builtin.zeroCells z.cells 0).toList = [] := List.length_eq_zero_iff.1 (by rw [Array.length_toList, size_zeroCells, Nat.zero_mul])
      rw [this, Nat.zero_mul, Nat.add_zero, List.map_nil, List.append_nil, List.take_append_drop]
    rw [e1]
    have e2 : H.set g (.cells cs e') = H := by
      funext b
      unfold Heap.set
      split
      · rename_i hb; rw [hb, hg]
      · rfl
    rw [e2]
    exact hi
  | succ m =>
    obtain ⟨zl, hzl⟩ : ∃ zl, (Builtin.zeroCells z.cells (m + 1)).toList = zl := ⟨_, rfl⟩
    have hzlen : zl.length = (m + 1) * sz := by rw [← hzl, Array.length_toList, size_zeroCells, hzs]
    have hz1 : ∀ q ∈ zl, q.oneCell' = true := by rw [← hzl]; exact zero_one hone (by omega) _
    have hul := hrel.length
    have hst := run_storeCells_at P g o e' zl 0 us.toArray w hcur (by simp; omega) hz1
    simp only [Nat.add_zero] at hst
    rw [hzl]
    refine ⟨.tuple #[], w.setRow g (us.take o ++ zl ++ us.drop (o + zl.length)).toArray, ?_, .tup [], _, C, ⟨rfl, rfl⟩, CLe.refl C, .tup .nil .nil, ?_⟩
    · simp only [primRun, Builtin.clear_, g0, g1, Sem.run_bind, run_underlying hT w, Result.andThen_ok, hzv, hzl, hst, Sem.run_pure]
    · rw [← hzlen]
      refine hi.setRow hg ?_ ?_
      · rw [← List.take_append_drop o cs] at hrel
        obtain ⟨o1, o2, ho, hr1, hr2⟩ := hrel.split
        have l1 := hr1.length
        rw [List.length_take, Nat.min_eq_left (by omega)] at l1
        have t1 : us.take o = o1 := by rw [ho]; exact List.take_left' l1.symm
        have hr3 : RelL C (cs.drop (o + zl.length)) (us.drop (o + zl.length)) := by
          have h2 := hr2
          rw [← List.take_append_drop zl.length (cs.drop o)] at h2
          obtain ⟨p1, p2, hp, k1, k2⟩ := h2.split
          have l2 := k1.length
          rw [List.length_take, List.length_drop, Nat.min_eq_left (by omega)] at l2
          rw [List.drop_drop] at k2
          have : us.drop (o + zl.length) = p2 := by
            rw [ho, hp, ← List.append_assoc]
            exact List.drop_left' (by rw [List.length_append]; omega)
          rw [this]
          exact k2
        rw [t1]
        exact (hr1.append (relL_scs zl)).append hr3
      · intro q hq
        rcases List.mem_append.1 hq with hq | hq
        · rcases List.mem_append.1 hq with hq | hq
          · exact hone0 q (List.mem_of_mem_take hq)
          · exact hz1 q hq
        · exact hone0 q (List.mem_of_mem_drop hq)
theorem flat_split {xs : List AV} {i : Nat} {c : AV} (hx : xs[i]? = some c) : xs.flatMap AV.cells = (xs.take i).flatMap AV.cells ++ (c.cells ++ (xs.drop (i + 1)).flatMap AV.cells) := by
  obtain ⟨hi, e⟩ := List.getElem?_eq_some_iff.1 hx
  conv => lhs; rw [← List.take_append_drop i xs, List.drop_eq_getElem_cons hi, e]
  rw [List.flatMap_append, List.flatMap_cons]
theorem flat_take_len {xs : List AV} {sz i : Nat} (h : szs sz xs = true) (hi : i ≤ xs.length) : ((xs.take i).flatMap AV.cells).length = i * sz := by
  rw [flat_length (szs_spec (szs_take h i)), List.length_take, Nat.min_eq_left hi]
theorem flat_row {xs zs : List AV} {sz i : Nat} {c : AV} (h : szs sz xs = true) (hx : xs[i]? = some c) : ((xs.flatMap AV.cells ++ zs).drop (i * sz)).take sz = c.cells := by
  have hi := (List.getElem?_eq_some_iff.1 hx).1
  rw [flat_split hx, List.append_assoc, List.append_assoc, List.drop_left' (flat_take_len h (by omega))]
  exact List.take_left' (szs_spec h c (List.mem_of_getElem? hx))
theorem flat_fits {xs zs : List AV} {sz i : Nat} (h : szs sz xs = true) (hi : i < xs.length) : i * sz + sz ≤ (xs.flatMap AV.cells ++ zs).length := by
  rw [List.length_append, flat_length (szs_spec h)]
  have : (i + 1) * sz ≤ xs.length * sz := Nat.mul_le_mul_right _ hi
  rw [Nat.add_mul, Nat.one_mul] at this
  omega
theorem flat_setZ {xs zs : List AV} {sz i k : Nat} {cs : List AV} {v : AV} (h : szs sz xs = true) (hx : xs[i]? = some (.agg cs)) (hk : k < sz) : (xs.flatMap AV.cells ++ zs).set (i * sz + k) v = (xs.set i (.agg (cs.set k v))).flatMap AV.cells ++ zs := by
  obtain ⟨hi, e⟩ := List.getElem?_eq_some_iff.1 hx
  have hl := flat_take_len h (Nat.le_of_lt hi)
  have hcs : cs.length = sz := szs_spec h _ (List.mem_of_getElem? hx)
  have hx' : (xs.set i (.agg (cs.set k v)))[i]? = some (.agg (cs.set k v)) := by rw [List.getElem?_set_self hi]
  have e1 : xs.flatMap AV.cells ++ zs = (xs.take i).flatMap AV.cells ++ (cs ++ ((xs.drop (i + 1)).flatMap AV.cells ++ zs)) := by
    rw [flat_split hx]; simp [AV.cells]
  have e2 : (xs.set i (.agg (cs.set k v))).flatMap AV.cells ++ zs = (xs.take i).flatMap AV.cells ++ (cs.set k v ++ ((xs.drop (i + 1)).flatMap AV.cells ++ zs)) := by
    rw [flat_split hx', List.take_set_of_le (Nat.le_refl i), List.drop_set_of_lt (by omega)]; simp [AV.cells]
  rw [e1, e2, List.set_append_right _ _ (by omega), hl, Nat.add_sub_cancel_left, List.set_append_left _ _ (by omega)]
end Rg
namespace Go.Proofs.YtmoncokklkiikaaGreatDoor
open Rg Go
variable {H : Heap}
theorem szs_jobs (js : List Jb) : szs 12 (jobsAV js) = true := szs_map (f := fun j => jbAV j .no) (fun _ => rfl) _
end Go.Proofs.YtmoncokklkiikaaGreatDoor
namespace Go.Proofs.YtmoncokklkiikaaGreatDoor
open Rg Go
theorem peak_inv (L : List PI) : ∀ (r : List PI) (s : Nat × Nat), (∀ x ∈ r, x ∈ L) → s.1 ≤ L.length → (0 < s.1 → ∃ x ∈ L, s.2 = x.at_) →
    (peakGo L r s).1 ≤ L.length ∧ s.1 ≤ (peakGo L r s).1 ∧ (∀ x ∈ r, cntP L x.at_ ≤ (peakGo L r s).1) ∧ (0 < (peakGo L r s).1 → ∃ x ∈ L, (peakGo L r s).2 = x.at_)
  | [], s, _, h1, h2 => ⟨h1, Nat.le_refl _, by simp, h2⟩
  | x :: r, s, h, h1, h2 => by
    rw [peakGo]
    by_cases hc : s.1 < cntP L x.at_
    · rw [if_pos hc]
      obtain ⟨g1, g2, g3, g4⟩ := peak_inv L r (cntP L x.at_, x.at_) (fun y hy => h y (by simp [hy])) (cntP_le _ _) (fun _ => ⟨x, h x (by simp), rfl⟩)
      refine ⟨g1, by simp only at g2; omega, fun y hy => ?_, g4⟩
      rcases List.mem_cons.1 hy with e | hy
      · rw [e]; exact g2
      · exact g3 y hy
    · rw [if_neg hc]
      obtain ⟨g1, g2, g3, g4⟩ := peak_inv L r s (fun y hy => h y (by simp [hy])) h1 h2
      refine ⟨g1, g2, fun y hy => ?_, g4⟩
      rcases List.mem_cons.1 hy with e | hy
      · rw [e]; omega
      · exact g3 y hy
theorem peak_some {L : List PI} (ht : ∀ y ∈ L, 1 ≤ y.tmo) : (peakP L).1 ≤ L.length ∧ (0 < (peakP L).1 ↔ 0 < L.length) ∧ (0 < (peakP L).1 → ∃ x ∈ L, (peakP L).2 = x.at_) := by
  obtain ⟨g1, _, g3, g4⟩ := peak_inv L L (0, 0) (fun x hx => hx) (Nat.zero_le _) (fun h => absurd h (Nat.lt_irrefl 0))
  refine ⟨g1, ⟨fun h => Nat.lt_of_lt_of_le h g1, fun h => ?_⟩, g4⟩
  obtain ⟨x, hx⟩ := List.exists_mem_of_length_pos h
  have h1 := g3 x hx
  have h2 : 0 < cntP L x.at_ := by
    unfold cntP
    refine List.length_pos_iff.2 (List.ne_nil_of_mem (a := x) (List.mem_filter.2 ⟨hx, ?_⟩))
    have := ht x hx
    unfold runsAt
    simp only [Nat.le_refl, decide_true, Bool.true_and, decide_eq_true_eq]
    omega
  unfold peakP
  omega
theorem planI_mem {js : List Jb} {fr tt most : Int} {y : PI} (h : y ∈ planI js fr tt most) : ∃ z ∈ planL js fr.toNat tt.toNat, y = itemOf js z := by
  obtain ⟨z, hz, rfl⟩ := List.mem_map.1 h
  exact ⟨z, (planZ_mem (List.mem_of_mem_take hz)).2.2, rfl⟩
theorem planI_tmo {js : List Jb} {fr tt most : Int} : ∀ y ∈ planI js fr tt most, 1 ≤ y.tmo ∧ 1 ≤ y.lim := fun y hy => by
  obtain ⟨z, hz, rfl⟩ := planI_mem hy
  have := live_tim (plan_mem hz).2.1
  unfold itemOf
  simp only
  omega
end Go.Proofs.YtmoncokklkiikaaGreatDoor
namespace Go.Proofs.YtmoncokklkiikaaGreatDoor
open Rg Go
theorem more_rest {js : List Jb} {more : Jb} {a b : Nat} : (planL (js ++ [more]) a b).filter (fun z => decide (z.2 < js.length)) = planL js a b := by
  have hm := planL_merged (js ++ [more]) a b
  refine Merged.one (Rs := js.map (restJ a b)) ⟨hm.srt.filter _, fun t i => ?_⟩ (planL_merged js a b)
  simp only [List.mem_filter, decide_eq_true_eq, hm.mem, List.map_append]
  constructor
  · rintro ⟨⟨R, hR, ht⟩, hi⟩
    rw [List.getElem?_append_left (by simpa using hi)] at hR
    exact ⟨R, hR, ht⟩
  · rintro ⟨R, hR, ht⟩
    have hi := (List.getElem?_eq_some_iff.1 hR).1
    exact ⟨⟨R, by rw [List.getElem?_append_left hi]; exact hR, ht⟩, by simpa using hi⟩
theorem more_own {js : List Jb} {more : Jb} {a b : Nat} : (planL (js ++ [more]) a b).filter (fun z => !decide (z.2 < js.length)) = (restJ a b more).map fun t => (t, js.length) := by
  have hm := planL_merged (js ++ [more]) a b
  have hs : ((restJ a b more).map fun t => ((t, js.length) : PIt)).Pairwise pLt := by
    rw [List.pairwise_map]
    exact (restJ_sorted a b more).imp fun h => .inl h
  refine pSorted_eq (hm.srt.filter _) hs fun ⟨t, i⟩ => ?_
  simp only [List.mem_filter, Bool.not_eq_true', decide_eq_false_iff_not, hm.mem, List.map_append, List.mem_map, Prod.mk.injEq]
  constructor
  · rintro ⟨⟨R, hR, ht⟩, hi⟩
    rw [List.getElem?_append_right (by simpa using Nat.not_lt.1 hi)] at hR
    simp only [List.length_map, List.map_cons, List.map_nil] at hR
    have h0 : i - js.length = 0 := by
      have := (List.getElem?_eq_some_iff.1 hR).1
      simp at this
      omega
    rw [h0] at hR
    simp only [List.getElem?_cons_zero, Option.some.injEq] at hR
    subst hR
    exact ⟨t, ht, rfl, by omega⟩
  · rintro ⟨u, hu, rfl, rfl⟩
    refine ⟨⟨restJ a b more, ?_, hu⟩, Nat.lt_irrefl _⟩
    rw [List.getElem?_append_right (by simp)]
    simp
theorem one_plan {more : Jb} {a b : Nat} : planL [more] a b = (restJ a b more).map fun t => (t, 0) := by
  have := more_own (js := []) (more := more) (a := a) (b := b)
  simp only [List.nil_append, List.length_nil, Nat.not_lt_zero, decide_false, Bool.not_false] at this
  rw [List.filter_eq_self.2 fun _ _ => rfl] at this
  exact this
theorem jobOf_more {js : List Jb} {more : Jb} {i : Nat} : (i < js.length → jobOf (js ++ [more]) i = jobOf js i) ∧ jobOf (js ++ [more]) js.length = more := by
  unfold jobOf
  refine ⟨fun h => ?_, ?_⟩
  · rw [List.getD_eq_getElem?_getD, List.getD_eq_getElem?_getD, List.getElem?_append_left h]
  · rw [List.getD_eq_getElem?_getD, List.getElem?_append_right (Nat.le_refl _), Nat.sub_self]; rfl
theorem peak_at (L : List PI) : ∀ (r : List PI) (s : Nat × Nat), (∀ x ∈ r, x ∈ L) → (s.1 = 0 ∨ ∃ x ∈ L, s.1 = cntP L x.at_) → ((peakGo L r s).1 = 0 ∨ ∃ x ∈ L, (peakGo L r s).1 = cntP L x.at_)
  | [], s, _, h => h
  | x :: r, s, h, h1 => by
    rw [peakGo]
    refine peak_at L r _ (fun y hy => h y (by simp [hy])) ?_
    split
    · exact .inr ⟨x, h x (by simp), rfl⟩
    · exact h1
theorem peak_is (L : List PI) : ((peakP L).1 = 0 ∨ ∃ x ∈ L, (peakP L).1 = cntP L x.at_) ∧ ∀ x ∈ L, cntP L x.at_ ≤ (peakP L).1 := by
  obtain ⟨_, _, g3, _⟩ := peak_inv L L (0, 0) (fun x hx => hx) (Nat.zero_le _) (fun h => absurd h (Nat.lt_irrefl 0))
  exact ⟨peak_at L L (0, 0) (fun x hx => hx) (.inl rfl), g3⟩
theorem exists_last : ∀ (l : List PI), l ≠ [] → ∃ y ∈ l, ∀ z ∈ l, z.at_ ≤ y.at_
  | [], h => absurd rfl h
  | [x], _ => ⟨x, by simp, fun z hz => by rw [List.mem_singleton.1 hz]; exact Nat.le_refl _⟩
  | x :: y :: l, _ => by
    obtain ⟨w, hw, hl⟩ := exists_last (y :: l) (by simp)
    by_cases h : w.at_ ≤ x.at_
    · exact ⟨x, by simp, fun z hz => by
        rcases List.mem_cons.1 hz with e | hz
        · rw [e]; exact Nat.le_refl _
        · have := hl z hz; omega⟩
    · exact ⟨w, List.mem_cons_of_mem _ hw, fun z hz => by
        rcases List.mem_cons.1 hz with e | hz
        · rw [e]; omega
        · exact hl z hz⟩
theorem peak_any (L : List PI) (t : Nat) : cntP L t ≤ (peakP L).1 := by
  by_cases h0 : L.filter (runsAt t) = []
  · unfold cntP; rw [h0]; exact Nat.zero_le _
  · obtain ⟨y, hy, hl⟩ := exists_last _ h0
    obtain ⟨hyL, hyr⟩ := List.mem_filter.1 hy
    refine Nat.le_trans ?_ ((peak_is L).2 y hyL)
    unfold cntP
    have hsub : (L.filter (runsAt t)).filter (runsAt y.at_) = L.filter (runsAt t) := List.filter_eq_self.2 fun z hz => by
      have h1 := hl z hz
      have h2 := (List.mem_filter.1 hz).2
      unfold runsAt at h2 hyr ⊢
      simp only [Bool.and_eq_true, decide_eq_true_eq] at h2 hyr ⊢
      omega
    rw [← hsub, List.filter_filter]
    refine Nat.le_trans (Nat.le_of_eq ?_) (List.length_filter_le (runsAt t) (L.filter (runsAt y.at_)))
    rw [List.filter_filter]
    congr 2
    funext z
    rw [Bool.and_comm]
theorem cnt_two (L : List PI) (p : PI → Bool) (t : Nat) : cntP L t = cntP (L.filter p) t + cntP (L.filter fun y => !p y) t := by
  induction L with
  | nil => rfl
  | cons y L ih =>
    unfold cntP at *
    cases h1 : p y <;> cases h2 : runsAt t y <;> simp only [List.filter_cons, h1, h2, Bool.not_true, Bool.not_false, if_true, if_false, Bool.false_eq_true, List.length_cons] <;> omega
theorem cnt_same {L M : List PI} (h : L.map (fun y => (y.at_, y.tmo)) = M.map fun y => (y.at_, y.tmo)) (t : Nat) : cntP L t = cntP M t := by
  have key : ∀ L : List PI, cntP L t = ((L.map fun y => (y.at_, y.tmo)).filter fun q => decide (q.1 ≤ t) && decide (t < q.1 + q.2)).length := fun L => by
    unfold cntP
    rw [List.filter_map, List.length_map]
    rfl
  rw [key, key, h]
theorem peak_same {L M : List PI} (h : L.map (fun y => (y.at_, y.tmo)) = M.map fun y => (y.at_, y.tmo)) : (peakP L).1 = (peakP M).1 := by
  have key : ∀ {L M : List PI}, (L.map (fun y => (y.at_, y.tmo)) = M.map fun y => (y.at_, y.tmo)) → (peakP L).1 ≤ (peakP M).1 := fun {L M} h => by
    rcases (peak_is L).1 with h0 | ⟨x, _, h0⟩
    · omega
    · rw [h0, cnt_same h]; exact peak_any M _
  exact Nat.le_antisymm (key h) (key h.symm)
theorem peak_more (L : List PI) (p : PI → Bool) : (peakP (L.filter p)).1 ≤ (peakP L).1 ∧ (peakP (L.filter fun y => !p y)).1 ≤ (peakP L).1 ∧ (peakP L).1 ≤ (peakP (L.filter p)).1 + (peakP (L.filter fun y => !p y)).1 := by
  refine ⟨?_, ?_, ?_⟩
  · rcases (peak_is (L.filter p)).1 with h0 | ⟨x, _, h0⟩
    · omega
    · have := cnt_two L p x.at_
      have := peak_any L x.at_
      omega
  · rcases (peak_is (L.filter fun y => !p y)).1 with h0 | ⟨x, _, h0⟩
    · omega
    · have := cnt_two L p x.at_
      have := peak_any L x.at_
      omega
  · rcases (peak_is L).1 with h0 | ⟨x, _, h0⟩
    · omega
    · have := cnt_two L p x.at_
      have := peak_any (L.filter p) x.at_
      have := peak_any (L.filter fun y => !p y) x.at_
      omega
theorem hits_filter {p : Nat → Bool} {kept : List PI} {x : PI} (h : p x.place = true) : hits (kept.filter fun y => p y.place) x = hits kept x := by
  unfold hits
  rw [List.filter_filter]
  congr 1
  refine List.filter_congr fun y _ => ?_
  cases hh : hit x y with
  | false => simp
  | true =>
    unfold hit at hh
    simp only [Bool.and_eq_true, decide_eq_true_eq] at hh
    rw [hh.1, h]; rfl
theorem clash_filter (p : Nat → Bool) : ∀ (L : List PI) (s : List PI × List PI), (clashGo L s).1.filter (fun y => p y.place) = (clashGo (L.filter fun y => p y.place) (s.1.filter fun y => p y.place, s.2.filter fun y => p y.place)).1
  | [], s => rfl
  | x :: L, s => by
    rw [clashGo, clash_filter p L]
    cases hp : p x.place with
    | true =>
      rw [List.filter_cons_of_pos (p := fun y : PI => p y.place) hp, clashGo]
      congr 2
      simp only [hits_filter hp]
      split
      · simp [hp]
      · simp [hp]
    | false =>
      rw [List.filter_cons_of_neg (p := fun y : PI => p y.place) (by simp [hp])]
      congr 2
      split
      · simp [hp]
      · simp [hp]
theorem clashP_filter (p : Nat → Bool) (L : List PI) : (clashP L).filter (fun y => p y.place) = clashP (L.filter fun y => p y.place) := clash_filter p L ([], [])
structure MoreOk (js : List Jb) (more : Jb) (a b : Nat) (W : List PI) : Prop where
  rest : W.filter (fun y => decide (y.place < js.length)) = planI js a b 61
  own : (W.filter fun y => !decide (y.place < js.length)).map PI.it = (restJ a b more).map fun t => (t, more.id)
  one : (planI [more] a b 61).map PI.it = (restJ a b more).map fun t => (t, more.id)
  same : (W.filter fun y => !decide (y.place < js.length)).map (fun y => (y.at_, y.tmo)) = (planI [more] a b 61).map fun y => (y.at_, y.tmo)
  jobs : ∀ y ∈ W, (y.job = more.id ↔ ¬ y.place < js.length)
theorem more_ok {js : List Jb} {more : Jb} {a b : Nat} (h : a ≤ b) (hb : b < 13569465600) (hid : ((js ++ [more]).map Jb.id).Nodup) (hl : (planI (js ++ [more]) a b 61).length ≤ 60) : MoreOk js more a b (planI (js ++ [more]) a b 61) := by
  obtain ⟨e, hl'⟩ := planI_all h hb hl
  have hr := more_rest (js := js) (more := more) (a := a) (b := b)
  have ho := more_own (js := js) (more := more) (a := a) (b := b)
  have hl1 : (planL js a b).length ≤ 60 := by
    rw [← hr]
    exact Nat.le_trans (List.length_filter_le _ _) hl'
  have hl2 : (restJ a b more).length ≤ 60 := by
    have := List.length_filter_le (fun z : PIt => !decide (z.2 < js.length)) (planL (js ++ [more]) a b)
    rw [ho, List.length_map] at this
    omega
  have e1 : planI js a b 61 = (planL js a b).map (itemOf js) := by
    unfold planI
    rw [planZ_eq js h hb, show Int.toNat 61 = 61 from rfl, List.take_of_length_le (by omega)]
  have e2 : planI [more] a b 61 = ((restJ a b more).map fun t => (t, 0)).map (itemOf [more]) := by
    unfold planI
    rw [planZ_eq [more] h hb, one_plan, show Int.toNat 61 = 61 from rfl, List.take_of_length_le (by rw [List.length_map]; omega)]
  have eo : (planI (js ++ [more]) a b 61).filter (fun y => !decide (y.place < js.length)) = ((restJ a b more).map fun t => (t, js.length)).map (itemOf (js ++ [more])) := by
    rw [e, List.filter_map, ← ho]; rfl
  refine ⟨?_, ?_, ?_, ?_, fun y hy => ?_⟩
  · rw [e, e1, List.filter_map]
    have : (fun y : PI => decide (y.place < js.length)) ∘ itemOf (js ++ [more]) = fun z : PIt => decide (z.2 < js.length) := rfl
    rw [this, hr]
    refine List.map_congr_left fun z hz => ?_
    unfold itemOf
    rw [(jobOf_more (more := more)).1 (plan_mem hz).1]
  · rw [eo, List.map_map, List.map_map]
    refine List.map_congr_left fun t _ => ?_
    simp only [Function.comp_apply, itemOf, PI.it, (jobOf_more (js := js) (more := more) (i := 0)).2]
  · rw [e2, List.map_map, List.map_map]
    exact List.map_congr_left fun t _ => rfl
  · rw [eo, e2, List.map_map, List.map_map, List.map_map, List.map_map]
    refine List.map_congr_left fun t _ => ?_
    simp only [Function.comp_apply, itemOf, (jobOf_more (js := js) (more := more) (i := 0)).2]
    rfl
  · rw [e] at hy
    obtain ⟨z, hz, rfl⟩ := List.mem_map.1 hy
    have hm := (plan_mem hz).1
    rw [List.length_append, List.length_singleton] at hm
    show (jobOf (js ++ [more]) z.2).id = more.id ↔ ¬ z.2 < js.length
    constructor
    · intro hj hlt
      rw [jobOf_more.1 hlt] at hj
      have h1 : ((js ++ [more]).map Jb.id)[z.2]? = some more.id := by
        rw [List.getElem?_map, List.getElem?_append_left hlt, List.getElem?_eq_getElem hlt]
        have : jobOf js z.2 = js[z.2] := by unfold jobOf; rw [List.getD_eq_getElem?_getD, List.getElem?_eq_getElem hlt]; rfl
        rw [← this, Option.map_some, hj]
      have h2 : ((js ++ [more]).map Jb.id)[js.length]? = some more.id := by
        rw [List.getElem?_map, List.getElem?_append_right (Nat.le_refl _), Nat.sub_self]; rfl
      obtain ⟨q1, q2⟩ := List.getElem?_eq_some_iff.1 h1
      obtain ⟨q3, q4⟩ := List.getElem?_eq_some_iff.1 h2
      have := List.pairwise_iff_getElem.1 hid z.2 js.length q1 q3 hlt
      rw [q2, q4] at this
      exact this rfl
    · intro hn
      have : z.2 = js.length := by omega
      rw [this, jobOf_more (i := 0) |>.2]
end Go.Proofs.YtmoncokklkiikaaGreatDoor
