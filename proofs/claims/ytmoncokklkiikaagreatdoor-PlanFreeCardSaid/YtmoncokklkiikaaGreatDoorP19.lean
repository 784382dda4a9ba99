/- What plans' laws use: rows that are the same, items, which jobs are too many; the chapter's rows. Which jobs are too many for plans' laws; sets of numbers as maps. PlanCut: what is cut in two; items joined; the law's walk. Rows of one's own made by an append onto nothing, to be changed in place; such a row handed on. PlanFree: the law's walk. Plans, plainly: what is within the longest time without an item; how many run at once; where nothing clashes. PlanFree: the law's walk. -/
import Derived.Test.YtmoncokklkiikaaGreatDoorP18
import Derived.Test.YtmoncokklkiikaaGreatDoorP09
set_option linter.unusedSimpArgs false
set_option linter.unusedVariables false
set_option linter.unnecessarySimpa false
namespace Go.Proofs.YtmoncokklkiikaaGreatDoor
open Rg Go
variable {H : Heap}
def PI.it (y : PI) : Nat × Nat := (y.at_, y.job)
abbrev itAV (p : Nat × Nat) : AV := .agg [.sc (.int .i64 (p.1 : Int)), .sc (.int .u64 (p.2 : Int))]
set_option maxHeartbeats 4000000 in
theorem c_equalP (L M : List (Nat × Nat)) (t u : Rg.Tok) (hL : L.length ≤ 1000000) : AOk Tryz.prog 58 [.sl (L.map itAV) t, .sl (M.map itAV) u] H (.sc (.bool (decide (L = M)))) H := by
  refine ACalls.into Tryz.func58 rfl Tryz.ntmps58 Tryz.results58 (by simp) ?_
  simp -implicitDefEqProofs
  by_cases hl : L.length = M.length
  · have hl' : (L.length : Int) = (M.length : Int) := by omega
    simp -implicitDefEqProofs [hl, hl']
    refine AGo.rounds (fun m ρ K => ∃ i, m = L.length - i ∧ i ≤ L.length ∧ L.take i = M.take i ∧ ρ 13 = .sc (.int .i64 (i : Int)) ∧ ρ 0 = .sl (L.map itAV) t ∧ ρ 1 = .sl (M.map itAV) u ∧ ρ 12 = .sc (.int .i64 (M.length : Int)) ∧ K = H) ?_ (m := L.length) (HLe.refl _)
      ⟨0, rfl, by omega, by simp, by simp, by simp, by simp, by simp, rfl⟩
    rintro m ρ K ih ⟨i, rfl, hi, hti, r13, r0, r1, r12, rfl⟩
    rcases Nat.lt_or_ge i L.length with hlt | hge
    · have hlm : i < M.length := by omega
      obtain ⟨x, hx, hx2⟩ := getAt hlt
      obtain ⟨y, hy, hy2⟩ := getAt hlm
      have hlt' : (i : Int) < (L.length : Int) := by omega
      have hlm' : (i : Int) < (M.length : Int) := by omega
      have hw1 : IntKind.i64.wrap ((i : Int) + 1) = ((i + 1 : Nat) : Int) := wadd (b := 1) rfl (by omega)
      simp -implicitDefEqProofs [r13, r0, r1, r12, hlm, hlm']
      refine go_draw 9 f_mixed (by decide +kernel) ?_
      by_cases hxy : x = y
      · subst hxy
        simp -implicitDefEqProofs [r13, r0, r1, r12, hlt, hlm, hx, hy, hw1]
        refine AGo.again ih (m' := L.length - (i + 1)) (by omega) (HLe.refl _) ⟨i + 1, rfl, by omega, ?_, by simp, by simp [r0], by simp [r1], by simp [r12], rfl⟩
        rw [List.take_add_one, List.take_add_one, hti, hx2, hy2]
      · have hne : ¬ L = M := by
          intro e
          subst e
          rw [hx2] at hy2
          cases hy2
          exact hxy rfl
        have hb : (!((x.1 : Int) == (y.1 : Int)) || !((x.2 : Int) == (y.2 : Int))) = true := by
          by_cases h1 : x.1 = y.1
          · have h2 : ¬ x.2 = y.2 := fun h2 => hxy (Prod.ext h1 h2)
            have h2' : ¬ (x.2 : Int) = (y.2 : Int) := by omega
            simp [h2']
          · have h1' : ¬ (x.1 : Int) = (y.1 : Int) := by omega
            simp [h1']
        simp -implicitDefEqProofs [r13, r0, r1, r12, hlt, hlm, hx, hy, hb, hne]
    · have hn : ¬ (i : Int) < (M.length : Int) := by omega
      have hn' : ¬ i < M.length := by omega
      have he : L = M := by rw [List.take_of_length_le hge, List.take_of_length_le (by omega)] at hti; exact hti
      simp -implicitDefEqProofs [r13, r0, r1, r12, hn, hn', he]
  · have hl' : ¬ (L.length : Int) = (M.length : Int) := by omega
    have hne : ¬ L = M := fun e => hl (by rw [e])
    simp -implicitDefEqProofs [hl, hl', hne]
def ty6 : List UInt8 := [42, 47, 51, 48, 32, 42, 32, 42, 32, 42, 32, 42]
def yx6 : Ex := ⟨⟨1073741825, true⟩, ⟨16777215, true⟩, ⟨4294967294, true⟩, ⟨8190, true⟩, ⟨127, true⟩⟩
set_option maxRecDepth 100000 in
theorem ky6 : cronK ty6 = (yx6, 0) := by decide +kernel
def jPa : Jb := ⟨1, [97], ty5, 2, 0, 1, 0, 4000, [], false, 0, 0⟩
def jPb : Jb := ⟨2, [98], ty6, 2, 0, 1, 0, 60, [], false, 0, 0⟩
theorem jPa_live : liveJ jPa = true := by
  have e : (cronK jPa.ex).2 = 0 := by rw [show jPa.ex = ty5 from rfl, ky5]
  unfold liveJ mayJ
  rw [e]
  decide
theorem jPb_live : liveJ jPb = true := by
  have e : (cronK jPb.ex).2 = 0 := by rw [show jPb.ex = ty6 from rfl, ky6]
  unfold liveJ mayJ
  rw [e]
  decide
theorem bit6 : ∀ m, m < 60 → hasB yx6.a.bits ((m : Nat) : Int) = true → m = 0 ∨ m = 30 := by decide +kernel
theorem fires_a : firesL yx5 0 7200 = [3600, 7200] := by
  refine pNat_eq (fires_sorted _ _ _) (by decide) fun k => ?_
  rw [fires_mem]
  constructor
  · rintro ⟨h1, h2, h3⟩
    obtain ⟨n, h, m, g1, g2, g3, rfl, _, _, g5, _⟩ := fire_inv (by omega) h3
    have := bit0 m g3 g5
    simp only [List.mem_cons, List.not_mem_nil, or_false]
    omega
  · intro hk
    simp only [List.mem_cons, List.not_mem_nil, or_false] at hk
    rcases hk with rfl | rfl
    · exact ⟨by omega, by omega, fire5 1 (by omega)⟩
    · exact ⟨by omega, by omega, fire5 2 (by omega)⟩
theorem fire6 : ∀ i, i < 25 → fireB yx6 (1800 * i) = true := by decide +kernel
theorem fires_b : firesL yx6 0 7200 = [1800, 3600, 5400, 7200] := by
  refine pNat_eq (fires_sorted _ _ _) (by decide) fun k => ?_
  rw [fires_mem]
  constructor
  · rintro ⟨h1, h2, h3⟩
    obtain ⟨n, h, m, g1, g2, g3, rfl, _, _, g5, _⟩ := fire_inv (by omega) h3
    have := bit6 m g3 g5
    simp only [List.mem_cons, List.not_mem_nil, or_false]
    omega
  · intro hk
    simp only [List.mem_cons, List.not_mem_nil, or_false] at hk
    rcases hk with rfl | rfl | rfl | rfl
    · exact ⟨by omega, by omega, fire6 1 (by omega)⟩
    · exact ⟨by omega, by omega, fire6 2 (by omega)⟩
    · exact ⟨by omega, by omega, fire6 3 (by omega)⟩
    · exact ⟨by omega, by omega, fire6 4 (by omega)⟩
theorem plan_two : planL [jPa, jPb] 0 7200 = [(1800, 1), (3600, 0), (3600, 1), (5400, 1), (7200, 0), (7200, 1)] := by
  have ea : restJ 0 7200 jPa = [3600, 7200] := by
    unfold restJ
    rw [if_pos jPa_live, show jPa.ex = ty5 from rfl, ky5]
    exact fires_a
  have eb : restJ 0 7200 jPb = [1800, 3600, 5400, 7200] := by
    unfold restJ
    rw [if_pos jPb_live, show jPb.ex = ty6 from rfl, ky6]
    exact fires_b
  unfold planL
  rw [List.map_cons, List.map_cons, List.map_nil, ea, eb]
  decide
def itemsTwo : List PI := [⟨1800, 2, 1, 60, 1⟩, ⟨3600, 1, 0, 4000, 1⟩, ⟨3600, 2, 1, 60, 1⟩, ⟨5400, 2, 1, 60, 1⟩, ⟨7200, 1, 0, 4000, 1⟩, ⟨7200, 2, 1, 60, 1⟩]
theorem planI_two : planI [jPa, jPb] 0 7200 9 = itemsTwo := by
  unfold planI planZ
  rw [if_pos (by decide), show (0 : Int).toNat = 0 from rfl, show (7200 : Int).toNat = 7200 from rfl, plan_two]
  rfl
theorem planI_five : planI [jPa, jPb] 5 5 9 = [] := by
  unfold planI planZ
  rw [if_neg (by decide)]
  rfl
theorem planI_zero : planI [jPa, jPb] 0 7200 0 = [] := rfl
theorem jobs_two : JobsOk [jPa, jPb] := by
  refine ⟨by decide, ?_, ?_, by decide⟩
  · intro j hj
    simp only [List.mem_cons, List.not_mem_nil, or_false] at hj
    rcases hj with rfl | rfl <;> decide
  · intro j hj
    simp only [List.mem_cons, List.not_mem_nil, or_false] at hj
    rcases hj with rfl | rfl <;> decide
theorem c_two : AOk Tryz.prog 124 [] H (.sl (jobsAV [jPa, jPb]) .no) H := by
  refine ACalls.into Tryz.func124 rfl Tryz.ntmps124 Tryz.results124 (by simp) ?_
  simp -implicitDefEqProofs
  refine AAlloc.intro fun b1 h1 => ?_
  simp -implicitDefEqProofs
  refine AAlloc.intro fun b2 h2 => ?_
  have n12 : b1 ≠ b2 := by intro e; subst e; simp [Heap.set] at h2
  have e2 : H b2 = none := (HLe.set_fresh h1).none h2
  simp -implicitDefEqProofs [n12, jPa, jPb, ty5, ty6]
  repeat (first | exact HWk.refl _ | refine HWk.new (by assumption) ?_)
theorem c_known37 (hG : Glob H) : AOk Tryz.prog 50 [] H (.sc (.bool true)) H := by
  have hT : GlobT H := hG.ctz
  have f1 := c_pFirst hG hT jobs_two 0 7200 9 (by omega)
  have f2 := c_pPeak hG hT jobs_two 0 7200 9 (by omega)
  have f3 := c_pGap hG hT jobs_two 0 7200 9 (by omega)
  have f4 := c_pClashes hG hT jobs_two 0 7200 9 (by omega)
  have f5 := c_pFirst hG hT jobs_two 5 5 9 (by omega)
  have f6 := c_pFirst hG hT jobs_two 0 7200 0 (by omega)
  rw [planI_two] at f1 f2 f3 f4
  rw [planI_five] at f5
  rw [planI_zero] at f6
  rw [show peakP itemsTwo = (3, 7200) by decide] at f2
  rw [show gapP itemsTwo 0 7200 = (0, 1800) by decide] at f3
  rw [show clashP itemsTwo = [⟨7200, 1, 0, 4000, 1⟩] from by kernel_rfl] at f4
  have g1 := c_equalP (H := H) [(1800, 2), (3600, 1), (3600, 2), (5400, 2), (7200, 1), (7200, 2)] [(1800, 2), (3600, 1), (3600, 2), (5400, 2), (7200, 1), (7200, 2)] .no .full (by decide)
  have g2 := c_equalP (H := H) [(7200, 1)] [(7200, 1)] .no .full (by decide)
  simp only [itemsTwo, List.map_cons, List.map_nil] at f1 f4 f5 f6 g1 g2
  refine ACalls.into Tryz.func50 rfl Tryz.ntmps50 Tryz.results50 (by simp) ?_
  simp -implicitDefEqProofs
  refine ACall.eq c_two ?_
  simp -implicitDefEqProofs
  refine ACall.eq f1 ?_
  simp -implicitDefEqProofs
  refine ACall.eq c_two ?_
  simp -implicitDefEqProofs
  refine ACall.eq f2 ?_
  simp -implicitDefEqProofs
  refine ACall.eq c_two ?_
  simp -implicitDefEqProofs
  refine ACall.eq f3 ?_
  simp -implicitDefEqProofs
  refine ACall.eq g1 ?_
  simp -implicitDefEqProofs
  refine ACall.eq c_two ?_
  simp -implicitDefEqProofs
  refine ACall.eq f4 ?_
  simp -implicitDefEqProofs
  refine ACall.eq g2 ?_
  simp -implicitDefEqProofs
  refine ACall.eq c_two ?_
  simp -implicitDefEqProofs
  refine ACall.eq f5 ?_
  simp -implicitDefEqProofs
  refine ACall.eq c_two ?_
  simp -implicitDefEqProofs
  refine ACall.eq f6 ?_
  simp -implicitDefEqProofs
end Go.Proofs.YtmoncokklkiikaaGreatDoor
namespace Go.Proofs.YtmoncokklkiikaaGreatDoor
open Rg Go
variable {H : Heap}
abbrev u64V (n : Nat) : AV := .sc (.int .u64 (n : Int))
def setU (D : List Nat) : List (AV × AV × Nat) := D.zipIdx.map fun p => (u64V p.1, .agg [], p.2)
theorem setU_snoc (D : List Nat) (a : Nat) : setU (D ++ [a]) = setU D ++ [(u64V a, .agg [], D.length)] := by
  unfold setU
  rw [List.zipIdx_append]
  simp
theorem aeqv_u64 (k x : Nat) : aeqv Tryz.prog 5 22 (u64V k) (u64V x) = some (decide (k = x)) := by
  have e : decide (k = x) = decide ((k : Int) = (x : Int)) := by
    by_cases h : k = x
    · subst h; simp
    · have : ¬ (k : Int) = (x : Int) := by omega
      simp [h, this]
  rw [e]
  unfold u64V aeqv
  simp [tkd_22]
  rfl
theorem leastU (p : Nat → Prop) : ∀ n, p n → ∃ m, m ≤ n ∧ p m ∧ ∀ k, k < m → ¬ p k := fun n => by
  induction n using Nat.strongRecOn with
  | _ n ih =>
    intro hn
    by_cases h : ∃ k, k < n ∧ p k
    · obtain ⟨k, hk, hp⟩ := h
      obtain ⟨m, h1, h2, h3⟩ := ih k hk hp
      exact ⟨m, by omega, h2, h3⟩
    · exact ⟨n, Nat.le_refl n, hn, fun k hk hp => h ⟨k, hk, hp⟩⟩
theorem setU_hit {D : List Nat} {a : Nat} (h : a ∈ D) : ∃ i, afind Tryz.prog 22 (u64V a) (setU D) 0 = some (some (i, .agg [])) := by
  obtain ⟨n, hn, hmin⟩ : ∃ n, D[n]? = some a ∧ ∀ j, j < n → D[j]? ≠ some a := by
    obtain ⟨n, hn⟩ := List.getElem?_of_mem h
    obtain ⟨m, h1, h2, h3⟩ := leastU (fun k => D[k]? = some a) n hn
    exact ⟨m, h2, h3⟩
  have hz : D.zipIdx[n]? = some (a, n) := by simp [List.getElem?_zipIdx, hn]
  refine ⟨n, ?_⟩
  have := afind_hit (P := Tryz.prog) (kt := 22) (k := u64V a) (fun p : Nat × Nat => u64V p.1) (fun _ => .agg []) (fun p => p.2) (fun p => decide (a = p.1)) D.zipIdx 0 n (a, n) (fun p _ => aeqv_u64 a p.1) hz (by simp) fun j p hj hp => by
    simp only [decide_eq_false_iff_not]
    intro e
    simp only [List.getElem?_zipIdx, Option.map_eq_some_iff] at hp
    obtain ⟨y, h1, h2⟩ := hp
    rw [← h2] at e
    exact hmin j hj (by rw [h1, e])
  rw [Nat.zero_add] at this
  exact this
theorem setU_miss {D : List Nat} {a : Nat} (h : a ∉ D) : afind Tryz.prog 22 (u64V a) (setU D) 0 = some none := by
  refine afind_miss (P := Tryz.prog) (kt := 22) (k := u64V a) (fun p : Nat × Nat => u64V p.1) (fun _ => .agg []) (fun p => p.2) (fun p => decide (a = p.1)) D.zipIdx 0 (fun p _ => aeqv_u64 a p.1) fun p hp => ?_
  simp only [decide_eq_false_iff_not]
  rintro rfl
  exact h (List.fst_mem_of_mem_zipIdx hp)
theorem mapTU : Tryz.prog.underlying 184 = some (.map 22 82) := by kernel_rfl
theorem uintT : Tryz.prog.underlying 22 = some (.int .u64) := by kernel_rfl
theorem u64_check (a : Nat) : acheck Tryz.prog 3 22 (u64V a) = true := by
  unfold acheck
  rw [uintT]
def bigJ (j : Jb) : Bool := decide (1000 < IntKind.i64.wrap ((j.name.length : Int) + (j.ex.length : Int))) || decide (20 < j.deps.length)
def heavyGo : List Nat → List Jb → Bool
  | _, [] => false
  | seen, j :: r => decide (j.id ∈ seen) || bigJ j || heavyGo (seen ++ [j.id]) r
def heavyP (js : List Jb) (most : Int) : Bool := heavyGo [] js || decide (12 < js.length) || decide (60 < most)
theorem heavy_no : ∀ (js : List Jb) (seen : List Nat), heavyGo seen js = false → (∀ j ∈ js, j.id ∉ seen ∧ j.deps.length ≤ 20) ∧ (js.map Jb.id).Nodup
  | [], _, _ => ⟨by simp, List.nodup_nil⟩
  | j :: r, seen, h => by
    unfold heavyGo bigJ at h
    simp only [Bool.or_eq_false_iff, decide_eq_false_iff_not] at h
    obtain ⟨⟨h1, _, h2⟩, h3⟩ := h
    obtain ⟨g1, g2⟩ := heavy_no r _ h3
    refine ⟨fun k hk => ?_, ?_⟩
    · rcases List.mem_cons.1 hk with e | hk
      · rw [e]; exact ⟨h1, by omega⟩
      · exact ⟨fun hs => (g1 k hk).1 (List.mem_append.2 (.inl hs)), (g1 k hk).2⟩
    · rw [List.map_cons, List.nodup_cons]
      refine ⟨fun hm => ?_, g2⟩
      obtain ⟨k, hk, e⟩ := List.mem_map.1 hm
      exact (g1 k hk).1 (List.mem_append.2 (.inr (by rw [e]; simp)))
theorem heavy_ok {js : List Jb} {most : Int} (hex : ∀ j ∈ js, j.ex.length ≤ 9223372036854775807) (h : heavyP js most = false) : JobsOk js ∧ js.length ≤ 12 ∧ most ≤ 60 := by
  unfold heavyP at h
  simp only [Bool.or_eq_false_iff, decide_eq_false_iff_not] at h
  obtain ⟨⟨h1, h2⟩, h3⟩ := h
  obtain ⟨g1, g2⟩ := heavy_no js [] h1
  exact ⟨⟨by omega, hex, fun j hj => by have := (g1 j hj).2; omega, g2⟩, by omega, by omega⟩
set_option maxHeartbeats 8000000 in
theorem c_heavy37 (js : List Jb) (most : Int) (hjs : js.length ≤ 9223372036854775807) : AOk Tryz.prog 51 [.sl (jobsAV js) .no, .sc (.int .i64 most)] H (.sc (.bool (heavyP js most))) H := by
  obtain ⟨R, hR⟩ : ∃ R, heavyGo [] js = R := ⟨_, rfl⟩
  unfold heavyP
  rw [hR]
  refine ACalls.into Tryz.func51 rfl Tryz.ntmps51 Tryz.results51 (by simp) ?_
  simp -implicitDefEqProofs
  refine ACall.intro (c_makeMap 184) fun v K hv => ?_
  obtain ⟨m, hm, rfl, rfl⟩ := hv
  simp -implicitDefEqProofs
  refine AGo.rounds (fun μ ρ K => ∃ (i : Nat), μ = js.length - i ∧ i ≤ js.length ∧ heavyGo ((js.take i).map Jb.id) (js.drop i) = R ∧ ρ 0 = .sl (jobsAV js) .no ∧ ρ 1 = .sc (.int .i64 most) ∧ ρ 5 = .sc (.map (some m)) ∧ ρ 11 = .sl (jobsAV js) .no ∧ ρ 12 = .sc (.int .i64 (js.length : Int)) ∧ ρ 13 = .sc (.int .i64 (i : Int)) ∧ HLe H K ∧
    K m = some (.map (setU ((js.take i).map Jb.id)) i)) ?_ (m := js.length) (HLe.refl _)
    ⟨0, by omega, by omega, hR, by simp, by simp, by simp, by simp, by simp, by simp, HLe.set_fresh hm, by simp [Heap.set, setU]⟩
  clear hR
  rintro μ ρ K ih ⟨i, rfl, hi, hgo, r0, r1, r5, r11, r12, r13, hle, hmK⟩
  rcases Nat.lt_or_ge i js.length with hlt | hge
  · obtain ⟨j, hj, _⟩ := getAt hlt
    have hwi : IntKind.i64.wrap ((i : Int) + 1) = ((i + 1 : Nat) : Int) := wadd (b := 1) rfl (by omega)
    have hDl : ((js.take i).map Jb.id).length = i := by rw [List.length_map, List.length_take]; omega
    have hDs : (js.take (i + 1)).map Jb.id = (js.take i).map Jb.id ++ [j.id] := by
      rw [List.take_succ_eq_append_getElem hlt, List.map_append, hj]; rfl
    rw [List.drop_eq_getElem_cons hlt, heavyGo, hj, ← hDs] at hgo
    have hsn := setU_snoc ((js.take i).map Jb.id) j.id
    rw [← hDs, hDl] at hsn
    obtain ⟨D, hD⟩ : ∃ D, (js.take i).map Jb.id = D := ⟨_, rfl⟩
    rw [hD] at hgo hmK hsn hDl
    simp -implicitDefEqProofs [r11, r12, r13, hlt, hj]
    refine AAlloc.intro fun b7 h7 => ?_
    have nm7 : m ≠ b7 := by rintro rfl; rw [hmK] at h7; cases h7
    simp -implicitDefEqProofs [r5]
    generalize hK1 : Heap.set K b7 _ = K1
    have l1 : HLe K K1 := by rw [← hK1]; exact HLe.set_fresh h7
    have k7 : K1 b7 = some (.cells (jbC j .no) 25) := by rw [← hK1]; simp [Heap.set]
    have hm1 := l1 _ _ hmK
    clear hK1 h7
    by_cases hin : j.id ∈ D
    · have hR : R = true := by rw [← hgo]; simp [hin]
      subst hR
      obtain ⟨q, hq⟩ := setU_hit hin
      refine ACall.eq (c_lookup2 mapTU uintT hm1 (u64_check j.id) hq) ?_
      simp -implicitDefEqProofs
      refine AAlloc.intro fun b8 h8 => ?_
      have n78 : b7 ≠ b8 := by rintro rfl; rw [k7] at h8; cases h8
      simp -implicitDefEqProofs [n78, k7]
      exact HWk.new (hle.none (l1.none h8)) (hle.trans l1).wk
    · have hc2 := c_lookup2_no (z := .agg #[]) mapTU uintT hm1 (u64_check j.id) (by kernel_rfl) (setU_miss hin)
      refine ACall.eq hc2 ?_
      simp -implicitDefEqProofs
      refine AAlloc.intro fun b8 h8 => ?_
      have n78 : b7 ≠ b8 := by rintro rfl; rw [k7] at h8; cases h8
      have nm8 : m ≠ b8 := by rintro rfl; rw [hm1] at h8; cases h8
      have hle := hle.trans l1
      obtain ⟨w, hw⟩ : ∃ w, IntKind.i64.wrap ((j.name.length : Int) + (j.ex.length : Int)) = w := ⟨_, rfl⟩
      unfold bigJ at hgo
      rw [hw] at hgo
      have i20 : (20 : Int) < (j.deps.length : Int) ↔ 20 < j.deps.length := by omega
      by_cases c1 : 1000 < w
      · have hR : R = true := by rw [← hgo]; simp [c1]
        subst hR
        simp -implicitDefEqProofs [n78, k7, hw, c1]
        exact HWk.new (hle.none h8) hle.wk
      · by_cases c2 : 20 < j.deps.length
        · have hR : R = true := by rw [← hgo]; simp [c2]
          subst hR
          simp -implicitDefEqProofs [n78, k7, hw, c1, i20, c2]
          exact HWk.new (hle.none h8) hle.wk
        · have hgo : heavyGo ((js.take (i + 1)).map Jb.id) (js.drop (i + 1)) = R := by
            rw [← hgo]
            simp [hin, c1, c2]
          simp -implicitDefEqProofs [n78, k7, hw, c1, i20, c2, r5]
          generalize hK2 : Heap.set K1 b8 _ = K2
          have l2 : HLe K1 K2 := by rw [← hK2]; exact HLe.set_fresh h8
          have hm2 := l2 _ _ hm1
          have hle := hle.trans l2
          clear hK2
          refine ACall.eq (c_insert mapTU uintT hm2 (u64_check j.id) (setU_miss hin) (.agg [])) ?_
          rw [← hsn]
          simp -implicitDefEqProofs [r13, hwi]
          exact AGo.again ih (m' := js.length - (i + 1)) (by omega) (HLe.refl _) ⟨i + 1, rfl, by omega, hgo, by simp [r0], by simp [r1], by simp [r5], by simp [r11], by simp [r12], by simp, HLe.set_new hle hm, by simp [Heap.set]⟩
  · have hn : ¬ i < js.length := by omega
    rw [List.drop_of_length_le hge] at hgo
    obtain rfl : false = R := hgo
    have i12 : (12 : Int) < (js.length : Int) ↔ 12 < js.length := by omega
    by_cases c1 : 12 < js.length
    · simp -implicitDefEqProofs [r0, r12, r13, hn, i12, c1]
      exact hle.wk
    · simp -implicitDefEqProofs [r0, r1, r12, r13, hn, i12, c1]
      exact hle.wk
end Go.Proofs.YtmoncokklkiikaaGreatDoor
namespace Go.Proofs.YtmoncokklkiikaaGreatDoor
open Rg Go
variable {H : Heap}
end Go.Proofs.YtmoncokklkiikaaGreatDoor
namespace Rg
open Go Go.RowKit
variable {P : Program} {W0 w : World} {C : Com} {H : Heap}
theorem appC_raw {T e : TypeId} {sz by_ : Nat} (he : ElemOk P T e sz by_) (hzero : ∀ z, tzero P e = some z → ∀ q ∈ z.cells.toList, q.oneCell' = true) {ys : List AV} {t : Tok} (ht : t = .nil ∨ t = .full) (hy : szs sz ys = true) (h0 : ys ≠ [])
    (hb : ys.length * by_ ≤ 140737488355328) (hm : ys.length ≤ maxLen) :
    AppC P T [] t ys H (fun v K => ∃ g zs cap, H g = none ∧ v = .sc (.slice (some ⟨g, 0, none⟩) ys.length cap) ∧ K = H.set g (.cells (ys.flatMap AV.cells ++ zs) e) ∧ (ys.flatMap AV.cells ++ zs).length = cap * sz ∧ ys.length ≤ cap ∧ cap ≤ maxLen) := by
  intro W0 C w ty u v t' hi hu hv
  obtain ⟨i, z, hinf, hsz, hby, hz1, hz2⟩ := he.info
  have hT := telem_spec he.el
  have htz : tzero P e = some z := by unfold tzero; rw [hinf]; simpa using hz1
  obtain ⟨b, o, cp, news, rfl, n1, n2, n3, _, n5⟩ := src_cells hi hv hy h0
  have hylen : 0 < ys.length := List.length_pos_iff.2 h0
  have hm' : ys.length ≤ 9223372036854775807 := by simpa [maxLen] using hm
  have grow0 : ∀ a : Addr, u = .slice (some a) 0 0 → (Builtin.append_ #[T, T] ty #[u, .slice (some ⟨b, o, none⟩) ys.length cp]).run P w =
      .ok (.slice (some ⟨w.heap.size, 0, none⟩) ys.length (grownCap w ys.length 0 e)) (w.drew.alloc (.cells (news.toArray ++ Builtin.zeroCells z.cells (grownCap w ys.length 0 e - ys.length)) e)) := by
    rintro a rfl
    have := run_append_grow (P := P) w T ty e i z hT hinf hz1 a 0 0 [] (by simp) (by simp) ⟨b, o, none⟩ ys.length cp news (by rw [n3, hsz]) n5 (by omega) (by simp; omega) (growslice_fits (by omega) (by rw [hby]; simpa using hb))
    simpa using this
  have hcap := grownCap_ge w ys.length 0 e
  have hcm := grownCap_le_maxLen w ys.length 0 e hm
  have hrun : (Builtin.append_ #[T, T] ty #[u, .slice (some ⟨b, o, none⟩) ys.length cp]).run P w =
      .ok (.slice (some ⟨w.heap.size, 0, none⟩) ys.length (grownCap w ys.length 0 e)) (w.drew.alloc (.cells (news.toArray ++ Builtin.zeroCells z.cells (grownCap w ys.length 0 e - ys.length)) e)) := by
    have hk := hu
    unfold Rel at hk
    cases hk with
    | nils => exact run_append_nil (P := P) w T ty e i z hT hinf hz1 ⟨b, o, none⟩ ys.length cp news (by rw [n3, hsz]) n5 hylen (by omega) (by rw [hby]; omega)
    | emp t a cap h1 h2 _ =>
      have : cap = 0 := by
        rcases h1 with h1 | h1 | ⟨_, h1⟩
        · subst h1; rcases ht with h | h <;> cases h
        · subst h1; rcases ht with h | h <;> cases h
        · exact h1
      subst this
      exact grow0 a rfl
    | sl t b' o' cap sz' h1 h2 h3 h4 h5 h6 h7 _ =>
      rcases ht with rfl | rfl
      · exact h7.elim
      · simp [TokOk] at h7
        subst h7
        exact grow0 _ rfl
  obtain ⟨zl, hzl⟩ : ∃ zl, (Builtin.zeroCells z.cells (grownCap w ys.length 0 e - ys.length)).toList = zl := ⟨_, rfl⟩
  have hzlen : zl.length = (grownCap w ys.length 0 e - ys.length) * sz := by rw [← hzl, Array.length_toList, size_zeroCells, hz2]
  have hz1c : ∀ q ∈ zl, q.oneCell' = true := by rw [← hzl]; exact zero_one (hzero z htz) (by rw [hz2]; exact he.pos) _
  have hfl : (ys.flatMap AV.cells).length = ys.length * sz := flat_length (szs_spec hy)
  have hI := hi.draw.allocObj (ys.flatMap AV.cells ++ zl.map .sc) (news ++ zl) e (n1.append (relL_scs zl)) (by
    intro q hq
    rcases List.mem_append.1 hq with hq | hq
    · exact n2 q hq
    · exact hz1c q hq)
  have ea : (news.toArray ++ Builtin.zeroCells z.cells (grownCap w ys.length 0 e - ys.length)) = (news ++ zl).toArray := by
    rw [← hzl]; apply Array.toList_inj.1; simp
  rw [ea] at hrun
  refine ⟨_, _, _, _, C, hrun, ⟨w.heap.size, zl.map .sc, grownCap w ys.length 0 e, hi.heap_fresh, rfl, rfl, ?_, by simpa using hcap, hcm⟩, CLe.refl C, Rel.sc _, hI⟩
  rw [List.length_append, List.length_map, hfl, hzlen, ← Nat.add_mul]
  congr 1
  have : ys.length ≤ grownCap w ys.length 0 e := by simpa using hcap
  omega
theorem ACalls.bareArg {f : FuncId} {g cap sz : Nat} {e : TypeId} {xs zs post : List AV} {R : AV → Heap → Prop} (hg : H g = some (.cells (xs.flatMap AV.cells ++ zs) e)) (hx : szs sz xs = true) (hc : (xs.flatMap AV.cells ++ zs).length = cap * sz) (hn : xs.length ≤ cap) (hm : cap ≤ maxLen)
    (h : ACalls P f (.sl xs (.own g cap sz e) :: post) (H.set g (.open xs.length cap sz e)) R) : ACalls P f (.sc (.slice (some ⟨g, 0, none⟩) xs.length cap) :: post) H R := by
  intro W0 C w vs hi ha
  obtain ⟨v, vs', rfl, hv, hr⟩ := ha.uncons
  obtain rfl := hv.sc_inv
  obtain ⟨C', c1, c2, c3⟩ := hi.ownRow hg hx rfl hc hn hm
  refine (h W0 C' w _ c2 (RelL.cons c3 (hr.mono c1))).mono fun e w' ⟨r, H', C'', v, h1, h2, h3, h4, h5⟩ => ⟨r, H', C'', v, h1, h2, c1.trans h3, h4, h5⟩
theorem flat_split {xs : List AV} {i : Nat} {c : AV} (hx : xs[i]? = some c) : xs.flatMap AV.cells = (xs.take i).flatMap AV.cells ++ (c.cells ++ (xs.drop (i + 1)).flatMap AV.cells) := by
  obtain ⟨hi, e⟩ := List.getElem?_eq_some_iff.1 hx
  conv => lhs; rw [← List.take_append_drop i xs, List.drop_eq_getElem_cons hi, e]
  rw [List.flatMap_append, List.flatMap_cons]
theorem flat_take_len {xs : List AV} {sz i : Nat} (h : szs sz xs = true) (hi : i ≤ xs.length) : ((xs.take i).flatMap AV.cells).length = i * sz := by
  rw [flat_length (szs_spec (szs_take h i)), List.length_take, Nat.min_eq_left hi]
theorem flat_row {xs zs : List AV} {sz i : Nat} {c : AV} (h : szs sz xs = true) (hx : xs[i]? = some c) : ((xs.flatMap AV.cells ++ zs).drop (i * sz)).take sz = c.cells := by
  have hi := (List.getElem?_eq_some_iff.1 hx).1
  rw [flat_split hx, List.append_assoc, List.append_assoc, List.drop_left' (flat_take_len h (by omega))]
  exact List.take_left' (szs_spec h c (List.mem_of_getElem? hx))
theorem flat_fits {xs zs : List AV} {sz i : Nat} (h : szs sz xs = true) (hi : i < xs.length) : i * sz + sz ≤ (xs.flatMap AV.cells ++ zs).length := by
  rw [List.length_append, flat_length (szs_spec h)]
  have : (i + 1) * sz ≤ xs.length * sz := Nat.mul_le_mul_right _ hi
  rw [Nat.add_mul, Nat.one_mul] at this
  omega
theorem flat_cell {xs zs : List AV} {sz i k : Nat} {c : AV} (h : szs sz xs = true) (hx : xs[i]? = some c) (hk : k < sz) : (xs.flatMap AV.cells ++ zs)[i * sz + k]? = c.cells[k]? := by
  have hr := flat_row (zs := zs) h hx
  have := congrArg (fun l => l[k]?) hr
  rw [List.getElem?_take, if_pos hk, List.getElem?_drop] at this
  exact this
theorem flat_setZ {xs zs : List AV} {sz i k : Nat} {cs : List AV} {v : AV} (h : szs sz xs = true) (hx : xs[i]? = some (.agg cs)) (hk : k < sz) : (xs.flatMap AV.cells ++ zs).set (i * sz + k) v = (xs.set i (.agg (cs.set k v))).flatMap AV.cells ++ zs := by
  obtain ⟨hi, e⟩ := List.getElem?_eq_some_iff.1 hx
  have hl := flat_take_len h (Nat.le_of_lt hi)
  have hcs : cs.length = sz := szs_spec h _ (List.mem_of_getElem? hx)
  have hx' : (xs.set i (.agg (cs.set k v)))[i]? = some (.agg (cs.set k v)) := by rw [List.getElem?_set_self hi]
  have e1 : xs.flatMap AV.cells ++ zs = (xs.take i).flatMap AV.cells ++ (cs ++ ((xs.drop (i + 1)).flatMap AV.cells ++ zs)) := by
    rw [flat_split hx]; simp [AV.cells]
  have e2 : (xs.set i (.agg (cs.set k v))).flatMap AV.cells ++ zs = (xs.take i).flatMap AV.cells ++ (cs.set k v ++ ((xs.drop (i + 1)).flatMap AV.cells ++ zs)) := by
    rw [flat_split hx', List.take_set_of_le (Nat.le_refl i), List.drop_set_of_lt (by omega)]; simp [AV.cells]
  rw [e1, e2, List.set_append_right _ _ (by omega), hl, Nat.add_sub_cancel_left, List.set_append_left _ _ (by omega)]
end Rg
namespace Go.Proofs.YtmoncokklkiikaaGreatDoor
open Rg Go
variable {H : Heap}
noncomputable def jobZB : Bool := match tzero Tryz.prog 25 with
  | some z => z.cells.toList.all fun q => q.oneCell'
  | none => true
theorem jobZB_ok : jobZB = true := by kernel_rfl
theorem jobZero : ∀ z, tzero Tryz.prog 25 = some z → ∀ q ∈ z.cells.toList, q.oneCell' = true := by
  intro z hz q hq
  have h := jobZB_ok
  unfold jobZB at h
  rw [hz] at h
  exact List.all_eq_true.1 h q hq
theorem szs_jobs (js : List Jb) : szs 12 (jobsAV js) = true := szs_map (f := fun j => jbAV j .no) (fun _ => rfl) _
def CloneR (js : List Jb) (H : Heap) (v : AV) (K : Heap) : Prop :=
  (js = [] ∧ (v = .sl [] .nil ∨ v = .sl [] .full) ∧ K = H) ∨ (∃ g zs cap, H g = none ∧ v = .sc (.slice (some ⟨g, 0, none⟩) js.length cap) ∧ K = H.set g (.cells ((jobsAV js).flatMap AV.cells ++ zs) 25) ∧ ((jobsAV js).flatMap AV.cells ++ zs).length = cap * 12 ∧ js.length ≤ cap ∧ cap ≤ maxLen)
theorem c_clone0 : ACalls Tryz.prog 63 [.sl [] .live] H (CloneR [] H) := by
  refine ACalls.into Tryz.func63 rfl Tryz.ntmps63 Tryz.results63 (by simp) ?_
  simp -implicitDefEqProofs [Tok.isNil]
  refine AApp.same el_95 (by simp) (by simp) (by simp [maxLen]) ?_
  simp -implicitDefEqProofs
  exact ⟨_, _, wk_refl _, HWk.refl _, .inl ⟨rfl, .inr rfl, rfl⟩⟩
theorem c_cloneNil : ACalls Tryz.prog 63 [.sl [] .nil] H (CloneR [] H) := by
  refine ACalls.into Tryz.func63 rfl Tryz.ntmps63 Tryz.results63 (by simp) ?_
  simp -implicitDefEqProofs [Tok.isNil]
  exact ⟨_, _, wk_refl _, HWk.refl _, .inl ⟨rfl, .inl rfl, rfl⟩⟩
theorem c_cloneRaw {js : List Jb} (hjs : js.length ≤ 1000000) : ACalls Tryz.prog 63 [.sl (jobsAV js) .no] H (CloneR js H) := by
  refine ACalls.nilCase (pre := []) (post := []) (fun h => ?_) ?_
  · obtain rfl := List.map_eq_nil_iff.1 h
    exact c_cloneNil
  · by_cases h0 : js = []
    · subst h0; exact c_clone0
    · simp only [List.nil_append]
      refine ACalls.into Tryz.func63 rfl Tryz.ntmps63 Tryz.results63 (by simp) ?_
      simp -implicitDefEqProofs [Tok.isNil]
      refine AApp.byC (appC_raw el_95 jobZero (.inr rfl) (szs_jobs js) (by simpa using h0) (by simp; omega) (by simp [maxLen]; omega)) fun v K hv => ?_
      obtain ⟨g, zs, cap, hg, rfl, rfl, h1, h2, h3⟩ := hv
      rw [List.length_map] at h2
      simp -implicitDefEqProofs
      exact ⟨_, _, wk_refl _, HWk.refl _, .inr ⟨g, zs, cap, hg, by simp, rfl, h1, h2, h3⟩⟩
def cap60 (j : Jb) : Jb := if 60 < j.tim then { j with tim := 60 } else j
theorem cap60_ok {js : List Jb} (h : JobsOk js) : JobsOk (js.map cap60) := by
  have he : ∀ j, (cap60 j).ex = j.ex ∧ (cap60 j).deps = j.deps ∧ (cap60 j).id = j.id := fun j => by unfold cap60; split <;> exact ⟨rfl, rfl, rfl⟩
  refine ⟨by rw [List.length_map]; exact h.len, fun j hj => ?_, fun j hj => ?_, ?_⟩
  · obtain ⟨k, hk, rfl⟩ := List.mem_map.1 hj
    rw [(he k).1]; exact h.ex k hk
  · obtain ⟨k, hk, rfl⟩ := List.mem_map.1 hj
    rw [(he k).2.1]; exact h.dep k hk
  · rw [List.map_map, show (Jb.id ∘ cap60) = Jb.id from funext fun j => (he j).2.2]
    exact h.id
end Go.Proofs.YtmoncokklkiikaaGreatDoor
namespace Go.Proofs.YtmoncokklkiikaaGreatDoor
open Rg Go
theorem gap_inv {fr : Nat} {all : List Nat} : ∀ (M : List Nat) (b e last : Nat), (last :: M).Pairwise (· ≤ ·) → fr ≤ b → b ≤ e → e ≤ last → (∀ z ∈ all, z ≤ last ∨ z ∈ M) → (∀ z ∈ all, ¬ (b < z ∧ z < e)) →
    fr ≤ (gapGo M (b, e, last)).1 ∧ (gapGo M (b, e, last)).1 ≤ (gapGo M (b, e, last)).2.1 ∧ (gapGo M (b, e, last)).2.1 ≤ (gapGo M (b, e, last)).2.2 ∧ (gapGo M (b, e, last)).2.2 ∈ last :: M ∧ ∀ z ∈ all, ¬ ((gapGo M (b, e, last)).1 < z ∧ z < (gapGo M (b, e, last)).2.1)
  | [], b, e, last, _, h1, h2, h3, _, h5 => ⟨h1, h2, h3, by simp [gapGo], h5⟩
  | now :: M, b, e, last, hs, h1, h2, h3, h4, h5 => by
    rw [List.pairwise_cons] at hs
    have hln : last ≤ now := hs.1 now (by simp)
    have hs2 := hs.2
    rw [gapGo]
    have h4' : ∀ z ∈ all, z ≤ now ∨ z ∈ M := fun z hz => by
      rcases h4 z hz with h | h
      · exact .inl (by omega)
      · rcases List.mem_cons.1 h with h | h
        · exact .inl (by omega)
        · exact .inr h
    split
    · obtain ⟨g1, g2, g3, g4, g5⟩ := gap_inv (fr := fr) M last now now hs2 (by omega) hln (Nat.le_refl _) h4' (fun z hz ⟨q1, q2⟩ => by
        rcases h4 z hz with h | h
        · omega
        · rcases List.mem_cons.1 h with h | h
          · omega
          · have := (List.pairwise_cons.1 hs2).1 z h; omega)
      exact ⟨g1, g2, g3, List.mem_cons_of_mem _ g4, g5⟩
    · obtain ⟨g1, g2, g3, g4, g5⟩ := gap_inv (fr := fr) M b e now hs2 h1 h2 (by omega) h4' h5
      exact ⟨g1, g2, g3, List.mem_cons_of_mem _ g4, g5⟩
structure InOrder (L : List PI) (fr tt : Nat) : Prop where
  srt : (L.map PI.at_).Pairwise (· ≤ ·)
  lo : ∀ y ∈ L, fr < y.at_
  hi : ∀ y ∈ L, y.at_ ≤ tt
theorem gap_free {L : List PI} {fr tt : Nat} (h : InOrder L fr tt) (hft : fr < tt) (ht : tt < 13569465600) : fr ≤ (gapP L fr tt).1 ∧ (gapP L fr tt).1 ≤ (gapP L fr tt).2 ∧ (gapP L fr tt).2 ≤ tt ∧ ∀ y ∈ L, ¬ ((gapP L fr tt).1 < y.at_ ∧ y.at_ < (gapP L fr tt).2) := by
  unfold gapP
  rw [if_pos ⟨momP_iff.2 ⟨by omega, by omega⟩, momP_iff.2 ⟨by omega, by omega⟩, by omega⟩, Int.toNat_natCast, Int.toNat_natCast]
  have hs : (fr :: (L.map PI.at_ ++ [tt])).Pairwise (· ≤ ·) := by
    rw [List.pairwise_cons, List.pairwise_append]
    refine ⟨fun z hz => ?_, h.srt, List.pairwise_singleton _ _, fun a ha b hb => ?_⟩
    · rcases List.mem_append.1 hz with hz | hz
      · obtain ⟨y, hy, rfl⟩ := List.mem_map.1 hz
        have := h.lo y hy; omega
      · rw [List.mem_singleton.1 hz]; omega
    · obtain ⟨y, hy, rfl⟩ := List.mem_map.1 ha
      rw [List.mem_singleton.1 hb]
      exact h.hi y hy
  obtain ⟨g1, g2, g3, g4, g5⟩ := gap_inv (fr := fr) (all := L.map PI.at_) (L.map PI.at_ ++ [tt]) fr fr fr hs (Nat.le_refl _) (Nat.le_refl _) (Nat.le_refl _) (fun z hz => .inr (List.mem_append.2 (.inl hz))) (fun z _ => by omega)
  refine ⟨g1, g2, ?_, fun y hy => g5 _ (List.mem_map_of_mem hy)⟩
  have : (gapGo (L.map PI.at_ ++ [tt]) (fr, fr, fr)).2.2 ≤ tt := by
    rcases List.mem_cons.1 g4 with h1 | h1
    · omega
    · rcases List.mem_append.1 h1 with h1 | h1
      · obtain ⟨y, hy, e⟩ := List.mem_map.1 h1
        have := h.hi y hy; omega
      · rw [List.mem_singleton.1 h1]; exact Nat.le_refl _
  omega
theorem peak_inv (L : List PI) : ∀ (r : List PI) (s : Nat × Nat), (∀ x ∈ r, x ∈ L) → s.1 ≤ L.length → (0 < s.1 → ∃ x ∈ L, s.2 = x.at_) →
    (peakGo L r s).1 ≤ L.length ∧ s.1 ≤ (peakGo L r s).1 ∧ (∀ x ∈ r, cntP L x.at_ ≤ (peakGo L r s).1) ∧ (0 < (peakGo L r s).1 → ∃ x ∈ L, (peakGo L r s).2 = x.at_)
  | [], s, _, h1, h2 => ⟨h1, Nat.le_refl _, by simp, h2⟩
  | x :: r, s, h, h1, h2 => by
    rw [peakGo]
    by_cases hc : s.1 < cntP L x.at_
    · rw [if_pos hc]
      obtain ⟨g1, g2, g3, g4⟩ := peak_inv L r (cntP L x.at_, x.at_) (fun y hy => h y (by simp [hy])) (cntP_le _ _) (fun _ => ⟨x, h x (by simp), rfl⟩)
      refine ⟨g1, by simp only at g2; omega, fun y hy => ?_, g4⟩
      rcases List.mem_cons.1 hy with e | hy
      · rw [e]; exact g2
      · exact g3 y hy
    · rw [if_neg hc]
      obtain ⟨g1, g2, g3, g4⟩ := peak_inv L r s (fun y hy => h y (by simp [hy])) h1 h2
      refine ⟨g1, g2, fun y hy => ?_, g4⟩
      rcases List.mem_cons.1 hy with e | hy
      · rw [e]; omega
      · exact g3 y hy
theorem peak_some {L : List PI} (ht : ∀ y ∈ L, 1 ≤ y.tmo) : (peakP L).1 ≤ L.length ∧ (0 < (peakP L).1 ↔ 0 < L.length) ∧ (0 < (peakP L).1 → ∃ x ∈ L, (peakP L).2 = x.at_) := by
  obtain ⟨g1, _, g3, g4⟩ := peak_inv L L (0, 0) (fun x hx => hx) (Nat.zero_le _) (fun h => absurd h (Nat.lt_irrefl 0))
  refine ⟨g1, ⟨fun h => Nat.lt_of_lt_of_le h g1, fun h => ?_⟩, g4⟩
  obtain ⟨x, hx⟩ := List.exists_mem_of_length_pos h
  have h1 := g3 x hx
  have h2 : 0 < cntP L x.at_ := by
    unfold cntP
    refine List.length_pos_iff.2 (List.ne_nil_of_mem (a := x) (List.mem_filter.2 ⟨hx, ?_⟩))
    have := ht x hx
    unfold runsAt
    simp only [Nat.le_refl, decide_true, Bool.true_and, decide_eq_true_eq]
    omega
  unfold peakP
  omega
theorem clash_none_go : ∀ (r : List PI) (out kept : List PI), (r.Pairwise fun y x => y.place = x.place → y.at_ + y.tmo ≤ x.at_) → (∀ y ∈ kept, ∀ x ∈ r, y.place = x.place → y.at_ + y.tmo ≤ x.at_) → (∀ x ∈ r, 1 ≤ x.lim) → (clashGo r (out, kept)).1 = out
  | [], _, _, _, _, _ => rfl
  | x :: r, out, kept, h1, h2, h3 => by
    rw [List.pairwise_cons] at h1
    have hh : hits kept x = 0 := by
      unfold hits
      refine List.length_eq_zero_iff.2 (List.filter_eq_nil_iff.2 fun y hy hc => ?_)
      unfold hit at hc
      simp only [Bool.and_eq_true, decide_eq_true_eq] at hc
      have := h2 y hy x (by simp) hc.1
      omega
    have hl := h3 x (by simp)
    rw [clashGo, hh, if_neg (by omega)]
    refine clash_none_go r out (kept ++ [x]) h1.2 (fun y hy z hz => ?_) fun y hy => h3 y (by simp [hy])
    rcases List.mem_append.1 hy with hy | hy
    · exact h2 y hy z (by simp [hz])
    · rw [List.mem_singleton.1 hy]; exact h1.1 z hz
theorem clash_none {L : List PI} (h : L.Pairwise fun y x => y.place = x.place → y.at_ + y.tmo ≤ x.at_) (hl : ∀ x ∈ L, 1 ≤ x.lim) : clashP L = [] := clash_none_go L [] [] h (by simp) hl
theorem planI_mem {js : List Jb} {fr tt most : Int} {y : PI} (h : y ∈ planI js fr tt most) : ∃ z ∈ planL js fr.toNat tt.toNat, y = itemOf js z := by
  obtain ⟨z, hz, rfl⟩ := List.mem_map.1 h
  exact ⟨z, (planZ_mem (List.mem_of_mem_take hz)).2.2, rfl⟩
theorem planZ_srt (js : List Jb) (fr tt : Int) : (planZ js fr tt).Pairwise pLt := by
  unfold planZ
  split
  · exact (planL_merged js _ _).srt
  · exact List.Pairwise.nil
theorem planI_order {js : List Jb} {a b : Nat} {most : Int} : InOrder (planI js a b most) a b := by
  refine ⟨?_, fun y hy => ?_, fun y hy => ?_⟩
  · unfold planI
    rw [List.map_map, List.pairwise_map]
    refine (List.Pairwise.sublist (List.take_sublist _ _) (planZ_srt js a b)).imp fun {z w} h => ?_
    show z.1 ≤ w.1
    rcases h with h | h
    · omega
    · omega
  · obtain ⟨z, hz, rfl⟩ := planI_mem hy
    exact (plan_le hz).2
  · obtain ⟨z, hz, rfl⟩ := planI_mem hy
    exact (plan_le hz).1
theorem planI_tmo {js : List Jb} {fr tt most : Int} : ∀ y ∈ planI js fr tt most, 1 ≤ y.tmo ∧ 1 ≤ y.lim := fun y hy => by
  obtain ⟨z, hz, rfl⟩ := planI_mem hy
  have := live_tim (plan_mem hz).2.1
  unfold itemOf
  simp only
  omega
theorem jobOf_cap {js : List Jb} {i : Nat} (h : i < js.length) : jobOf (js.map cap60) i = cap60 (jobOf js i) := by
  unfold jobOf
  rw [List.getD_eq_getElem?_getD, List.getD_eq_getElem?_getD, List.getElem?_map, List.getElem?_eq_getElem h]
  rfl
theorem fires_60 {x : Ex} {a b : Nat} (hb : b < 13569465600) {t : Nat} (h : t ∈ firesL x a b) : t % 60 = 0 := by
  obtain ⟨h1, _, h3⟩ := fires_mem.1 h
  exact ((fire_eq x (by omega)).1 h3).1
theorem wide_none {js : List Jb} {a b : Nat} (hb : b < 13569465600) : clashP (planI (js.map cap60) a b 61) = [] := by
  refine clash_none ?_ fun y hy => (planI_tmo y hy).2
  unfold planI
  rw [List.pairwise_map]
  refine List.Pairwise.imp_of_mem (fun {z w} hz hw h hp => ?_) (List.Pairwise.sublist (List.take_sublist _ _) (planZ_srt (js.map cap60) a b))
  have hp : z.2 = w.2 := hp
  have h1 := plan_mem (planZ_mem (List.mem_of_mem_take hz)).2.2
  have h2 := plan_mem (planZ_mem (List.mem_of_mem_take hw)).2.2
  have e1 := fires_60 hb h1.2.2
  have e2 := fires_60 hb h2.2.2
  have hlt : z.1 < w.1 := by
    rcases h with h | h
    · exact h
    · omega
  have ht : (itemOf (js.map cap60) z).tmo ≤ 60 := by
    have hl : z.2 < js.length := by simpa using h1.1
    unfold itemOf
    simp only
    rw [jobOf_cap hl]
    unfold cap60
    split
    · simp
    · omega
  show z.1 + _ ≤ w.1
  omega
end Go.Proofs.YtmoncokklkiikaaGreatDoor
namespace Go.Proofs.YtmoncokklkiikaaGreatDoor
open Rg Go
variable {H : Heap}
def mixJ (js : List Jb) (i : Nat) : List Jb := (js.take i).map cap60 ++ js.drop i
theorem mix_at {js : List Jb} {i : Nat} {j : Jb} (h : js[i]? = some j) : (mixJ js i)[i]? = some j := by
  have hi := (List.getElem?_eq_some_iff.1 h).1
  unfold mixJ
  rw [List.getElem?_append_right (by rw [List.length_map, List.length_take]; omega), List.length_map, List.length_take, Nat.min_eq_left (by omega), Nat.sub_self, List.getElem?_drop]
  exact h
theorem mix_next {js : List Jb} {i : Nat} {j : Jb} (h : js[i]? = some j) : mixJ js (i + 1) = (mixJ js i).set i (cap60 j) := by
  obtain ⟨hi, e⟩ := List.getElem?_eq_some_iff.1 h
  unfold mixJ
  rw [List.set_append_right _ _ (by rw [List.length_map, List.length_take]; omega), List.length_map, List.length_take, Nat.min_eq_left (by omega), Nat.sub_self, List.drop_eq_getElem_cons hi, List.set_cons_zero, List.take_succ_eq_append_getElem hi, List.map_append, e]
  simp
theorem mix_len (js : List Jb) (i : Nat) : (mixJ js i).length = js.length := by
  unfold mixJ
  rw [List.length_append, List.length_map, List.length_take, List.length_drop]; omega
theorem mix_end (js : List Jb) : mixJ js js.length = js.map cap60 := by
  unfold mixJ
  rw [List.take_length, List.drop_length, List.append_nil]
set_option maxRecDepth 100000 in
set_option maxHeartbeats 16000000 in
theorem planFree_ok (hG : Glob H) {js : List Jb} (hjs : js.length ≤ 9223372036854775807) (hex : ∀ j ∈ js, j.ex.length ≤ 9223372036854775807) (fr tt : Int) :
    AOk Tryz.prog 11 [.sl (jobsAV js) .no, .sc (.int .i64 fr), .sc (.int .i64 tt)] H (.sc (.bool true)) H := by
  refine ACalls.into Tryz.func11 rfl Tryz.ntmps11 Tryz.results11 (by simp) ?_
  simp -implicitDefEqProofs
  refine ACall.eq (c_known37 hG) ?_
  simp -implicitDefEqProofs
  refine ACall.eq (c_heavy37 js 1 hjs) ?_
  cases hh : heavyP js 1 with
  | true => simp -implicitDefEqProofs
  | false =>
  obtain ⟨hj, hl12, _⟩ := heavy_ok hex hh
  by_cases c1 : fr < 0
  · simp -implicitDefEqProofs [c1]
  by_cases c2 : tt ≤ fr
  · simp -implicitDefEqProofs [c1, c2]
  by_cases c4 : 13569465600 ≤ tt
  · simp -implicitDefEqProofs [c1, c2, c4]
  obtain ⟨a, rfl⟩ := Int.eq_ofNat_of_zero_le (show 0 ≤ fr by omega)
  obtain ⟨b, rfl⟩ := Int.eq_ofNat_of_zero_le (show 0 ≤ tt by omega)
  have hab : a < b := by omega
  have hb : b < 13569465600 := by omega
  have q1 := c_pFirst hG hG.ctz hj a b 61 (by omega)
  have q2 := c_pGap hG hG.ctz hj a b 61 (by omega)
  have q3 := fun K (h : Glob K) => c_pPeak h h.ctz hj a b 61 (by omega)
  have q4 := fun K (h : Glob K) => c_pClashes h h.ctz (cap60_ok hj) a b 61 (by omega)
  rw [wide_none hb] at q4
  have hn1 := planI_len js a b 61
  change _ ≤ 61 at hn1
  have hord := planI_order (js := js) (a := a) (b := b) (most := 61)
  have htmo := planI_tmo (js := js) (fr := a) (tt := b) (most := 61)
  simp -implicitDefEqProofs [c1, c2, c4]
  refine ACall.eq q1 ?_
  generalize planI js a b 61 = L at *
  have hlenI : (60 : Int) < (L.length : Int) ↔ 60 < L.length := by omega
  by_cases c5 : 60 < L.length
  · simp -implicitDefEqProofs [hlenI, c5]
  obtain ⟨g1, g2, g3, g4⟩ := gap_free hord hab hb
  obtain ⟨p1, p2, p3⟩ := peak_some fun y hy => (htmo y hy).1
  generalize gapP L a b = gp at *
  generalize peakP L = pk at *
  simp -implicitDefEqProofs [hlenI, c5]
  refine ACall.eq q2 ?_
  have n1 : ¬ (gp.1 : Int) < (a : Int) := by omega
  have n2 : ¬ (b : Int) < (gp.2 : Int) := by omega
  have n3 : ¬ (gp.2 : Int) < (gp.1 : Int) := by omega
  have n1' : ¬ gp.1 < a := by omega
  have n2' : ¬ b < gp.2 := by omega
  have n3' : ¬ gp.2 < gp.1 := by omega
  simp -implicitDefEqProofs [n1, n2, n3, n1', n2', n3']
  clear q1 q2
  refine AGo.joinLoop (fun ρ' K' => ρ' 0 = .sl (jobsAV js) .no ∧ ρ' 1 = .sc (.int .i64 (a : Int)) ∧ ρ' 2 = .sc (.int .i64 (b : Int)) ∧ ρ' 7 = .sl (L.map pitAV) .no ∧ HLe H K') (fun k' hk' => ?_) ?_
  · as_aux_lemma =>
      refine AGo.rounds (fun μ ρ K => ∃ i : Nat, μ = L.length - i ∧ i ≤ L.length ∧ ρ 0 = .sl (jobsAV js) .no ∧ ρ 1 = .sc (.int .i64 (a : Int)) ∧ ρ 2 = .sc (.int .i64 (b : Int)) ∧ ρ 7 = .sl (L.map pitAV) .no ∧ ρ 8 = .sc (.int .i64 (gp.1 : Int)) ∧ ρ 9 = .sc (.int .i64 (gp.2 : Int)) ∧ ρ 60 = .sl (L.map pitAV) .no ∧ ρ 61 = .sc (.int .i64 (L.length : Int)) ∧ ρ 62 = .sc (.int .i64 (i : Int)) ∧ HLe H K) ?_ (m := L.length) (HLe.refl _)
        ⟨0, by omega, by omega, by simp, by simp, by simp, by simp, by simp, by simp, by simp, by simp, by simp, HLe.refl _⟩
      clear hb c4 c1 c2 hab q3 q4 hord htmo p1 p2 p3 n1 n2 n3 n1' n2' n3' g1 g2 g3
      rintro μ ρ K ih ⟨i, rfl, hi, r0, r1, r2, r7, r8, r9, r60, r61, r62, hle⟩
      rcases Nat.lt_or_ge i L.length with hlt | hge
      · obtain ⟨x, hx, hx'⟩ := getAt hlt
        have hfree := g4 x (List.mem_of_getElem? hx')
        have hwi : IntKind.i64.wrap ((i : Int) + 1) = ((i + 1 : Nat) : Int) := wadd (b := 1) rfl (by omega)
        simp -implicitDefEqProofs [r60, r61, r62, hlt, hx]
        refine AAlloc.intro fun b11 h11 => ?_
        have i1 : (gp.1 : Int) < (x.at_ : Int) ↔ gp.1 < x.at_ := by omega
        have i2 : (x.at_ : Int) < (gp.2 : Int) ↔ x.at_ < gp.2 := by omega
        by_cases h1 : gp.1 < x.at_
        · have h2 : ¬ x.at_ < gp.2 := fun h => hfree ⟨h1, h⟩
          simp -implicitDefEqProofs [r8, r9, i1, i2, h1, h2, r62, hwi]
          exact AGo.again ih (m' := L.length - (i + 1)) (by omega) (HLe.refl _) ⟨i + 1, rfl, by omega, by simp [r0], by simp [r1], by simp [r2], by simp [r7], by simp [r8], by simp [r9], by simp [r60], by simp [r61], by simp, hle.trans (HLe.set_fresh h11)⟩
        · simp -implicitDefEqProofs [r8, r9, i1, h1, r62, hwi]
          exact AGo.again ih (m' := L.length - (i + 1)) (by omega) (HLe.refl _) ⟨i + 1, rfl, by omega, by simp [r0], by simp [r1], by simp [r2], by simp [r7], by simp [r8], by simp [r9], by simp [r60], by simp [r61], by simp, hle.trans (HLe.set_fresh h11)⟩
      · have hn : ¬ i < L.length := by omega
        simp -implicitDefEqProofs [r61, r62, hn]
        exact hk' _ _ ⟨by simp [r0], by simp [r1], by simp [r2], by simp [r7], hle⟩
  · as_aux_lemma =>
      rintro ρ K ⟨r0, r1, r2, r7, hle⟩
      have hGK := hG.le hle
      simp -implicitDefEqProofs [r0, r1, r2]
      refine ACall.eq (q3 _ hGK) ?_
      have i3 : (L.length : Int) < (pk.1 : Int) ↔ L.length < pk.1 := by omega
      have n4 : ¬ L.length < pk.1 := by omega
      obtain ⟨bb, hb1, hb2, hb1', hb2', hb3⟩ : ∃ bb : Bool, decide ((0 : Int) < (pk.1 : Int)) = bb ∧ decide ((0 : Int) < (L.length : Int)) = bb ∧ decide (0 < pk.1) = bb ∧ decide (0 < L.length) = bb ∧ (bb = true → ¬ (pk.2 : Int) ≤ (a : Int) ∧ ¬ (b : Int) < (pk.2 : Int) ∧ ¬ pk.2 ≤ a ∧ ¬ b < pk.2) := by
        by_cases h0 : 0 < L.length
        · have h1 := p2.2 h0
          obtain ⟨x, hx, hxe⟩ := p3 h1
          have hlo := hord.lo x hx
          have hhi := hord.hi x hx
          refine ⟨true, ?_, ?_, ?_, ?_, fun _ => ⟨?_, ?_, ?_, ?_⟩⟩
          · rw [decide_eq_true_eq]; omega
          · rw [decide_eq_true_eq]; omega
          · rw [decide_eq_true_eq]; omega
          · rw [decide_eq_true_eq]; omega
          · omega
          · omega
          · omega
          · omega
        · have h1 : ¬ 0 < pk.1 := fun h => h0 (p2.1 h)
          refine ⟨false, ?_, ?_, ?_, ?_, fun h => by cases h⟩
          · rw [decide_eq_false_iff_not]; omega
          · rw [decide_eq_false_iff_not]; omega
          · rw [decide_eq_false_iff_not]; omega
          · rw [decide_eq_false_iff_not]; omega
      clear p1 p2 p3 hord htmo g1 g2 g3 g4 hlenI c5 n1 n2 n3 n1' n2' n3' q3
      have hclone := fun K => c_cloneRaw (H := K) (js := js) (by omega)
      cases bb
      all_goals
        simp only [decide_eq_true_eq, decide_eq_false_iff_not] at hb1 hb2 hb1' hb2'
        first
        | (obtain ⟨n5, n6, n5', n6'⟩ := hb3 rfl; simp -implicitDefEqProofs [r7, r0, r1, r2, i3, n4, hb1, hb2, hb1', hb2', n5, n6, n5', n6'])
        | simp -implicitDefEqProofs [r7, r0, r1, r2, i3, n4, hb1, hb2, hb1', hb2']
        refine ACall.intro (hclone _) fun v K2 hv => ?_
        rcases hv with ⟨rfl, hv, hK2⟩ | ⟨g, zs, cap, hg, rfl, rfl, hzl, hcap, hcm⟩
        · obtain rfl := hK2.symm
          have hqc := q4 K hGK
          rcases hv with rfl | rfl
          all_goals
            simp -implicitDefEqProofs
            refine AGo.joinLoop (fun ρ' K' => ρ' 1 = .sc (.int .i64 (a : Int)) ∧ ρ' 2 = .sc (.int .i64 (b : Int)) ∧ (ρ' 14 = .sl [] .nil ∨ ρ' 14 = .sl [] .full) ∧ K' = K) (fun k' hk' => ?_) ?_
            · refine AGo.rounds (fun μ ρ' K' => ρ' 1 = .sc (.int .i64 (a : Int)) ∧ ρ' 2 = .sc (.int .i64 (b : Int)) ∧ (ρ' 14 = .sl [] .nil ∨ ρ' 14 = .sl [] .full) ∧ ρ' 113 = .sc (.int .i64 0) ∧ ρ' 114 = .sc (.int .i64 0) ∧ K' = K) ?_ (m := 0) (HLe.refl _) ⟨by simp [r1], by simp [r2], by simp, by simp, by simp, rfl⟩
              rintro μ ρ' K' ih ⟨s1, s2, s14, s113, s114, rfl⟩
              simp -implicitDefEqProofs [s113, s114]
              exact hk' _ _ ⟨by simp [s1], by simp [s2], by simpa using s14, rfl⟩
            · rintro ρ' K' ⟨s1, s2, s14, rfl⟩
              rcases s14 with s14 | s14
              all_goals
                simp -implicitDefEqProofs [s1, s2, s14]
                refine ACall.ok hqc (by simp [wkL, wk]) ?_
                simp -implicitDefEqProofs
                exact hle.wk
        · simp -implicitDefEqProofs
          refine AGo.joinLoop (fun ρ' K' => ρ' 1 = .sc (.int .i64 (a : Int)) ∧ ρ' 2 = .sc (.int .i64 (b : Int)) ∧ ρ' 14 = .sc (.slice (some ⟨g, 0, none⟩) js.length cap) ∧ HLe K K' ∧ K' g = some (.cells ((jobsAV (js.map cap60)).flatMap AV.cells ++ zs) 25)) (fun k' hk' => ?_) ?_
          · refine AGo.rounds (fun μ ρ' K' => ∃ i : Nat, μ = js.length - i ∧ i ≤ js.length ∧ ρ' 1 = .sc (.int .i64 (a : Int)) ∧ ρ' 2 = .sc (.int .i64 (b : Int)) ∧ ρ' 14 = .sc (.slice (some ⟨g, 0, none⟩) js.length cap) ∧ ρ' 113 = .sc (.int .i64 (js.length : Int)) ∧ ρ' 114 = .sc (.int .i64 (i : Int)) ∧ HLe K K' ∧ K' g = some (.cells ((jobsAV (mixJ js i)).flatMap AV.cells ++ zs) 25)) ?_ (m := js.length) (HLe.refl _)
              ⟨0, by omega, by omega, by simp [r1], by simp [r2], by simp, by simp, by simp, HLe.set_fresh hg, by simp [Heap.set, mixJ]⟩
            rintro μ ρ' K' ih ⟨i, rfl, hi, s1, s2, s14, s113, s114, hK, kg⟩
            rcases Nat.lt_or_ge i js.length with hlt | hge
            · obtain ⟨j, hjx, hj'⟩ := getAt hlt
              have hxs : (jobsAV (mixJ js i))[i]? = some (jbAV j .no) := by rw [List.getElem?_map, mix_at hj']; rfl
              have hil : i < (jobsAV (mixJ js i)).length := by rw [List.length_map, mix_len]; exact hlt
              have hcell := flat_cell (zs := zs) (k := 7) (szs_jobs (mixJ js i)) hxs (by omega)
              have hfit := flat_fits (zs := zs) (szs_jobs (mixJ js i)) hil
              have hset := flat_setZ (zs := zs) (k := 7) (v := .sc (.int .i64 60)) (szs_jobs (mixJ js i)) hxs (by omega)
              have hnext := mix_next hj'
              have hnx : (jobsAV (mixJ js i)).set i (jbAV (cap60 j) .no) = jobsAV (mixJ js (i + 1)) := by rw [hnext]; exact (List.map_set ..).symm
              have hwi : IntKind.i64.wrap ((i : Int) + 1) = ((i + 1 : Nat) : Int) := wadd (b := 1) rfl (by omega)
              have hcell : ((jobsAV (mixJ js i)).flatMap AV.cells ++ zs)[i * 12 + 7]? = some (.sc (.int .i64 j.tim)) := hcell
              have hfit2 : i * 12 + 7 + 1 ≤ ((jobsAV (mixJ js i)).flatMap AV.cells ++ zs).length := by omega
              obtain ⟨F, hF⟩ : ∃ F, (jobsAV (mixJ js i)).flatMap AV.cells ++ zs = F := ⟨_, rfl⟩
              rw [hF] at hcell hfit2 hset kg
              by_cases h60 : 60 < j.tim
              · have hc : cap60 j = { j with tim := 60 } := by unfold cap60; rw [if_pos h60]
                rw [hc] at hnx
                have hset : F.set (i * 12 + 7) (.sc (.int .i64 60)) = (jobsAV (mixJ js (i + 1))).flatMap AV.cells ++ zs := by rw [hset, ← hnx]; rfl
                obtain ⟨F2, hF2⟩ : ∃ F2, F.set (i * 12 + 7) (AV.sc (.int .i64 60)) = F2 := ⟨_, rfl⟩
                rw [hF2] at hset
                simp -implicitDefEqProofs [s14, s113, s114, hlt, kg, hcell, h60, hfit2, hF2, hwi]
                refine AGo.again ih (m' := js.length - (i + 1)) (by omega) (HLe.refl _) ⟨i + 1, rfl, by omega, by simp [s1], by simp [s2], by simp [s14], by simp [s113], by simp, HLe.set_new hK hg, ?_⟩
                rw [← hset]
                simp [Heap.set]
              · have hc : cap60 j = j := by unfold cap60; rw [if_neg h60]
                have hsame : (jobsAV (mixJ js (i + 1))).flatMap AV.cells ++ zs = F := by
                  rw [← hnx, hc, ← hF]
                  obtain ⟨q1, q2⟩ := List.getElem?_eq_some_iff.1 hxs
                  rw [← q2, List.set_getElem_self]
                simp -implicitDefEqProofs [s14, s113, s114, hlt, kg, hcell, h60, hwi]
                exact AGo.again ih (m' := js.length - (i + 1)) (by omega) (HLe.refl _) ⟨i + 1, rfl, by omega, by simp [s1], by simp [s2], by simp [s14], by simp [s113], by simp, hK, by rw [hsame]; exact kg⟩
            · have hn : ¬ i < js.length := by omega
              obtain rfl : i = js.length := by omega
              rw [mix_end] at kg
              simp -implicitDefEqProofs [s113, s114, hn]
              exact hk' _ _ ⟨by simp [s1], by simp [s2], by simp [s14], hK, kg⟩
          · rintro ρ' K' ⟨s1, s2, s14, hK, kg⟩
            have hxl : (jobsAV (js.map cap60)).length = js.length := by rw [List.length_map, List.length_map]
            have hfl : ((jobsAV (js.map cap60)).flatMap AV.cells ++ zs).length = cap * 12 := by
              rw [← hzl, List.length_append, List.length_append, flat_length (szs_spec (szs_jobs _)), flat_length (szs_spec (szs_jobs _)), List.length_map, List.length_map, List.length_map]
            have lK : HLe K (K'.set g (.open js.length cap 12 25)) := HLe.set_new hK hg
            have hqc := q4 _ (hG.le (hle.trans lK))
            have hb := ACalls.bareArg kg (szs_jobs _) hfl (by rw [hxl]; exact hcap) hcm (ACalls.argsW (by rw [hxl]; exact hqc) (args := .sl (jobsAV (js.map cap60)) (.own g cap 12 25) :: [.sc (.int .i64 (a : Int)), .sc (.int .i64 (b : Int)), .sc (.int .i64 61)]) (by simp [wkL, wk, wkL_refl]) (HWk.refl _))
            rw [hxl] at hb
            simp -implicitDefEqProofs [s1, s2, s14]
            refine ACall.intro hb fun v K3 hv => ?_
            obtain ⟨rfl, rfl⟩ := hv
            simp -implicitDefEqProofs
            exact (hle.trans lK).wk
end Go.Proofs.YtmoncokklkiikaaGreatDoor
