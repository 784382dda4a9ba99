/- What plans' laws use: rows that are the same, items, which jobs are too many; the chapter's rows. Which jobs are too many for plans' laws; sets of numbers as maps. PlanCut: what is cut in two; items joined; the law's walk. PlanCut: the law's walk. -/
import Derived.Test.YtmoncokklkiikaaGreatDoorP22
import Derived.Test.YtmoncokklkiikaaGreatDoorP09
set_option linter.unusedSimpArgs false
set_option linter.unusedVariables false
set_option linter.unnecessarySimpa false
namespace Go.Proofs.YtmoncokklkiikaaGreatDoor
open Rg Go
variable {H : Heap}
def PI.it (y : PI) : Nat × Nat := (y.at_, y.job)
abbrev itAV (p : Nat × Nat) : AV := .agg [.sc (.int .i64 (p.1 : Int)), .sc (.int .u64 (p.2 : Int))]
theorem pit_it (L : List PI) : L.map pitAV = (L.map PI.it).map itAV := by
  rw [List.map_map]; rfl
set_option maxHeartbeats 4000000 in
theorem c_equalP (L M : List (Nat × Nat)) (t u : Rg.Tok) (hL : L.length ≤ 1000000) : AOk Tryz.prog 58 [.sl (L.map itAV) t, .sl (M.map itAV) u] H (.sc (.bool (decide (L = M)))) H := by
  refine ACalls.into Tryz.func58 rfl Tryz.ntmps58 Tryz.results58 (by simp) ?_
  simp -implicitDefEqProofs
  by_cases hl : L.length = M.length
  · have hl' : (L.length : Int) = (M.length : Int) := by omega
    simp -implicitDefEqProofs [hl, hl']
    refine AGo.rounds (fun m ρ K => ∃ i, m = L.length - i ∧ i ≤ L.length ∧ L.take i = M.take i ∧ ρ 13 = .sc (.int .i64 (i : Int)) ∧ ρ 0 = .sl (L.map itAV) t ∧ ρ 1 = .sl (M.map itAV) u ∧ ρ 12 = .sc (.int .i64 (M.length : Int)) ∧ K = H) ?_ (m := L.length) (HLe.refl _)
      ⟨0, rfl, by omega, by simp, by simp, by simp, by simp, by simp, rfl⟩
    rintro m ρ K ih ⟨i, rfl, hi, hti, r13, r0, r1, r12, rfl⟩
    rcases Nat.lt_or_ge i L.length with hlt | hge
    · have hlm : i < M.length := by omega
      obtain ⟨x, hx, hx2⟩ := getAt hlt
      obtain ⟨y, hy, hy2⟩ := getAt hlm
      have hlt' : (i : Int) < (L.length : Int) := by omega
      have hlm' : (i : Int) < (M.length : Int) := by omega
      have hw1 : IntKind.i64.wrap ((i : Int) + 1) = ((i + 1 : Nat) : Int) := wadd (b := 1) rfl (by omega)
      simp -implicitDefEqProofs [r13, r0, r1, r12, hlm, hlm']
      refine go_draw 9 f_mixed (by decide +kernel) ?_
      by_cases hxy : x = y
      · subst hxy
        simp -implicitDefEqProofs [r13, r0, r1, r12, hlt, hlm, hx, hy, hw1]
        refine AGo.again ih (m' := L.length - (i + 1)) (by omega) (HLe.refl _) ⟨i + 1, rfl, by omega, ?_, by simp, by simp [r0], by simp [r1], by simp [r12], rfl⟩
        rw [List.take_add_one, List.take_add_one, hti, hx2, hy2]
      · have hne : ¬ L = M := by
          intro e
          subst e
          rw [hx2] at hy2
          cases hy2
          exact hxy rfl
        have hb : (!((x.1 : Int) == (y.1 : Int)) || !((x.2 : Int) == (y.2 : Int))) = true := by
          by_cases h1 : x.1 = y.1
          · have h2 : ¬ x.2 = y.2 := fun h2 => hxy (Prod.ext h1 h2)
            have h2' : ¬ (x.2 : Int) = (y.2 : Int) := by omega
            simp [h2']
          · have h1' : ¬ (x.1 : Int) = (y.1 : Int) := by omega
            simp [h1']
        simp -implicitDefEqProofs [r13, r0, r1, r12, hlt, hlm, hx, hy, hb, hne]
    · have hn : ¬ (i : Int) < (M.length : Int) := by omega
      have hn' : ¬ i < M.length := by omega
      have he : L = M := by rw [List.take_of_length_le hge, List.take_of_length_le (by omega)] at hti; exact hti
      simp -implicitDefEqProofs [r13, r0, r1, r12, hn, hn', he]
  · have hl' : ¬ (L.length : Int) = (M.length : Int) := by omega
    have hne : ¬ L = M := fun e => hl (by rw [e])
    simp -implicitDefEqProofs [hl, hl', hne]
def ty6 : List UInt8 := [42, 47, 51, 48, 32, 42, 32, 42, 32, 42, 32, 42]
def yx6 : Ex := ⟨⟨1073741825, true⟩, ⟨16777215, true⟩, ⟨4294967294, true⟩, ⟨8190, true⟩, ⟨127, true⟩⟩
set_option maxRecDepth 100000 in
theorem ky6 : cronK ty6 = (yx6, 0) := by decide +kernel
def jPa : Jb := ⟨1, [97], ty5, 2, 0, 1, 0, 4000, [], false, 0, 0⟩
def jPb : Jb := ⟨2, [98], ty6, 2, 0, 1, 0, 60, [], false, 0, 0⟩
theorem jPa_live : liveJ jPa = true := by
  have e : (cronK jPa.ex).2 = 0 := by rw [show jPa.ex = ty5 from rfl, ky5]
  unfold liveJ mayJ
  rw [e]
  decide
theorem jPb_live : liveJ jPb = true := by
  have e : (cronK jPb.ex).2 = 0 := by rw [show jPb.ex = ty6 from rfl, ky6]
  unfold liveJ mayJ
  rw [e]
  decide
theorem bit6 : ∀ m, m < 60 → hasB yx6.a.bits ((m : Nat) : Int) = true → m = 0 ∨ m = 30 := by decide +kernel
theorem fires_a : firesL yx5 0 7200 = [3600, 7200] := by
  refine pNat_eq (fires_sorted _ _ _) (by decide) fun k => ?_
  rw [fires_mem]
  constructor
  · rintro ⟨h1, h2, h3⟩
    obtain ⟨n, h, m, g1, g2, g3, rfl, _, _, g5, _⟩ := fire_inv (by omega) h3
    have := bit0 m g3 g5
    simp only [List.mem_cons, List.not_mem_nil, or_false]
    omega
  · intro hk
    simp only [List.mem_cons, List.not_mem_nil, or_false] at hk
    rcases hk with rfl | rfl
    · exact ⟨by omega, by omega, fire5 1 (by omega)⟩
    · exact ⟨by omega, by omega, fire5 2 (by omega)⟩
theorem fire6 : ∀ i, i < 25 → fireB yx6 (1800 * i) = true := by decide +kernel
theorem fires_b : firesL yx6 0 7200 = [1800, 3600, 5400, 7200] := by
  refine pNat_eq (fires_sorted _ _ _) (by decide) fun k => ?_
  rw [fires_mem]
  constructor
  · rintro ⟨h1, h2, h3⟩
    obtain ⟨n, h, m, g1, g2, g3, rfl, _, _, g5, _⟩ := fire_inv (by omega) h3
    have := bit6 m g3 g5
    simp only [List.mem_cons, List.not_mem_nil, or_false]
    omega
  · intro hk
    simp only [List.mem_cons, List.not_mem_nil, or_false] at hk
    rcases hk with rfl | rfl | rfl | rfl
    · exact ⟨by omega, by omega, fire6 1 (by omega)⟩
    · exact ⟨by omega, by omega, fire6 2 (by omega)⟩
    · exact ⟨by omega, by omega, fire6 3 (by omega)⟩
    · exact ⟨by omega, by omega, fire6 4 (by omega)⟩
theorem plan_two : planL [jPa, jPb] 0 7200 = [(1800, 1), (3600, 0), (3600, 1), (5400, 1), (7200, 0), (7200, 1)] := by
  have ea : restJ 0 7200 jPa = [3600, 7200] := by
    unfold restJ
    rw [if_pos jPa_live, show jPa.ex = ty5 from rfl, ky5]
    exact fires_a
  have eb : restJ 0 7200 jPb = [1800, 3600, 5400, 7200] := by
    unfold restJ
    rw [if_pos jPb_live, show jPb.ex = ty6 from rfl, ky6]
    exact fires_b
  unfold planL
  rw [List.map_cons, List.map_cons, List.map_nil, ea, eb]
  decide
def itemsTwo : List PI := [⟨1800, 2, 1, 60, 1⟩, ⟨3600, 1, 0, 4000, 1⟩, ⟨3600, 2, 1, 60, 1⟩, ⟨5400, 2, 1, 60, 1⟩, ⟨7200, 1, 0, 4000, 1⟩, ⟨7200, 2, 1, 60, 1⟩]
theorem planI_two : planI [jPa, jPb] 0 7200 9 = itemsTwo := by
  unfold planI planZ
  rw [if_pos (by decide), show (0 : Int).toNat = 0 from rfl, show (7200 : Int).toNat = 7200 from rfl, plan_two]
  rfl
theorem planI_five : planI [jPa, jPb] 5 5 9 = [] := by
  unfold planI planZ
  rw [if_neg (by decide)]
  rfl
theorem planI_zero : planI [jPa, jPb] 0 7200 0 = [] := rfl
theorem jobs_two : JobsOk [jPa, jPb] := by
  refine ⟨by decide, ?_, ?_, by decide⟩
  · intro j hj
    simp only [List.mem_cons, List.not_mem_nil, or_false] at hj
    rcases hj with rfl | rfl <;> decide
  · intro j hj
    simp only [List.mem_cons, List.not_mem_nil, or_false] at hj
    rcases hj with rfl | rfl <;> decide
theorem c_two : AOk Tryz.prog 124 [] H (.sl (jobsAV [jPa, jPb]) .no) H := by
  refine ACalls.into Tryz.func124 rfl Tryz.ntmps124 Tryz.results124 (by simp) ?_
  simp -implicitDefEqProofs
  refine AAlloc.intro fun b1 h1 => ?_
  simp -implicitDefEqProofs
  refine AAlloc.intro fun b2 h2 => ?_
  have n12 : b1 ≠ b2 := by intro e; subst e; simp [Heap.set] at h2
  have e2 : H b2 = none := (HLe.set_fresh h1).none h2
  simp -implicitDefEqProofs [n12, jPa, jPb, ty5, ty6]
  repeat (first | exact HWk.refl _ | refine HWk.new (by assumption) ?_)
theorem c_known37 (hG : Glob H) : AOk Tryz.prog 50 [] H (.sc (.bool true)) H := by
  have hT : GlobT H := hG.ctz
  have f1 := c_pFirst hG hT jobs_two 0 7200 9 (by omega)
  have f2 := c_pPeak hG hT jobs_two 0 7200 9 (by omega)
  have f3 := c_pGap hG hT jobs_two 0 7200 9 (by omega)
  have f4 := c_pClashes hG hT jobs_two 0 7200 9 (by omega)
  have f5 := c_pFirst hG hT jobs_two 5 5 9 (by omega)
  have f6 := c_pFirst hG hT jobs_two 0 7200 0 (by omega)
  rw [planI_two] at f1 f2 f3 f4
  rw [planI_five] at f5
  rw [planI_zero] at f6
  rw [show peakP itemsTwo = (3, 7200) by decide] at f2
  rw [show gapP itemsTwo 0 7200 = (0, 1800) by decide] at f3
  rw [show clashP itemsTwo = [⟨7200, 1, 0, 4000, 1⟩] from by kernel_rfl] at f4
  have g1 := c_equalP (H := H) [(1800, 2), (3600, 1), (3600, 2), (5400, 2), (7200, 1), (7200, 2)] [(1800, 2), (3600, 1), (3600, 2), (5400, 2), (7200, 1), (7200, 2)] .no .full (by decide)
  have g2 := c_equalP (H := H) [(7200, 1)] [(7200, 1)] .no .full (by decide)
  simp only [itemsTwo, List.map_cons, List.map_nil] at f1 f4 f5 f6 g1 g2
  refine ACalls.into Tryz.func50 rfl Tryz.ntmps50 Tryz.results50 (by simp) ?_
  simp -implicitDefEqProofs
  refine ACall.eq c_two ?_
  simp -implicitDefEqProofs
  refine ACall.eq f1 ?_
  simp -implicitDefEqProofs
  refine ACall.eq c_two ?_
  simp -implicitDefEqProofs
  refine ACall.eq f2 ?_
  simp -implicitDefEqProofs
  refine ACall.eq c_two ?_
  simp -implicitDefEqProofs
  refine ACall.eq f3 ?_
  simp -implicitDefEqProofs
  refine ACall.eq g1 ?_
  simp -implicitDefEqProofs
  refine ACall.eq c_two ?_
  simp -implicitDefEqProofs
  refine ACall.eq f4 ?_
  simp -implicitDefEqProofs
  refine ACall.eq g2 ?_
  simp -implicitDefEqProofs
  refine ACall.eq c_two ?_
  simp -implicitDefEqProofs
  refine ACall.eq f5 ?_
  simp -implicitDefEqProofs
  refine ACall.eq c_two ?_
  simp -implicitDefEqProofs
  refine ACall.eq f6 ?_
  simp -implicitDefEqProofs
end Go.Proofs.YtmoncokklkiikaaGreatDoor
namespace Go.Proofs.YtmoncokklkiikaaGreatDoor
open Rg Go
variable {H : Heap}
abbrev u64V (n : Nat) : AV := .sc (.int .u64 (n : Int))
def setU (D : List Nat) : List (AV × AV × Nat) := D.zipIdx.map fun p => (u64V p.1, .agg [], p.2)
theorem setU_snoc (D : List Nat) (a : Nat) : setU (D ++ [a]) = setU D ++ [(u64V a, .agg [], D.length)] := by
  unfold setU
  rw [List.zipIdx_append]
  simp
theorem aeqv_u64 (k x : Nat) : aeqv Tryz.prog 5 22 (u64V k) (u64V x) = some (decide (k = x)) := by
  have e : decide (k = x) = decide ((k : Int) = (x : Int)) := by
    by_cases h : k = x
    · subst h; simp
    · have : ¬ (k : Int) = (x : Int) := by omega
      simp [h, this]
  rw [e]
  unfold u64V aeqv
  simp [tkd_22]
  rfl
theorem leastU (p : Nat → Prop) : ∀ n, p n → ∃ m, m ≤ n ∧ p m ∧ ∀ k, k < m → ¬ p k := fun n => by
  induction n using Nat.strongRecOn with
  | _ n ih =>
    intro hn
    by_cases h : ∃ k, k < n ∧ p k
    · obtain ⟨k, hk, hp⟩ := h
      obtain ⟨m, h1, h2, h3⟩ := ih k hk hp
      exact ⟨m, by omega, h2, h3⟩
    · exact ⟨n, Nat.le_refl n, hn, fun k hk hp => h ⟨k, hk, hp⟩⟩
theorem setU_hit {D : List Nat} {a : Nat} (h : a ∈ D) : ∃ i, afind Tryz.prog 22 (u64V a) (setU D) 0 = some (some (i, .agg [])) := by
  obtain ⟨n, hn, hmin⟩ : ∃ n, D[n]? = some a ∧ ∀ j, j < n → D[j]? ≠ some a := by
    obtain ⟨n, hn⟩ := List.getElem?_of_mem h
    obtain ⟨m, h1, h2, h3⟩ := leastU (fun k => D[k]? = some a) n hn
    exact ⟨m, h2, h3⟩
  have hz : D.zipIdx[n]? = some (a, n) := by simp [List.getElem?_zipIdx, hn]
  refine ⟨n, ?_⟩
  have := afind_hit (P := Tryz.prog) (kt := 22) (k := u64V a) (fun p : Nat × Nat => u64V p.1) (fun _ => .agg []) (fun p => p.2) (fun p => decide (a = p.1)) D.zipIdx 0 n (a, n) (fun p _ => aeqv_u64 a p.1) hz (by simp) fun j p hj hp => by
    simp only [decide_eq_false_iff_not]
    intro e
    simp only [List.getElem?_zipIdx, Option.map_eq_some_iff] at hp
    obtain ⟨y, h1, h2⟩ := hp
    rw [← h2] at e
    exact hmin j hj (by rw [h1, e])
  rw [Nat.zero_add] at this
  exact this
theorem setU_miss {D : List Nat} {a : Nat} (h : a ∉ D) : afind Tryz.prog 22 (u64V a) (setU D) 0 = some none := by
  refine afind_miss (P := Tryz.prog) (kt := 22) (k := u64V a) (fun p : Nat × Nat => u64V p.1) (fun _ => .agg []) (fun p => p.2) (fun p => decide (a = p.1)) D.zipIdx 0 (fun p _ => aeqv_u64 a p.1) fun p hp => ?_
  simp only [decide_eq_false_iff_not]
  rintro rfl
  exact h (List.fst_mem_of_mem_zipIdx hp)
theorem mapTU : Tryz.prog.underlying 184 = some (.map 22 82) := by kernel_rfl
theorem uintT : Tryz.prog.underlying 22 = some (.int .u64) := by kernel_rfl
theorem u64_check (a : Nat) : acheck Tryz.prog 3 22 (u64V a) = true := by
  unfold acheck
  rw [uintT]
def bigJ (j : Jb) : Bool := decide (1000 < IntKind.i64.wrap ((j.name.length : Int) + (j.ex.length : Int))) || decide (20 < j.deps.length)
def heavyGo : List Nat → List Jb → Bool
  | _, [] => false
  | seen, j :: r => decide (j.id ∈ seen) || bigJ j || heavyGo (seen ++ [j.id]) r
def heavyP (js : List Jb) (most : Int) : Bool := heavyGo [] js || decide (12 < js.length) || decide (60 < most)
theorem heavy_no : ∀ (js : List Jb) (seen : List Nat), heavyGo seen js = false → (∀ j ∈ js, j.id ∉ seen ∧ j.deps.length ≤ 20) ∧ (js.map Jb.id).Nodup
  | [], _, _ => ⟨by simp, List.nodup_nil⟩
  | j :: r, seen, h => by
    unfold heavyGo bigJ at h
    simp only [Bool.or_eq_false_iff, decide_eq_false_iff_not] at h
    obtain ⟨⟨h1, _, h2⟩, h3⟩ := h
    obtain ⟨g1, g2⟩ := heavy_no r _ h3
    refine ⟨fun k hk => ?_, ?_⟩
    · rcases List.mem_cons.1 hk with e | hk
      · rw [e]; exact ⟨h1, by omega⟩
      · exact ⟨fun hs => (g1 k hk).1 (List.mem_append.2 (.inl hs)), (g1 k hk).2⟩
    · rw [List.map_cons, List.nodup_cons]
      refine ⟨fun hm => ?_, g2⟩
      obtain ⟨k, hk, e⟩ := List.mem_map.1 hm
      exact (g1 k hk).1 (List.mem_append.2 (.inr (by rw [e]; simp)))
theorem heavy_ok {js : List Jb} {most : Int} (hex : ∀ j ∈ js, j.ex.length ≤ 9223372036854775807) (h : heavyP js most = false) : JobsOk js ∧ js.length ≤ 12 ∧ most ≤ 60 := by
  unfold heavyP at h
  simp only [Bool.or_eq_false_iff, decide_eq_false_iff_not] at h
  obtain ⟨⟨h1, h2⟩, h3⟩ := h
  obtain ⟨g1, g2⟩ := heavy_no js [] h1
  exact ⟨⟨by omega, hex, fun j hj => by have := (g1 j hj).2; omega, g2⟩, by omega, by omega⟩
set_option maxHeartbeats 8000000 in
theorem c_heavy37 (js : List Jb) (most : Int) (hjs : js.length ≤ 9223372036854775807) : AOk Tryz.prog 51 [.sl (jobsAV js) .no, .sc (.int .i64 most)] H (.sc (.bool (heavyP js most))) H := by
  obtain ⟨R, hR⟩ : ∃ R, heavyGo [] js = R := ⟨_, rfl⟩
  unfold heavyP
  rw [hR]
  refine ACalls.into Tryz.func51 rfl Tryz.ntmps51 Tryz.results51 (by simp) ?_
  simp -implicitDefEqProofs
  refine ACall.intro (c_makeMap 184) fun v K hv => ?_
  obtain ⟨m, hm, rfl, rfl⟩ := hv
  simp -implicitDefEqProofs
  refine AGo.rounds (fun μ ρ K => ∃ (i : Nat), μ = js.length - i ∧ i ≤ js.length ∧ heavyGo ((js.take i).map Jb.id) (js.drop i) = R ∧ ρ 0 = .sl (jobsAV js) .no ∧ ρ 1 = .sc (.int .i64 most) ∧ ρ 5 = .sc (.map (some m)) ∧ ρ 11 = .sl (jobsAV js) .no ∧ ρ 12 = .sc (.int .i64 (js.length : Int)) ∧ ρ 13 = .sc (.int .i64 (i : Int)) ∧ HLe H K ∧
    K m = some (.map (setU ((js.take i).map Jb.id)) i)) ?_ (m := js.length) (HLe.refl _)
    ⟨0, by omega, by omega, hR, by simp, by simp, by simp, by simp, by simp, by simp, HLe.set_fresh hm, by simp [Heap.set, setU]⟩
  clear hR
  rintro μ ρ K ih ⟨i, rfl, hi, hgo, r0, r1, r5, r11, r12, r13, hle, hmK⟩
  rcases Nat.lt_or_ge i js.length with hlt | hge
  · obtain ⟨j, hj, _⟩ := getAt hlt
    have hwi : IntKind.i64.wrap ((i : Int) + 1) = ((i + 1 : Nat) : Int) := wadd (b := 1) rfl (by omega)
    have hDl : ((js.take i).map Jb.id).length = i := by rw [List.length_map, List.length_take]; omega
    have hDs : (js.take (i + 1)).map Jb.id = (js.take i).map Jb.id ++ [j.id] := by
      rw [List.take_succ_eq_append_getElem hlt, List.map_append, hj]; rfl
    rw [List.drop_eq_getElem_cons hlt, heavyGo, hj, ← hDs] at hgo
    have hsn := setU_snoc ((js.take i).map Jb.id) j.id
    rw [← hDs, hDl] at hsn
    obtain ⟨D, hD⟩ : ∃ D, (js.take i).map Jb.id = D := ⟨_, rfl⟩
    rw [hD] at hgo hmK hsn hDl
    simp -implicitDefEqProofs [r11, r12, r13, hlt, hj]
    refine AAlloc.intro fun b7 h7 => ?_
    have nm7 : m ≠ b7 := by rintro rfl; rw [hmK] at h7; cases h7
    simp -implicitDefEqProofs [r5]
    generalize hK1 : Heap.set K b7 _ = K1
    have l1 : HLe K K1 := by rw [← hK1]; exact HLe.set_fresh h7
    have k7 : K1 b7 = some (.cells (jbC j .no) 25) := by rw [← hK1]; simp [Heap.set]
    have hm1 := l1 _ _ hmK
    clear hK1 h7
    by_cases hin : j.id ∈ D
    · have hR : R = true := by rw [← hgo]; simp [hin]
      subst hR
      obtain ⟨q, hq⟩ := setU_hit hin
      refine ACall.eq (c_lookup2 mapTU uintT hm1 (u64_check j.id) hq) ?_
      simp -implicitDefEqProofs
      refine AAlloc.intro fun b8 h8 => ?_
      have n78 : b7 ≠ b8 := by rintro rfl; rw [k7] at h8; cases h8
      simp -implicitDefEqProofs [n78, k7]
      exact HWk.new (hle.none (l1.none h8)) (hle.trans l1).wk
    · have hc2 := c_lookup2_no (z := .agg #[]) mapTU uintT hm1 (u64_check j.id) (by kernel_rfl) (setU_miss hin)
      refine ACall.eq hc2 ?_
      simp -implicitDefEqProofs
      refine AAlloc.intro fun b8 h8 => ?_
      have n78 : b7 ≠ b8 := by rintro rfl; rw [k7] at h8; cases h8
      have nm8 : m ≠ b8 := by rintro rfl; rw [hm1] at h8; cases h8
      have hle := hle.trans l1
      obtain ⟨w, hw⟩ : ∃ w, IntKind.i64.wrap ((j.name.length : Int) + (j.ex.length : Int)) = w := ⟨_, rfl⟩
      unfold bigJ at hgo
      rw [hw] at hgo
      have i20 : (20 : Int) < (j.deps.length : Int) ↔ 20 < j.deps.length := by omega
      by_cases c1 : 1000 < w
      · have hR : R = true := by rw [← hgo]; simp [c1]
        subst hR
        simp -implicitDefEqProofs [n78, k7, hw, c1]
        exact HWk.new (hle.none h8) hle.wk
      · by_cases c2 : 20 < j.deps.length
        · have hR : R = true := by rw [← hgo]; simp [c2]
          subst hR
          simp -implicitDefEqProofs [n78, k7, hw, c1, i20, c2]
          exact HWk.new (hle.none h8) hle.wk
        · have hgo : heavyGo ((js.take (i + 1)).map Jb.id) (js.drop (i + 1)) = R := by
            rw [← hgo]
            simp [hin, c1, c2]
          simp -implicitDefEqProofs [n78, k7, hw, c1, i20, c2, r5]
          generalize hK2 : Heap.set K1 b8 _ = K2
          have l2 : HLe K1 K2 := by rw [← hK2]; exact HLe.set_fresh h8
          have hm2 := l2 _ _ hm1
          have hle := hle.trans l2
          clear hK2
          refine ACall.eq (c_insert mapTU uintT hm2 (u64_check j.id) (setU_miss hin) (.agg [])) ?_
          rw [← hsn]
          simp -implicitDefEqProofs [r13, hwi]
          exact AGo.again ih (m' := js.length - (i + 1)) (by omega) (HLe.refl _) ⟨i + 1, rfl, by omega, hgo, by simp [r0], by simp [r1], by simp [r5], by simp [r11], by simp [r12], by simp, HLe.set_new hle hm, by simp [Heap.set]⟩
  · have hn : ¬ i < js.length := by omega
    rw [List.drop_of_length_le hge] at hgo
    obtain rfl : false = R := hgo
    have i12 : (12 : Int) < (js.length : Int) ↔ 12 < js.length := by omega
    by_cases c1 : 12 < js.length
    · simp -implicitDefEqProofs [r0, r12, r13, hn, i12, c1]
      exact hle.wk
    · simp -implicitDefEqProofs [r0, r1, r12, r13, hn, i12, c1]
      exact hle.wk
end Go.Proofs.YtmoncokklkiikaaGreatDoor
namespace Go.Proofs.YtmoncokklkiikaaGreatDoor
open Rg Go
variable {H : Heap}
abbrev itsAV (L : List (Nat × Nat)) : List AV := L.map itAV
theorem szs_its (L : List (Nat × Nat)) : szs 2 (itsAV L) = true := szs_map (f := itAV) (fun _ => rfl) _
theorem c_growI (n : Nat) (hn : n ≤ 1000000) : ACalls Tryz.prog 135 [.sl [] .nil, .sc (.int .i64 (n : Int))] H (fun v K => ∃ t, v = .sl [] t ∧ Grows H [] 2 111 t K) := by
  refine ACalls.nilArg (pre := []) (post := [.sc (.int .i64 (n : Int))]) ?_
  refine ACalls.ownRes' fun R' q1 q2 q3 => ?_
  simp only [List.nil_append]
  refine ACalls.into Tryz.func135 rfl Tryz.ntmps135 Tryz.results135 (by simp) ?_
  have hT : Tryz.prog.underlying 105 = some (.slice 111) := by kernel_rfl
  have hI : Tryz.prog.underlying 3 = some (.int .i64) := by kernel_rfl
  have h0 : ¬ (n : Int) < 0 := by omega
  have hw0 : IntKind.i64.wrap 0 = 0 := by decide
  have hw : IntKind.i64.wrap (n : Int) = (n : Int) := wrap_i64 (by omega) (by omega)
  simp -implicitDefEqProofs [h0]
  refine ACall.eq (c_capBare hT) ?_
  by_cases hn0 : n = 0
  · subst hn0
    simp -implicitDefEqProofs [hw0]
    exact AFin.intro _ H (wk_refl _) (HWk.refl _) (q2 _ ⟨_, rfl, .zero⟩)
  · have hp : (0 : Int) < (n : Int) := by omega
    have hp' : 0 < n := by omega
    simp -implicitDefEqProofs [hw0, hw, hp, hp']
    refine ACall.eq (c_capBare hT) ?_
    simp -implicitDefEqProofs
    refine ACall.eq (c_sliceNil (sz := 2) hT (by kernel_rfl)) ?_
    simp -implicitDefEqProofs
    refine ACall.intro (c_appendMake el_105 hI hp' (by omega) (by simp [maxLen]; omega) (fun z hz q hq => ?_)) ?_
    · obtain rfl : z = .agg #[.int .i64 0, .int .u64 0] := by
        have : tzero Tryz.prog 111 = some (.agg #[.int .i64 0, .int .u64 0]) := by kernel_rfl
        rw [this] at hz
        cases hz
        rfl
      simp [Value.cells] at hq
      rcases hq with rfl | rfl <;> rfl
    · rintro v K ⟨g, cap, zs, hg, hc1, hc2, hz, rfl, rfl⟩
      simp -implicitDefEqProofs
      refine ACall.eq (c_sliceTo (sz := 2) hT (by kernel_rfl) (hi := 0) (Nat.zero_le _)) ?_
      simp -implicitDefEqProofs
      refine AFin.intro _ _ (wk_refl _) (HWk.refl _) (q3 g [] (zs.map .sc) cap 2 111 _ (by simp [Heap.set]) rfl (by simp [hz]) (by simp) hc2 ⟨_, rfl, .inr ⟨g, cap, hg, rfl, ?_⟩⟩)
      rw [Heap.set_set]
abbrev rowsIt (L : List (List (Nat × Nat) × Rg.Tok)) : List AV := L.map fun p => .sl (itsAV p.1) p.2
def joinI (L : List (List (Nat × Nat) × Rg.Tok)) : List (Nat × Nat) := L.flatMap fun p => p.1
theorem joinI_take {L : List (List (Nat × Nat) × Rg.Tok)} {i : Nat} {p : List (Nat × Nat) × Rg.Tok} (h : L[i]? = some p) : joinI (L.take (i + 1)) = joinI (L.take i) ++ p.1 := by
  rw [List.take_add_one, h]
  simp [joinI]
theorem joinI_len (L : List (List (Nat × Nat) × Rg.Tok)) (i : Nat) : (joinI (L.take i)).length ≤ (joinI L).length := by
  have : joinI L = joinI (L.take i) ++ joinI (L.drop i) := by
    unfold joinI
    rw [← List.flatMap_append, List.take_append_drop]
  rw [this, List.length_append]
  omega
set_option maxHeartbeats 4000000 in
theorem c_concatI (L : List (List (Nat × Nat) × Rg.Tok)) (t : Rg.Tok) (hL : L.length ≤ 1000000) (hs : (joinI L).length ≤ 1000000) :
    ACalls Tryz.prog 69 [.sl (rowsIt L) t] H (fun v K => ∃ t', v = .sl (itsAV (joinI L)) t' ∧ Grows H (itsAV (joinI L)) 2 111 t' K) := by
  generalize hR : (fun (v : AV) (K : Heap) => ∃ t', v = .sl (itsAV (joinI L)) t' ∧ Grows H (itsAV (joinI L)) 2 111 t' K) = R
  refine ACalls.into Tryz.func69 rfl Tryz.ntmps69 Tryz.results69 (by simp) ?_
  simp -implicitDefEqProofs
  refine AGo.joinLoop (fun ρ K => ρ 3 = .sc (.int .i64 ((joinI L).length : Int)) ∧ ρ 0 = .sl (rowsIt L) t ∧ K = H) (fun k' hk => ?_) ?_
  · refine AGo.rounds (fun m ρ K => ∃ i, m = L.length - i ∧ i ≤ L.length ∧ ρ 3 = .sc (.int .i64 ((joinI (L.take i)).length : Int)) ∧ ρ 11 = .sc (.int .i64 (i : Int)) ∧ ρ 0 = .sl (rowsIt L) t ∧ ρ 9 = .sl (rowsIt L) t ∧ ρ 10 = .sc (.int .i64 (L.length : Int)) ∧ K = H) ?_ (m := L.length) (HLe.refl _)
      ⟨0, rfl, by omega, by simp [joinI], by simp, by simp, by simp, by simp, rfl⟩
    rintro m ρ K ih ⟨i, rfl, hi, r3, r11, r0, r9, r10, rfl⟩
    rcases Nat.lt_or_ge i L.length with hlt | hge
    · obtain ⟨p, hej, hp⟩ := getAt hlt
      have hlt' : (i : Int) < (L.length : Int) := by omega
      have hj := joinI_take hp
      have hjl := joinI_len L (i + 1)
      rw [hj, List.length_append] at hjl
      have hw : IntKind.i64.wrap (((joinI (L.take i)).length : Int) + (p.1.length : Int)) = ((joinI (L.take i)).length : Int) + (p.1.length : Int) := wrap_i64 (by omega) (by omega)
      have hn : ¬ ((joinI (L.take i)).length : Int) + (p.1.length : Int) < 0 := by omega
      have hw1 : IntKind.i64.wrap ((i : Int) + 1) = (i : Int) + 1 := wrap_i64 (by omega) (by omega)
      simp -implicitDefEqProofs [r3, r11, r0, r9, r10, hlt, hlt', hej, hw, hn, hw1]
      exact AGo.again ih (m' := L.length - (i + 1)) (by omega) (HLe.refl _) ⟨i + 1, rfl, by omega, by simp [hj], by simp, by simp [r0], by simp [r9], by simp [r10], rfl⟩
    · have hn : ¬ (i : Int) < (L.length : Int) := by omega
      have hn' : ¬ i < L.length := by omega
      simp -implicitDefEqProofs [r3, r11, r0, r9, r10, hn, hn']
      exact hk _ _ ⟨by simp [r3, List.take_of_length_le hge], by simp [r0], rfl⟩
  · rintro ρ K ⟨r3, r0, rfl⟩
    simp -implicitDefEqProofs [r3, r0]
    refine ACall.intro (c_growI _ hs) ?_
    rintro v K1 ⟨t1, rfl, hg⟩
    simp -implicitDefEqProofs [r3, r0]
    refine AGo.rounds (fun m ρ K2 => ∃ i t2, m = L.length - i ∧ i ≤ L.length ∧ ρ 6 = .sl (itsAV (joinI (L.take i))) t2 ∧ Grows K (itsAV (joinI (L.take i))) 2 111 t2 K2 ∧ ρ 27 = .sc (.int .i64 (i : Int)) ∧ ρ 25 = .sl (rowsIt L) t ∧ ρ 26 = .sc (.int .i64 (L.length : Int))) ?_ (m := L.length) (HLe.refl _)
      ⟨0, t1, rfl, by omega, by simp [joinI], by simpa [joinI] using hg, by simp, by simp, by simp⟩
    rintro m ρ K2 ih ⟨i, t2, rfl, hi, r6, hg2, r27, r25, r26⟩
    rcases Nat.lt_or_ge i L.length with hlt | hge
    · obtain ⟨p, hej, hp⟩ := getAt hlt
      have hlt' : (i : Int) < (L.length : Int) := by omega
      have hj := joinI_take hp
      have hjl := joinI_len L (i + 1)
      rw [hj, List.length_append] at hjl
      have hw1 : IntKind.i64.wrap ((i : Int) + 1) = (i : Int) + 1 := wrap_i64 (by omega) (by omega)
      simp -implicitDefEqProofs [r6, r27, r25, r26, hlt, hlt', hej]
      refine AApp.grows0 el_105 hg2 (HLe.refl _) (szs_its _) (szs_its _) (by simp; omega) (by simp [maxLen]; omega) fun t' K' Hn hg' hl' => ?_
      simp -implicitDefEqProofs [r6, r27, r25, r26, hw1]
      rw [← List.map_append, ← hj] at hg'
      exact AGo.again ih (m' := L.length - (i + 1)) (by omega) hl' ⟨i + 1, t', rfl, by omega, by simp [hj], hg', by simp, by simp [r25], by simp [r26]⟩
    · have hn : ¬ (i : Int) < (L.length : Int) := by omega
      have hn' : ¬ i < L.length := by omega
      simp -implicitDefEqProofs [r6, r27, r25, r26, hn, hn']
      rw [List.take_of_length_le hge] at hg2 r6
      subst hR
      exact AFin.intro _ _ (wk_refl _) (HWk.refl _) ⟨t2, by rw [List.take_of_length_le hge], hg2⟩
theorem plan_two_parts (js : List Jb) {a m b : Nat} (h1 : a ≤ m) (h2 : m ≤ b) : planL js a b = planL js a m ++ planL js m b := by
  have hA := planL_merged js a m
  have hB := planL_merged js m b
  have h := merged_cut (Rs := js.map fun j => (restJ a m j, restJ m b j)) (m := m) (A := planL js a m) (B := planL js m b) (fun R hR t ht => by
    obtain ⟨j, _, rfl⟩ := List.mem_map.1 hR
    simp only [restJ] at ht
    split at ht
    · have := fires_bound ht; omega
    · cases ht) (fun R hR t ht => by
    obtain ⟨j, _, rfl⟩ := List.mem_map.1 hR
    simp only [restJ] at ht
    split at ht
    · have := (fires_mem.1 ht).2.1; omega
    · cases ht) (by rw [List.map_map]; exact hA) (by rw [List.map_map]; exact hB)
  rw [List.map_map] at h
  refine (planL_merged js a b).one ?_
  have e : js.map (restJ a b) = js.map ((fun R : List Nat × List Nat => R.1 ++ R.2) ∘ fun j => (restJ a m j, restJ m b j)) := by
    refine List.map_congr_left fun j _ => ?_
    simp only [Function.comp_apply, restJ]
    split
    · exact fires_two h1 h2
    · rfl
  rw [e]
  exact h
theorem plan_empty (js : List Jb) (a : Nat) : planL js a a = [] := (planL_merged js a a).done fun R hR => by
  obtain ⟨j, _, rfl⟩ := List.mem_map.1 hR
  unfold restJ
  split
  · exact fires_none fun k g1 g2 => by omega
  · rfl
theorem planZ_eq (js : List Jb) {a b : Nat} (h : a ≤ b) (hb : b < 13569465600) : planZ js (a : Int) (b : Int) = planL js a b := by
  unfold planZ
  by_cases hl : a < b
  · rw [if_pos ⟨momP_iff.2 ⟨by omega, by omega⟩, momP_iff.2 ⟨by omega, by omega⟩, by omega⟩]
    rfl
  · obtain rfl : a = b := by omega
    rw [if_neg (fun h => by omega), plan_empty]
theorem plan_le_sorted (js : List Jb) (a b : Nat) : (planL js a b).Pairwise fun x y => x.1 ≤ y.1 := (planL_merged js a b).srt.imp fun h => by
  rcases h with h | h
  · omega
  · omega
theorem planI_all {js : List Jb} {a b : Nat} (h : a ≤ b) (hb : b < 13569465600) (hl : (planI js a b 61).length ≤ 60) : planI js a b 61 = (planL js a b).map (itemOf js) ∧ (planL js a b).length ≤ 60 := by
  unfold planI at *
  rw [planZ_eq js h hb] at *
  rw [List.length_map, List.length_take, show Int.toNat 61 = 61 from rfl] at hl
  rw [show Int.toNat 61 = 61 from rfl, List.take_of_length_le (by omega)]
  exact ⟨rfl, by omega⟩
theorem planI_parts {js : List Jb} {a m b : Nat} (h1 : a ≤ m) (h2 : m ≤ b) (hb : b < 13569465600) (hl : (planI js a b 61).length ≤ 60) : planI js a m 61 ++ planI js m b 61 = planI js a b 61 := by
  obtain ⟨e, hl'⟩ := planI_all (by omega) hb hl
  rw [e]
  rw [plan_two_parts js h1 h2] at hl' ⊢
  rw [List.length_append] at hl'
  unfold planI
  rw [planZ_eq js h1 (by omega), planZ_eq js h2 hb, show Int.toNat 61 = 61 from rfl, List.take_of_length_le (by omega), List.take_of_length_le (by omega), List.map_append]
end Go.Proofs.YtmoncokklkiikaaGreatDoor
namespace Go.Proofs.YtmoncokklkiikaaGreatDoor
open Rg Go
variable {H : Heap}
theorem c_cutSame {b : Nat} {a : Jb} {t : Rg.Tok} {p : Nat × Nat} (hb : H b = some (.cells [.sc (.int .i64 (p.1 : Int)), .sc (.int .u64 (p.2 : Int))] 111)) : AOk Tryz.prog 71 [jbAV a t, ptr b] H (.sc (.bool (decide (a.id = p.2)))) H := by
  refine ACalls.into Tryz.func71 rfl Tryz.ntmps71 Tryz.results71 (by simp) ?_
  simp -implicitDefEqProofs
  refine AAlloc.intro fun b2 h2 => ?_
  have n : b ≠ b2 := by rintro rfl; rw [hb] at h2; cases h2
  have e : (a.id : Int) = (p.2 : Int) ↔ a.id = p.2 := by omega
  simp -implicitDefEqProofs [n, hb, e]
  repeat (first | exact HWk.refl _ | refine HWk.new (by assumption) ?_)
set_option maxHeartbeats 4000000 in
theorem c_indexCut {b : Nat} {js : List Jb} {i : Nat} {j : Jb} {p : Nat × Nat} (hj : js[i]? = some j) (hp : j.id = p.2) (hid : (js.map Jb.id).Nodup) (hb : H b = some (.cells [.sc (.int .i64 (p.1 : Int)), .sc (.int .u64 (p.2 : Int))] 111)) (hjs : js.length ≤ 1000000) :
    AOk Tryz.prog 70 [.sl (jobsAV js) .no, .sc (.func (.func 71) #[] #[.pointer (some ⟨b, 0, none⟩)])] H (.sc (.int .i64 (i : Int))) H := by
  obtain ⟨hi, hij⟩ := List.getElem?_eq_some_iff.1 hj
  refine ACalls.into Tryz.func70 rfl Tryz.ntmps70 Tryz.results70 (by simp) ?_
  simp -implicitDefEqProofs
  refine AGo.rounds (fun μ ρ K => ∃ k : Nat, μ = i - k ∧ k ≤ i ∧ ρ 0 = .sl (jobsAV js) .no ∧ ρ 1 = .sc (.func (.func 71) #[] #[.pointer (some ⟨b, 0, none⟩)]) ∧ ρ 7 = .sc (.int .i64 (js.length : Int)) ∧ ρ 8 = .sc (.int .i64 (k : Int)) ∧ K = H) ?_ (m := i) (HLe.refl _)
    ⟨0, by omega, by omega, by simp, by simp, by simp, by simp, rfl⟩
  rintro μ ρ K ih ⟨k, rfl, hk, r0, r1, r7, r8, rfl⟩
  have hkl : k < js.length := by omega
  obtain ⟨a, ha, ha'⟩ := getAt hkl
  have hw : IntKind.i64.wrap ((k : Int) + 1) = ((k + 1 : Nat) : Int) := wadd (b := 1) rfl (by omega)
  simp -implicitDefEqProofs [r0, r1, r7, r8, hkl, ha]
  refine ACall.eq (c_cutSame hb) ?_
  by_cases hki : k = i
  · subst hki
    rw [hj] at ha'
    obtain rfl := Option.some.inj ha'
    simp -implicitDefEqProofs [hp]
  · have hs : ¬ a.id = p.2 := by
      intro h
      have := List.pairwise_iff_getElem.1 hid k i (by simpa using hkl) (by simpa using hi) (by omega)
      rw [List.getElem_map, List.getElem_map, ha, hij, h, hp] at this
      exact absurd rfl this
    simp -implicitDefEqProofs [hs, r8, hw]
    exact AGo.again ih (m' := i - (k + 1)) (by omega) (HLe.refl _) ⟨k + 1, rfl, by omega, by simp [r0], by simp [r1], by simp [r7], by simp, rfl⟩
set_option maxHeartbeats 16000000 in
theorem planCut_ok (hG : Glob H) {js : List Jb} (hjs : js.length ≤ 9223372036854775807) (hex : ∀ j ∈ js, j.ex.length ≤ 9223372036854775807) (fr mid tt : Int) :
    AOk Tryz.prog 13 [.sl (jobsAV js) .no, .sc (.int .i64 fr), .sc (.int .i64 mid), .sc (.int .i64 tt)] H (.sc (.bool true)) H := by
  refine ACalls.into Tryz.func13 rfl Tryz.ntmps13 Tryz.results13 (by simp) ?_
  simp -implicitDefEqProofs
  refine ACall.eq (c_known37 hG) ?_
  simp -implicitDefEqProofs
  refine ACall.eq (c_heavy37 js 1 hjs) ?_
  cases hh : heavyP js 1 with
  | true => simp -implicitDefEqProofs
  | false =>
  obtain ⟨hj, hl12, _⟩ := heavy_ok hex hh
  by_cases c1 : fr < 0
  · simp -implicitDefEqProofs [c1]
  by_cases c2 : mid < fr
  · simp -implicitDefEqProofs [c1, c2]
  by_cases c3 : tt < mid
  · simp -implicitDefEqProofs [c1, c2, c3]
  by_cases c4 : 13569465600 ≤ tt
  · simp -implicitDefEqProofs [c1, c2, c3, c4]
  obtain ⟨a, rfl⟩ := Int.eq_ofNat_of_zero_le (show 0 ≤ fr by omega)
  obtain ⟨m, rfl⟩ := Int.eq_ofNat_of_zero_le (show 0 ≤ mid by omega)
  obtain ⟨b, rfl⟩ := Int.eq_ofNat_of_zero_le (show 0 ≤ tt by omega)
  have ham : a ≤ m := by omega
  have hmb : m ≤ b := by omega
  have hb : b < 13569465600 := by omega
  have q1 := c_pFirst hG hG.ctz hj a b 61 (by omega)
  have q2 := c_pFirst hG hG.ctz hj a m 61 (by omega)
  have q3 := c_pFirst hG hG.ctz hj m b 61 (by omega)
  have hn1 := planI_len js a b 61
  have hn2 := planI_len js a m 61
  have hn3 := planI_len js m b 61
  change _ ≤ 61 at hn1 hn2 hn3
  simp -implicitDefEqProofs [c1, c2, c3, c4]
  refine ACall.eq q1 ?_
  have hlenI : (60 : Int) < ((planI js a b 61).length : Int) ↔ 60 < (planI js a b 61).length := by omega
  by_cases c5 : 60 < (planI js a b 61).length
  · simp -implicitDefEqProofs [hlenI, c5]
  have hparts := planI_parts ham hmb hb (Nat.not_lt.1 c5)
  obtain ⟨hall, hE60⟩ := planI_all (by omega) hb (Nat.not_lt.1 c5)
  have q4 := c_concatI (H := H) [((planI js a m 61).map PI.it, .no), ((planI js m b 61).map PI.it, .no)] .full (by simp) (by simp [joinI]; omega)
  have hjoin : joinI [((planI js a m 61).map PI.it, (.no : Rg.Tok)), ((planI js m b 61).map PI.it, .no)] = (planI js a b 61).map PI.it := by
    rw [← hparts, List.map_append]
    simp [joinI]
  rw [hjoin] at q4
  simp only [rowsIt, List.map_cons, List.map_nil, itsAV, ← pit_it] at q4
  have q5 := fun K t => c_equalP (H := K) ((planI js a b 61).map PI.it) ((planI js a b 61).map PI.it) t .no (by rw [List.length_map]; omega)
  rw [← pit_it] at q5
  have hItem : (planI js a b 61).map pitAV = (planL js a b).map fun z => itAV (z.1, (jobOf js z.2).id) := by
    rw [hall, List.map_map]; rfl
  simp -implicitDefEqProofs [hlenI, c5]
  refine ACall.eq q2 ?_
  simp -implicitDefEqProofs
  refine ACall.eq q3 ?_
  simp -implicitDefEqProofs
  refine ACall.intro q4 fun v K hv => ?_
  obtain ⟨t', rfl, hg⟩ := hv
  simp -implicitDefEqProofs
  refine ACall.eq (q5 _ _) ?_
  have hle := hg.le
  clear q1 q2 q3 q4 q5 hg hn1 hn2 hn3 hparts hjoin hlenI c5
  rw [hItem]
  clear hItem hall
  have hsrt := plan_le_sorted js a b
  have hmem := fun z (h : z ∈ planL js a b) => plan_mem h
  have hbnd := fun z (h : z ∈ planL js a b) => plan_le h
  generalize planL js a b = E at *
  simp -implicitDefEqProofs
  refine AGo.rounds (fun μ ρ K2 => ∃ (k last : Nat), μ = E.length - k ∧ k ≤ E.length ∧ (∀ z ∈ E.drop k, last ≤ z.1) ∧ ρ 0 = .sl (jobsAV js) .no ∧ ρ 1 = .sc (.int .i64 (a : Int)) ∧ ρ 3 = .sc (.int .i64 (b : Int)) ∧ ρ 12 = .sc (.int .i64 (last : Int)) ∧ ρ 65 = .sl (E.map fun z => itAV (z.1, (jobOf js z.2).id)) .no ∧ ρ 66 = .sc (.int .i64 (E.length : Int)) ∧ ρ 67 = .sc (.int .i64 (k : Int)) ∧ HLe H K2) ?_ (m := E.length) (HLe.refl _)
    ⟨0, a, by omega, by omega, fun z hz => by have := (hbnd z (by simpa using hz)).2; omega, by simp, by simp, by simp, by simp, by simp, by simp, by simp, hle⟩
  clear hle
  rintro μ ρ K2 ih ⟨k, last, rfl, hk, hlast, r0, r1, r3, r12, r65, r66, r67, hle⟩
  rcases Nat.lt_or_ge k E.length with hlt | hge
  · obtain ⟨z, hz, hz'⟩ := getAt hlt
    have hzE := List.mem_of_getElem? hz'
    obtain ⟨m1, m2, m3⟩ := hmem z hzE
    obtain ⟨m4, m5⟩ := hbnd z hzE
    have hl1 := hlast z (by rw [List.drop_eq_getElem_cons hlt, hz]; simp)
    have hnext : ∀ w ∈ E.drop (k + 1), z.1 ≤ w.1 := fun w hw => by
      obtain ⟨i, hi, e⟩ := List.mem_iff_getElem.1 hw
      rw [List.getElem_drop] at e
      have := List.pairwise_iff_getElem.1 hsrt k (k + 1 + i) hlt (by rw [List.length_drop] at hi; omega) (by omega)
      rw [hz, e] at this
      exact this
    have hjob : js[z.2]? = some (jobOf js z.2) := by
      unfold jobOf
      rw [List.getD_eq_getElem?_getD, List.getElem?_eq_getElem m1]; rfl
    have hjob' : js[z.2] = jobOf js z.2 := by rw [List.getElem?_eq_getElem m1] at hjob; exact Option.some.inj hjob
    have hpau : (jobOf js z.2).pau = false := by
      unfold liveJ at m2
      simp only [Bool.and_eq_true, Bool.not_eq_true'] at m2
      exact m2.1
    have hmay : mayJ (jobOf js z.2) = 0 := by unfold liveJ at m2; simp at m2; exact m2.2
    have hfire := (fires_mem.1 m3).2.2
    have hlx : IsLast (cronK (jobOf js z.2).ex).1 z.1 (some z.1) := ⟨Nat.le_refl _, hfire, fun k h1 h2 => by omega⟩
    have hcp := fun K => c_ref7ParseW (H := K) (jobOf js z.2).ex (hex _ (List.mem_of_getElem? hjob))
    have hxo := cronK_lt (jobOf js z.2).ex
    have hxm := cronK_may (live_ex hmay)
    have hix := fun (K : Heap) (p : Nat × Nat) bb (h : K bb = some (.cells [.sc (.int .i64 (p.1 : Int)), .sc (.int .u64 (p.2 : Int))] 111)) (hp : (jobOf js z.2).id = p.2) => c_indexCut hjob hp hj.id h hj.len
    obtain ⟨t, u⟩ := z
    simp only at *
    generalize hjo : jobOf js u = j at *
    generalize (cronK j.ex).1 = x at *
    have hwk : IntKind.i64.wrap ((k : Int) + 1) = ((k + 1 : Nat) : Int) := wadd (b := 1) rfl (by omega)
    have n1 : ¬ (t : Int) < (last : Int) := by omega
    have n2 : ¬ (t : Int) ≤ (a : Int) := by omega
    have n3 : ¬ (b : Int) < (t : Int) := by omega
    have n4 : ¬ (u : Int) < 0 := by omega
    have n1' : ¬ t < last := by omega
    have n2' : ¬ t ≤ a := by omega
    have n3' : ¬ b < t := by omega
    have hlast2 := fun K => c_last hxo hxm (t := t) (by omega) hlx (H := K)
    have htm : t < 13569465600 := by omega
    simp -implicitDefEqProofs [r65, r66, r67, hlt, hz, hjo]
    refine AAlloc.intro fun b14 h14 => ?_
    simp -implicitDefEqProofs [r0]
    generalize hK3 : Heap.set K2 b14 _ = K3
    have l3 : HLe K2 K3 := by rw [← hK3]; exact HLe.set_fresh h14
    have k14 : K3 b14 = some (.cells [.sc (.int .i64 (t : Int)), .sc (.int .u64 (j.id : Int))] 111) := by rw [← hK3]; simp [Heap.set]
    clear hK3 h14
    refine ACall.eq (hix _ (t, j.id) _ k14 rfl) ?_
    simp -implicitDefEqProofs [k14, r0, r1, r3, r12, n1, n2, n3, n4, n1', n2', n3', m1, hjob', hpau]
    refine ACall.eq (hcp _) ?_
    simp -implicitDefEqProofs
    refine AAlloc.intro fun b16 h16 => ?_
    have n16 : b14 ≠ b16 := by rintro rfl; rw [k14] at h16; cases h16
    simp -implicitDefEqProofs [n16, k14]
    generalize hK4 : Heap.set K3 b16 _ = K4
    have l4 : HLe K3 K4 := by rw [← hK4]; exact HLe.set_fresh h16
    have k16 : K4 b16 = some (.cells (exC x) 42) := by rw [← hK4]; simp [Heap.set]
    have k14 := l4 _ _ k14
    clear hK4 h16
    first | refine ACall.eq (hlast2 _) ?_ | (simp -implicitDefEqProofs [k14, k16]; refine ACall.eq (hlast2 _) ?_)
    simp -implicitDefEqProofs [outAV, errN, optN, k14, r67, hwk]
    exact AGo.again ih (m' := E.length - (k + 1)) (by omega) (HLe.refl _) ⟨k + 1, t, rfl, by omega, hnext, by simp [r0], by simp [r1], by simp [r3], by simp, by simp [r65], by simp [r66], by simp, (hle.trans l3).trans l4⟩
  · have hn : ¬ k < E.length := by omega
    simp -implicitDefEqProofs [r66, r67, hn]
    exact hle.wk
end Go.Proofs.YtmoncokklkiikaaGreatDoor
