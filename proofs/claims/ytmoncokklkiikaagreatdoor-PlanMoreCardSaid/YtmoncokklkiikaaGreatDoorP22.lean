/- A plan's runs. Plans' answers: items, peaks, gaps. make of a row of elements of one cell. What clashes: the program's, and the document's. What clashes, as the document has it. A plan, as the document has it: put in one by one. The chapter's rows on firings. -/
import Derived.Test.YtmoncokklkiikaaGreatDoorP21
import Derived.Test.YtmoncokklkiikaaGreatDoorP10
import Derived.Laws.MakeOwn
import Derived.Test.YtmoncokklkiikaaGreatDoorP20
set_option linter.unusedSimpArgs false
set_option linter.unusedVariables false
set_option linter.unnecessarySimpa false
namespace Go.Proofs.YtmoncokklkiikaaGreatDoor
open Rg Go
variable {H : Heap}
abbrev jobsAV (js : List Jb) : List AV := js.map fun j => jbAV j .no
theorem c_runsSame {b : Nat} {a j : Jb} {t u : Rg.Tok} (hb : H b = some (.cells (jbC j u) 25)) (hl : a.deps.length ≤ 1000000) : AOk Tryz.prog 172 [jbAV a t, ptr b] H (.sc (.bool (sameJ a j))) H := by
  refine ACalls.into Tryz.func172 rfl Tryz.ntmps172 Tryz.results172 (by simp) ?_
  simp -implicitDefEqProofs
  refine AAlloc.intro fun b2 h2 => ?_
  have n : b ≠ b2 := by rintro rfl; rw [hb] at h2; cases h2
  simp -implicitDefEqProofs [n, hb]
  refine ACall.eq (c_jobSame a j t u hl) ?_
  simp -implicitDefEqProofs
  repeat (first | exact HWk.refl _ | refine HWk.new (by assumption) ?_)
set_option maxHeartbeats 4000000 in
theorem c_indexJob {b : Nat} {js : List Jb} {i : Nat} {j : Jb} {u : Rg.Tok} (hj : js[i]? = some j) (hid : (js.map Jb.id).Nodup) (hb : H b = some (.cells (jbC j u) 25)) (hjs : js.length ≤ 1000000) (hl : ∀ j ∈ js, j.deps.length ≤ 1000000) :
    AOk Tryz.prog 70 [.sl (jobsAV js) .no, .sc (.func (.func 172) #[] #[.pointer (some ⟨b, 0, none⟩)])] H (.sc (.int .i64 (i : Int))) H := by
  obtain ⟨hi, hij⟩ := List.getElem?_eq_some_iff.1 hj
  refine ACalls.into Tryz.func70 rfl Tryz.ntmps70 Tryz.results70 (by simp) ?_
  simp -implicitDefEqProofs
  refine AGo.rounds (fun μ ρ K => ∃ k : Nat, μ = i - k ∧ k ≤ i ∧ ρ 0 = .sl (jobsAV js) .no ∧ ρ 1 = .sc (.func (.func 172) #[] #[.pointer (some ⟨b, 0, none⟩)]) ∧ ρ 7 = .sc (.int .i64 (js.length : Int)) ∧ ρ 8 = .sc (.int .i64 (k : Int)) ∧ K = H) ?_ (m := i) (HLe.refl _)
    ⟨0, by omega, by omega, by simp, by simp, by simp, by simp, rfl⟩
  rintro μ ρ K ih ⟨k, rfl, hk, r0, r1, r7, r8, rfl⟩
  have hkl : k < js.length := by omega
  obtain ⟨a, ha, ha'⟩ := getAt hkl
  have hal := hl a (List.mem_of_getElem? ha')
  have hw : IntKind.i64.wrap ((k : Int) + 1) = ((k + 1 : Nat) : Int) := wadd (b := 1) rfl (by omega)
  simp -implicitDefEqProofs [r0, r1, r7, r8, hkl, ha]
  refine ACall.eq (c_runsSame hb hal) ?_
  by_cases hki : k = i
  · subst hki
    rw [hj] at ha'
    obtain rfl := Option.some.inj ha'
    have hs : sameJ j j = true := sameJ_iff.2 rfl
    simp -implicitDefEqProofs [hs]
  · have hs : sameJ a j = false := by
      refine Bool.eq_false_iff.2 fun h => hki ?_
      rw [sameJ_iff] at h
      subst h
      have := List.pairwise_iff_getElem.1 hid k i (by simpa using hkl) (by simpa using hi) (by omega)
      rw [List.getElem_map, List.getElem_map, ha, hij] at this
      exact absurd rfl this
    simp -implicitDefEqProofs [hs, r8, hw]
    exact AGo.again ih (m' := i - (k + 1)) (by omega) (HLe.refl _) ⟨k + 1, rfl, by omega, by simp [r0], by simp [r1], by simp [r7], by simp, rfl⟩
def EachR (js : List Jb) (fr tt : Int) (H : Heap) (r : AV) (K : Heap) : Prop :=
  ∃ bj bf bt, r = .sc (.func (.func 173) #[] #[.pointer (some ⟨bf, 0, none⟩), .pointer (some ⟨bt, 0, none⟩), .pointer (some ⟨bj, 0, none⟩)]) ∧ HLe H K ∧
    K bj = some (.cells [.sl (jobsAV js) .no] 95) ∧ K bf = some (.cells [.sc (.int .i64 fr)] 2) ∧ K bt = some (.cells [.sc (.int .i64 tt)] 2) ∧ H bt = none
theorem c_each (js : List Jb) (fr tt : Int) : ACalls Tryz.prog 130 [.sl (jobsAV js) .no, .sc (.int .i64 fr), .sc (.int .i64 tt)] H (EachR js fr tt H) := by
  refine ACalls.into Tryz.func130 rfl Tryz.ntmps130 Tryz.results130 (by simp) ?_
  simp -implicitDefEqProofs
  refine AAlloc.intro fun b3 h3 => ?_
  simp -implicitDefEqProofs
  refine AAlloc.intro fun b4 h4 => ?_
  simp -implicitDefEqProofs
  refine AAlloc.intro fun b5 h5 => ?_
  have n34 : b3 ≠ b4 := by intro e; subst e; simp [Heap.set] at h4
  have n35 : b3 ≠ b5 := by intro e; subst e; simp [Heap.set, n34] at h5
  have n45 : b4 ≠ b5 := by intro e; subst e; simp [Heap.set] at h5
  simp -implicitDefEqProofs
  refine ⟨_, _, wk_refl _, HWk.refl _, b3, b4, b5, rfl, ((HLe.set_fresh h3).trans (HLe.set_fresh h4)).trans (HLe.set_fresh h5), ?_, ?_, ?_⟩
  · simp [Heap.set, n34, n35]
  · simp [Heap.set, n45]
  · exact ⟨by simp [Heap.set], ((HLe.set_fresh h3).trans (HLe.set_fresh h4)).none h5⟩
abbrev runC (y : PI) : List AV := [.sc (.int .i64 (y.at_ : Int)), .sc (.int .u64 (y.job : Int)), .sc (.int .i64 ((y.at_ + y.tmo : Nat) : Int)), .sc (.int .i64 y.lim), .sc (.int .i64 (y.place : Int))]
abbrev runAV (y : PI) : AV := .agg (runC y)
structure JRun (K1 : Heap) (L : List AV) (b9 bt l D : Nat) (tt : Int) (r : ARec) (m : Nat) (j : Nat) (K : Heap) : Prop where
  lt : j < m
  row : RowZ 5 189 186 K1 b9 (L.take j).length (fun t => [.sl (L.take j) t]) K
  kl : K l = some (.lrec r)
  kD : K D = some .dfr
  kt : K bt = some (.cells [.sc (.int .i64 tt)] 2)
structure XRun (K1 : Heap) (L : List AV) (b9 l D : Nat) (p : Option Code) (K : Heap) : Prop where
  row : RowZ 5 189 186 K1 b9 L.length (fun t => [.sl L t]) K
  kl : ∃ r, K l = some (.lrec r) ∧ r.st ≠ .busy ∧ r.pe = p
  kD : K D = some .dfr
set_option maxHeartbeats 8000000 in
theorem c_runs (hG : Glob H) (hT : GlobT H) {js : List Jb} (fr tt most : Int) (hjs : js.length ≤ 1000000) (hex : ∀ j ∈ js, j.ex.length ≤ 9223372036854775807) (hl : ∀ j ∈ js, j.deps.length ≤ 1000000) (hid : (js.map Jb.id).Nodup) (hmost : most ≤ 1000000) :
    AOk Tryz.prog 127 [.sl (jobsAV js) .no, .sc (.int .i64 fr), .sc (.int .i64 tt), .sc (.int .i64 most)] H (.sl (((planZ js fr tt).take most.toNat).map fun z => runAV (itemOf js z)) .no) H := by
  obtain ⟨E, hE⟩ : ∃ E, planZ js fr tt = E := ⟨_, rfl⟩
  obtain ⟨L, hLL⟩ : ∃ L, ((E.take most.toNat).map fun z => runAV (itemOf js z)) = L := ⟨_, rfl⟩
  rw [hE, hLL]
  refine ACalls.into Tryz.func127 rfl Tryz.ntmps127 Tryz.results127 (by simp) ?_
  simp -implicitDefEqProofs
  refine AAlloc.intro fun b4 h4 => ?_
  simp -implicitDefEqProofs
  refine AAlloc.intro fun b7 h7 => ?_
  have n47 : b4 ≠ b7 := by intro e; subst e; simp [Heap.set] at h7
  have e7 : H b7 = none := (HLe.set_fresh h4).none h7
  simp -implicitDefEqProofs
  generalize hK : Heap.set _ b7 _ = K1
  have k4 : K1 b4 = some (.cells [.sl (jobsAV js) .no] 95) := by rw [← hK]; simp [Heap.set, n47]
  have k7 : K1 b7 = some (.cells [.sc (.int .i64 most)] 3) := by rw [← hK]; simp [Heap.set]
  have kG : Glob K1 := by rw [← hK]; exact (hG.le (HLe.set_fresh h4)).le (HLe.set_fresh h7)
  have kT : GlobT K1 := by rw [← hK]; exact (hT.new h4).new h7
  have kW : HLe H K1 := by rw [← hK]; exact (HLe.set_fresh h4).trans (HLe.set_fresh h7)
  clear hK h4 h7
  refine AAlloc.intro fun b9 h9 => ?_
  have n49 : b4 ≠ b9 := by rintro rfl; rw [k4] at h9; cases h9
  have n79 : b7 ≠ b9 := by rintro rfl; rw [k7] at h9; cases h9
  have e9 : H b9 = none := kW.none h9
  by_cases hm : most < 1
  · have e : L = [] := by rw [← hLL, show most.toNat = 0 by omega]; rfl
    subst e
    simp -implicitDefEqProofs [n49, n79, k7, hm]
    exact HWk.new e9 kW.wk
  · have hmn : (most.toNat : Int) = most := by omega
    simp -implicitDefEqProofs [n49, n79, k7, k4, hm]
    generalize hK : Heap.set K1 b9 _ = K2
    have hR : RowZ 5 189 186 K1 b9 0 (fun t => [.sl [] t]) K2 := by
      rw [← hK]
      exact ⟨HLe.set_fresh h9, h9, .nil, by simp [Heap.set], .inl ⟨rfl, rfl⟩⟩
    clear hK
    refine ACall.intro (c_each js fr tt) fun v K3 hv => ?_
    obtain ⟨bj, bf, bt, rfl, hle, q1, q2, q3, _⟩ := hv
    simp -implicitDefEqProofs
    have hT3 : GlobT K3 := (kT.wk (hR.le.trans hle))
    have hG3 : Glob K3 := kG.le (hR.le.trans hle)
    have hR3 := hR.up hle
    clear hR hle
    refine atRhoT fun ρ1 hρ1 => ?_
    have r4 : ρ1 4 = ptr b4 := by rw [hρ1]; simp
    have r7 : ρ1 7 = ptr b7 := by rw [hρ1]; simp
    have r9 : ρ1 9 = ptr b9 := by rw [hρ1]; simp
    have r18 : ρ1 18 = .sc (.func (.func 173) #[] #[.pointer (some ⟨bf, 0, none⟩), .pointer (some ⟨bt, 0, none⟩), .pointer (some ⟨bj, 0, none⟩)]) := by rw [hρ1]; simp
    clear hρ1
    refine AGo.rangeF (gf := 173) (lb := #[.pointer (some ⟨bf, 0, none⟩), .pointer (some ⟨bt, 0, none⟩), .pointer (some ⟨bj, 0, none⟩)])
      (fun D l _ K => XRun K1 L b9 l D none K ∨ XRun K1 L b9 l D (some (.exit 0)) K) rfl r18 (by simp) ?_ ?_ ?_
    · intro D l hD hl'
      generalize hr : ARec.mk _ _ _ _ _ _ _ _ = r0
      have hst : r0.st = .ready := by rw [← hr]
      have hpe : r0.pe = none := by rw [← hr]
      have hps : r0.ps.size = 2 := by rw [← hr]; rfl
      have hDl : D ≠ l := by intro e; subst e; simp [Heap.set] at hl'
      have hl3 : K3 l = none := by simpa [Heap.set, hDl.symm] using hl'
      have ne1 : ∀ {c : Nat} {o : AObj}, K3 c = some o → c ≠ D := by rintro c o hc rfl; rw [hc] at hD; cases hD
      have ne2 : ∀ {c : Nat} {o : AObj}, K3 c = some o → c ≠ l := by rintro c o hc rfl; rw [hc] at hl3; cases hl3
      have eD : K1 D = none := hR3.le.none hD
      have el : K1 l = none := hR3.le.none hl3
      obtain ⟨t9, q9, _⟩ := hR3.row
      have b9D := ne1 q9
      have b9l := ne2 q9
      have btD := ne1 q3
      have btl := ne2 q3
      have bfD := ne1 q2
      have bfl := ne2 q2
      have bjD := ne1 q1
      have bjl := ne2 q1
      have btb9 : bt ≠ b9 := by rintro rfl; rw [q3] at q9; simp at q9
      generalize hKs : (K3.set D .dfr).set l (.lrec r0) = Ks
      have l3 : HLe K3 Ks := by rw [← hKs]; exact (HLe.set_fresh hD).trans (HLe.set_fresh hl')
      have sl : Ks l = some (.lrec r0) := by rw [← hKs]; simp [Heap.set]
      have sD : Ks D = some .dfr := by rw [← hKs]; simp [Heap.set, hDl]
      clear hKs
      refine (c_eachIt (l := l) (bj := bj) (bf := bf) (bt := bt) (js := js) (fr := fr) (tt := tt) (hG3.le l3) (hT3.wk l3) hjs hex
        (JRun K1 L b9 bt l D tt r0 most.toNat) (XRun K1 L b9 l D (some (.exit 0))) ?_ ?_ ?_ ?_ ?_ (l3 _ _ q1) (l3 _ _ q2)).mono ?_
      · rintro j K ⟨_, h2, _, _, h5⟩
        exact ⟨kT.wk h2.le, h5⟩
      · rintro j K K' ⟨h1, h2, h3, h4, h5⟩ hle
        exact ⟨h1, h2.up hle, hle _ _ h3, hle _ _ h4, hle _ _ h5⟩
      · rintro j K p o o' ⟨h1, h2, h3, h4, h5⟩ hp hK hno
        have np : ∀ {c : Nat} {o : AObj}, Ks c = some o → c ≠ p := by rintro c o hc rfl; rw [hc] at hp; cases hp
        have p1 := np sl
        have p2 := np sD
        have p3 := np (l3 _ _ q3)
        have p4 := np (l3 _ _ q9)
        exact ⟨h1, h2.setO (hR3.le.none (l3.none hp)) p4.symm hK hno, by simp [Heap.set, p1, h3], by simp [Heap.set, p2, h4], by simp [Heap.set, p3, h5]⟩
      · rintro j K z hz ⟨h1, h2, h3, h4, h5⟩
        rw [hE] at hz
        have hLj : L[j]? = some (runAV (itemOf js z)) := by
          rw [← hLL, List.getElem?_map, List.getElem?_take, if_pos h1, hz]
          rfl
        have hLlt := (List.getElem?_eq_some_iff.1 hLj).1
        have hLt : L.take (j + 1) = L.take j ++ [runAV (itemOf js z)] := by
          rw [List.take_succ_eq_append_getElem hLlt]
          rw [List.getElem?_eq_getElem hLlt] at hLj
          rw [Option.some.inj hLj]
        have hLl : (L.take j).length = j := by rw [List.length_take]; omega
        have hzp : z.2 < js.length ∧ liveJ (jobOf js z.2) = true ∧ z.1 < 13569465600 := by
          have hzE := List.mem_of_getElem? hz
          rw [← hE] at hzE
          unfold planZ at hzE
          split at hzE
          · rename_i hc
            have h := plan_mem hzE
            have h' := plan_le hzE
            have := momP_iff.1 hc.2.1
            exact ⟨h.1, h.2.1, by omega⟩
          · cases hzE
        have hjob : js[z.2]? = some (jobOf js z.2) := by
          unfold jobOf
          rw [List.getD_eq_getElem?_getD, List.getElem?_eq_getElem hzp.1]; rfl
        have htim := live_tim hzp.2.1
        obtain ⟨tmo, htmo⟩ : ∃ q : Nat, (jobOf js z.2).tim = (q : Int) := ⟨(jobOf js z.2).tim.toNat, by omega⟩
        obtain ⟨un, hun⟩ : ∃ q, z.1 + tmo = q := ⟨_, rfl⟩
        have hadd : IntKind.i64.wrap ((z.1 : Int) + (tmo : Int)) = (un : Int) := wadd hun (by omega)
        have hix := fun (K : Heap) b (h : K b = some (.cells (jbC (jobOf js z.2) .no) 25)) => c_indexJob hjob hid h hjs hl
        have hitem : runAV (itemOf js z) = .agg [.sc (.int .i64 (z.1 : Int)), .sc (.int .u64 ((jobOf js z.2).id : Int)), .sc (.int .i64 (un : Int)), .sc (.int .i64 (jobOf js z.2).lim), .sc (.int .i64 (z.2 : Int))] := by
          unfold itemOf
          simp only [htmo, Int.toNat_natCast, runAV, runC, hun]
        have hszL : szs 5 (L.take j) = true := by
          refine szs_take ?_ j
          rw [← hLL]
          exact szs_map (f := fun z => runAV (itemOf js z)) (fun _ => rfl) _
        rw [hitem] at hLt hLj
        generalize L.take j = xs at *
        refine ACalls.round h3 (by simp [hps]) ?_
        obtain ⟨r9', hr9⟩ : ∃ r9, r0 = r9 := ⟨_, rfl⟩
        clear hps hst hpe
        subst hr
        simp -implicitDefEqProofs [aputs]
        refine AAlloc.intro fun b10 f10 => ?_
        simp -implicitDefEqProofs
        refine AAlloc.intro fun b11 f11 => ?_
        simp -implicitDefEqProofs
        generalize hKa : Heap.set _ b11 _ = Ka
        have la : HLe K Ka := by rw [← hKa]; exact (HLe.set_fresh f10).trans (HLe.set_fresh f11)
        have n1011 : b10 ≠ b11 := by rintro rfl; simp [Heap.set] at f11
        have k10 : Ka b10 = some (.cells [.sc (.int .i64 (z.1 : Int)), .sc (.int .u64 ((jobOf js z.2).id : Int))] 111) := by rw [← hKa]; simp [Heap.set, n1011]
        have k11 : Ka b11 = some (.cells (jbC (jobOf js z.2) .no) 25) := by rw [← hKa]; simp [Heap.set]
        clear hKa
        have g3 := la _ _ h3
        refine AGo.bgn rfl g3 rfl ?_
        rw [hr9] at h3 g3 sl ⊢
        generalize hrb : ARec.mk _ _ _ _ _ _ _ _ = rb
        generalize hKb : Heap.set Ka l _ = Kb
        have b10l : b10 ≠ l := by rintro rfl; rw [k10] at g3; simp at g3
        have b11l : b11 ≠ l := by rintro rfl; rw [k11] at g3; simp at g3
        have kb10 : Kb b10 = some (.cells [.sc (.int .i64 (z.1 : Int)), .sc (.int .u64 ((jobOf js z.2).id : Int))] 111) := by rw [← hKb]; simp only [Heap.set, if_neg b10l]; exact k10
        have kb11 : Kb b11 = some (.cells (jbC (jobOf js z.2) .no) 25) := by rw [← hKb]; simp only [Heap.set, if_neg b11l]; exact k11
        have rowb : RowZ 5 189 186 K1 b9 xs.length (fun t => [.sl xs t]) Kb := by rw [← hKb]; exact (h2.up la).setO el b9l.symm g3 (by simp)
        have kbl : Kb l = some (.lrec rb) := by rw [← hKb]; simp [Heap.set]
        have kbD : Kb D = some .dfr := by rw [← hKb]; simp only [Heap.set, if_neg hDl]; exact la _ _ h4
        have kbt : Kb bt = some (.cells [.sc (.int .i64 tt)] 2) := by rw [← hKb]; simp only [Heap.set, if_neg btl]; exact la _ _ h5
        have kb4 := rowb.le _ _ k4
        have kb7 := rowb.le _ _ k7
        obtain ⟨tk, kb9, _⟩ := rowb.row
        have hkeep : KeepN Ks K Kb := by
          intro p o hp hK _
          have : p ≠ l := by rintro rfl; rw [sl] at hp; cases hp
          rw [← hKb]
          simp only [Heap.set, if_neg this]
          exact la _ _ hK
        clear hKb k10 k11 g3
        simp -implicitDefEqProofs [r4, r7, r9, kb4]
        refine ACall.eq (hix _ _ kb11) ?_
        simp -implicitDefEqProofs [r9, kb9, kb10, kb11, htmo, hadd]
        obtain ⟨tk', G0, G', g1, g2, g3, g4, g5, g6⟩ := rowb.grows'
        obtain rfl : tk = tk' := by rw [kb9] at g1; simpa using g1
        refine AApp.grows el_186 g2 g3 (by simp) hszL (by simp [szs]) (by simp; omega) (by simp [maxLen]; omega) fun t' K4 Hn hg' hl' => ?_
        have hn9 := hl' _ _ (hg'.le _ _ g5)
        have kp : ∀ {p : Nat} {o : AObj}, Kb p = some o → (∀ n cap sz e, o ≠ .open n cap sz e) → Hn p = some o := fun {p o} hp ho => hl' _ _ (hg'.le _ _ (g6 p o hp ho))
        have hn7 := kp kb7 (by simp)
        have hnl := kp kbl (by simp)
        have hnD := kp kbD (by simp)
        have hnt := kp kbt (by simp)
        have hsd := RowZ.stored (T := 186) (F := fun t' => [.sl (xs ++ [.agg [.sc (.int .i64 (z.1 : Int)), .sc (.int .u64 ((jobOf js z.2).id : Int)), .sc (.int .i64 (un : Int)), .sc (.int .i64 (jobOf js z.2).lim), .sc (.int .i64 (z.2 : Int))]]) t']) g4 h9 g5 hg' hl'
        have hnk : KeepN Ks K Hn := fun p o hp hK ho => kp (hkeep p o hp hK ho) ho
        have hkn : ∀ o, KeepN Ks K ((Hn.set b9 (.cells [.sl (xs ++ [.agg [.sc (.int .i64 (z.1 : Int)), .sc (.int .u64 ((jobOf js z.2).id : Int)), .sc (.int .i64 (un : Int)), .sc (.int .i64 (jobOf js z.2).lim), .sc (.int .i64 (z.2 : Int))]]) t'] 186)).set l o) := by
          intro o p o2 hp hK ho
          have p1 : p ≠ l := by rintro rfl; rw [sl] at hp; cases hp
          have p2 : p ≠ b9 := by rintro rfl; rw [l3 _ _ q9] at hp; cases hp
          simp only [Heap.set, if_neg p1, if_neg p2]
          exact hnk p o2 hp hK ho
        have hso : ∀ r', RowZ 5 189 186 K1 b9 (xs ++ [(.agg [.sc (.int .i64 (z.1 : Int)), .sc (.int .u64 ((jobOf js z.2).id : Int)), .sc (.int .i64 (un : Int)), .sc (.int .i64 (jobOf js z.2).lim), .sc (.int .i64 (z.2 : Int))] : AV)]).length (fun t' => [.sl (xs ++ [.agg [.sc (.int .i64 (z.1 : Int)), .sc (.int .u64 ((jobOf js z.2).id : Int)), .sc (.int .i64 (un : Int)), .sc (.int .i64 (jobOf js z.2).lim), .sc (.int .i64 (z.2 : Int))]]) t'])
            ((Hn.set b9 (.cells [.sl (xs ++ [.agg [.sc (.int .i64 (z.1 : Int)), .sc (.int .u64 ((jobOf js z.2).id : Int)), .sc (.int .i64 (un : Int)), .sc (.int .i64 (jobOf js z.2).lim), .sc (.int .i64 (z.2 : Int))]]) t'] 186)).set l (.lrec r')) := fun r' => hsd.setO el b9l.symm (by simp [Heap.set, b9l.symm]; exact hnl) (by simp)
        by_cases hjm : j + 1 = most.toNat
        · have hjm' : (xs.length : Int) + 1 = most := by omega
          simp -implicitDefEqProofs [r7, r9, hn7, hn9, n79, hjm']
          refine ⟨rb, by simp [Heap.set, b9l.symm, hnl], .inr ?_⟩
          have hLe : L = L.take (j + 1) := by rw [List.take_of_length_le]; rw [← hLL]; simp; omega
          rw [hLe, hLt]
          exact ⟨rfl, hso _, ⟨_, by simp [Heap.set]; rfl, by simp, by simp⟩, by simp [Heap.set, hDl, b9D.symm, b9l, hnD]⟩
        · have hjm' : ¬ (xs.length : Int) + 1 = most := by omega
          simp -implicitDefEqProofs [r7, r9, hn7, hn9, n79, hjm']
          refine ⟨rb, by simp [Heap.set, b9l.symm, hnl], .inl ⟨rfl, ?_, hkn _⟩⟩
          refine ⟨Nat.lt_of_le_of_ne h1 hjm, ?_, by simp [Heap.set]; rw [← hrb, ← hr9], by simp [Heap.set, hDl, b9D.symm, hnD], by simp [Heap.set, btl, btb9, hnt]⟩
          rw [hLt]
          exact hso _
      · refine ⟨by omega, ?_, sl, sD, l3 _ _ q3⟩
        rw [List.take_zero]
        exact hR3.up l3
      · rintro v K (⟨h1, h2, h3, h4, h5⟩ | h)
        · rw [hE] at h1 h2
          have hLl : L.length = min most.toNat E.length := by rw [← hLL]; simp
          rw [List.take_of_length_le (by omega)] at h2
          exact .inl ⟨h2, ⟨_, h3, by rw [hst]; simp, hpe⟩, h4⟩
        · exact .inr h
    · rintro D l v K hD hl (⟨_, ⟨r, h1, h2, _⟩, _⟩ | ⟨_, ⟨r, h1, h2, _⟩, _⟩)
      · exact ⟨r, h1, h2⟩
      · exact ⟨r, h1, h2⟩
    · rintro D l v K r hD hl hres hK
      have hDl : D ≠ l := by intro e; subst e; simp [Heap.set] at hl
      have hl3 : K3 l = none := by simpa [Heap.set, hDl.symm] using hl
      have eD := kW.none (hR3.le.none hD)
      have el := kW.none (hR3.le.none hl3)
      obtain ⟨p, hp, row, ⟨r', gl, _, hpe⟩, gD⟩ : ∃ p, (p = none ∨ p = some (.exit 0)) ∧ XRun K1 L b9 l D p K := by
        rcases hres with h | h
        · exact ⟨_, .inl rfl, h⟩
        · exact ⟨_, .inr rfl, h⟩
      rw [gl] at hK
      cases hK
      obtain ⟨tk, k9, _⟩ := row.row
      have b9l : b9 ≠ l := by rintro rfl; rw [k9] at gl; simp at gl
      have b9D : b9 ≠ D := by rintro rfl; rw [k9] at gD; simp at gD
      have gW := kW.wk.trans row.le.wk
      rcases hp with rfl | rfl
      · simp -implicitDefEqProofs [hpe, del_apply, r9, b9l, b9D, k9, mark_ret, mark_nrm, hDl, gD]
        exact HWk.delNew eD (HWk.delNew el gW)
      · simp -implicitDefEqProofs [hpe, del_apply, r9, b9l, b9D, k9, mark_ret, mark_nrm, hDl, gD]
        exact HWk.delNew eD (HWk.delNew el gW)
end Go.Proofs.YtmoncokklkiikaaGreatDoor
namespace Go.Proofs.YtmoncokklkiikaaGreatDoor
open Rg Go
variable {H : Heap}
def planI (js : List Jb) (fr tt most : Int) : List PI := ((planZ js fr tt).take most.toNat).map (itemOf js)
theorem planZ_mem {js : List Jb} {fr tt : Int} {z : PIt} (h : z ∈ planZ js fr tt) : momP fr = true ∧ momP tt = true ∧ z ∈ planL js fr.toNat tt.toNat := by
  unfold planZ at h
  split at h
  · rename_i hc; exact ⟨hc.1, hc.2.1, h⟩
  · cases h
theorem planI_ok {js : List Jb} {fr tt most : Int} : ∀ y ∈ planI js fr tt most, y.ok := fun y hy => by
  obtain ⟨z, hz, rfl⟩ := List.mem_map.1 hy
  obtain ⟨_, h2, h3⟩ := planZ_mem (List.mem_of_mem_take hz)
  have := momP_iff.1 h2
  exact planItem_ok (by omega) h3
theorem planI_len (js : List Jb) (fr tt most : Int) : (planI js fr tt most).length ≤ most.toNat := by
  unfold planI
  rw [List.length_map, List.length_take]
  omega
structure JobsOk (js : List Jb) : Prop where
  len : js.length ≤ 1000000
  ex : ∀ j ∈ js, j.ex.length ≤ 9223372036854775807
  dep : ∀ j ∈ js, j.deps.length ≤ 1000000
  id : (js.map Jb.id).Nodup
theorem c_runsI (hG : Glob H) (hT : GlobT H) {js : List Jb} (hj : JobsOk js) (fr tt most : Int) (hmost : most ≤ 1000000) :
    AOk Tryz.prog 127 [.sl (jobsAV js) .no, .sc (.int .i64 fr), .sc (.int .i64 tt), .sc (.int .i64 most)] H (.sl ((planI js fr tt most).map runAV) .no) H := by
  have := c_runs hG hT fr tt most hj.len hj.ex hj.dep hj.id hmost
  unfold planI
  rw [List.map_map]
  exact this
abbrev pitAV (y : PI) : AV := .agg [.sc (.int .i64 (y.at_ : Int)), .sc (.int .u64 (y.job : Int))]
set_option maxHeartbeats 4000000 in
theorem c_pFirst (hG : Glob H) (hT : GlobT H) {js : List Jb} (hj : JobsOk js) (fr tt most : Int) (hmost : most ≤ 1000000) :
    AOk Tryz.prog 61 [.sl (jobsAV js) .no, .sc (.int .i64 fr), .sc (.int .i64 tt), .sc (.int .i64 most)] H (.sl ((planI js fr tt most).map pitAV) .no) H := by
  have hr := c_runsI hG hT hj fr tt most hmost
  have hLm := planI_len js fr tt most
  generalize planI js fr tt most = L at *
  refine ACalls.into Tryz.func61 rfl Tryz.ntmps61 Tryz.results61 (by simp) ?_
  simp -implicitDefEqProofs
  refine ACall.eq hr ?_
  simp -implicitDefEqProofs
  refine AGo.rounds (fun μ ρ K => ∃ (i : Nat) (tk : Rg.Tok) (K3 : Heap), μ = L.length - i ∧ i ≤ L.length ∧ ρ 9 = .sl ((L.take i).map pitAV) tk ∧ ρ 16 = .sl (L.map runAV) .no ∧ ρ 17 = .sc (.int .i64 (L.length : Int)) ∧ ρ 18 = .sc (.int .i64 (i : Int)) ∧ Grows H ((L.take i).map pitAV) 2 111 tk K3 ∧ HLe K3 K) ?_ (m := L.length) (HLe.refl _)
    ⟨0, .nil, H, by omega, by omega, by simp, by simp, by simp, by simp, .zero, HLe.refl _⟩
  rintro μ ρ K ih ⟨i, tk, K3, rfl, hi, r9, r16, r17, r18, hg, hle⟩
  rcases Nat.lt_or_ge i L.length with hlt | hge
  · obtain ⟨x, hx, _⟩ := getAt hlt
    have hwi : IntKind.i64.wrap ((i : Int) + 1) = ((i + 1 : Nat) : Int) := wadd (b := 1) rfl (by omega)
    have hd : (L.take (i + 1)).map pitAV = (L.take i).map pitAV ++ [pitAV x] := by
      rw [List.take_succ_eq_append_getElem hlt, List.map_append, hx]; rfl
    have hxl : ((L.take i).map pitAV).length = i := by rw [List.length_map, List.length_take]; omega
    have hsz : szs 2 ((L.take i).map pitAV) = true := szs_map (f := pitAV) (fun _ => rfl) _
    generalize (L.take i).map pitAV = xs at *
    simp -implicitDefEqProofs [r16, r17, r18, hlt, hx]
    refine AAlloc.intro fun b5 h5 => ?_
    simp -implicitDefEqProofs [r9]
    refine AApp.grows el_105 hg (hle.trans (HLe.set_fresh h5)) (by simp) hsz (by simp [szs]) (by simp; omega) (by simp [maxLen]; omega) fun t' K4 Hn hg' hl' => ?_
    simp -implicitDefEqProofs [r18, hwi]
    refine AGo.again ih (m' := L.length - (i + 1)) (by omega) (HLe.refl _) ⟨i + 1, t', K4, rfl, by omega, by simp [hd], by simp [r16], by simp [r17], by simp, ?_, hl'⟩
    rw [hd]
    exact hg'
  · have hn : ¬ i < L.length := by omega
    rw [List.take_of_length_le hge] at r9 hg
    simp -implicitDefEqProofs [r9, r17, r18, hn]
    exact (hg.le.trans hle).wk
set_option maxHeartbeats 8000000 in
theorem c_pPeak (hG : Glob H) (hT : GlobT H) {js : List Jb} (hj : JobsOk js) (fr tt most : Int) (hmost : most ≤ 1000000) :
    AOk Tryz.prog 53 [.sl (jobsAV js) .no, .sc (.int .i64 fr), .sc (.int .i64 tt), .sc (.int .i64 most)] H (.tup [.sc (.int .i64 ((peakP (planI js fr tt most)).1 : Int)), .sc (.int .i64 ((peakP (planI js fr tt most)).2 : Int))]) H := by
  have hr := c_runsI hG hT hj fr tt most hmost
  have hLm := planI_len js fr tt most
  have hok := planI_ok (js := js) (fr := fr) (tt := tt) (most := most)
  generalize planI js fr tt most = L at *
  obtain ⟨R, hR⟩ : ∃ R, peakP L = R := ⟨_, rfl⟩
  rw [hR]
  refine ACalls.into Tryz.func53 rfl Tryz.ntmps53 Tryz.results53 (by simp) ?_
  simp -implicitDefEqProofs
  refine ACall.eq hr ?_
  simp -implicitDefEqProofs
  refine AGo.rounds (fun μ ρ K => ∃ (i : Nat) (s : Nat × Nat), μ = L.length - i ∧ i ≤ L.length ∧ peakGo L (L.drop i) s = R ∧ ρ 10 = .sl (L.map runAV) .no ∧ ρ 21 = .sl (L.map runAV) .no ∧ ρ 22 = .sc (.int .i64 (L.length : Int)) ∧ ρ 8 = .sc (.int .i64 (s.1 : Int)) ∧ ρ 9 = .sc (.int .i64 (s.2 : Int)) ∧ ρ 23 = .sc (.int .i64 (i : Int)) ∧ HLe H K) ?_ (m := L.length) (HLe.refl _)
    ⟨0, (0, 0), by omega, by omega, hR, by simp, by simp, by simp, by simp, by simp, by simp, HLe.refl _⟩
  rintro μ ρ K ih ⟨i, s, rfl, hi, hgo, r10, r21, r22, r8, r9, r23, hle⟩
  rcases Nat.lt_or_ge i L.length with hlt | hge
  · obtain ⟨x, hx, hx'⟩ := getAt hlt
    have hxok : x.ok := hok x (List.mem_of_getElem? hx')
    rw [List.drop_eq_getElem_cons hlt, peakGo, hx] at hgo
    have hwi : IntKind.i64.wrap ((i : Int) + 1) = ((i + 1 : Nat) : Int) := wadd (b := 1) rfl (by omega)
    simp -implicitDefEqProofs [r21, r22, r23, hlt, hx]
    refine AAlloc.intro fun b12 h12 => ?_
    simp -implicitDefEqProofs
    generalize hK1 : Heap.set K b12 _ = K1
    have l1 : HLe H K1 := by rw [← hK1]; exact hle.trans (HLe.set_fresh h12)
    have k12 : K1 b12 = some (.cells (runC x) 189) := by rw [← hK1]; simp [Heap.set]
    clear hK1 h12 hle
    simp -implicitDefEqProofs [r10]
    refine AGo.joinLoop (fun ρ' K' => ρ' 10 = .sl (L.map runAV) .no ∧ ρ' 21 = .sl (L.map runAV) .no ∧ ρ' 22 = .sc (.int .i64 (L.length : Int)) ∧ ρ' 8 = .sc (.int .i64 (s.1 : Int)) ∧ ρ' 9 = .sc (.int .i64 (s.2 : Int)) ∧ ρ' 11 = .sc (.int .i64 (i : Int)) ∧ ρ' 23 = .sc (.int .i64 (i : Int)) ∧ ρ' 13 = .sc (.int .i64 (cntP L x.at_ : Int)) ∧ HLe H K') (fun k' hk' => ?_) ?_
    · refine AGo.rounds (fun μ ρ' K' => ∃ k : Nat, μ = L.length - k ∧ k ≤ L.length ∧ ρ' 10 = .sl (L.map runAV) .no ∧ ρ' 21 = .sl (L.map runAV) .no ∧ ρ' 22 = .sc (.int .i64 (L.length : Int)) ∧ ρ' 8 = .sc (.int .i64 (s.1 : Int)) ∧ ρ' 9 = .sc (.int .i64 (s.2 : Int)) ∧ ρ' 11 = .sc (.int .i64 (i : Int)) ∧ ρ' 12 = ptr b12 ∧ ρ' 23 = .sc (.int .i64 (i : Int)) ∧ ρ' 28 = .sl (L.map runAV) .no ∧ ρ' 29 = .sc (.int .i64 (L.length : Int)) ∧ ρ' 13 = .sc (.int .i64 (cntP (L.take k) x.at_ : Int)) ∧ ρ' 30 = .sc (.int .i64 (k : Int)) ∧ HLe K1 K') ?_ (m := L.length) (HLe.refl _)
        ⟨0, by omega, by omega, by simp [r10], by simp [r21], by simp [r22], by simp [r8], by simp [r9], by simp, by simp, by simp [r23], by simp, by simp, by simp [cntP], by simp, HLe.refl _⟩
      clear ih hgo r10 r21 r22 r8 r9 r23
      rintro μ ρ' K' ih2 ⟨k, rfl, hk, r10, r21, r22, r8, r9, r11, r12, r23, r28, r29, r13, r30, hle⟩
      rcases Nat.lt_or_ge k L.length with hkl | hkl
      · obtain ⟨y, hy, hy'⟩ := getAt hkl
        have hyok : y.ok := hok y (List.mem_of_getElem? hy')
        unfold PI.ok at hxok hyok
        have hct := cntP_take hkl x.at_
        rw [hy] at hct
        have hcl := cntP_le (L.take k) x.at_
        rw [List.length_take] at hcl
        generalize cntP (L.take k) x.at_ = c at *
        have hwk : IntKind.i64.wrap ((k : Int) + 1) = ((k + 1 : Nat) : Int) := wadd (b := 1) rfl (by omega)
        have hwc : IntKind.i64.wrap ((c : Int) + 1) = ((c + 1 : Nat) : Int) := wadd (b := 1) rfl (by omega)
        have i1 : (y.at_ : Int) ≤ (x.at_ : Int) ↔ y.at_ ≤ x.at_ := by omega
        have i2 : (x.at_ : Int) < (y.at_ : Int) + (y.tmo : Int) ↔ x.at_ < y.at_ + y.tmo := by omega
        have q12 := hle _ _ k12
        simp -implicitDefEqProofs [r28, r29, r30, hkl, hy]
        refine AAlloc.intro fun b15 h15 => ?_
        have n12 : b12 ≠ b15 := by rintro rfl; rw [q12] at h15; cases h15
        have hl2 : ∀ o, HLe K1 (K'.set b15 o) := fun o => hle.trans (HLe.set_fresh h15)
        by_cases h1 : y.at_ ≤ x.at_
        · by_cases h2 : x.at_ < y.at_ + y.tmo
          · have hr : runsAt x.at_ y = true := by unfold runsAt; simp [h1, h2]
            rw [hr, if_pos rfl] at hct
            simp -implicitDefEqProofs [r12, q12, n12, i1, i2, h1, h2, r13, r30, hwk, hwc]
            exact AGo.again ih2 (m' := L.length - (k + 1)) (by omega) (HLe.refl _) ⟨k + 1, rfl, by omega, by simp [r10], by simp [r21], by simp [r22], by simp [r8], by simp [r9], by simp [r11], by simp [r12], by simp [r23], by simp [r28], by simp [r29], by simp [hct], by simp, hl2 _⟩
          · have hr : runsAt x.at_ y = false := by unfold runsAt; simp [h2]
            rw [hr, if_neg (by simp)] at hct
            simp -implicitDefEqProofs [r12, q12, n12, i1, i2, h1, h2, r13, r30, hwk, hwc]
            exact AGo.again ih2 (m' := L.length - (k + 1)) (by omega) (HLe.refl _) ⟨k + 1, rfl, by omega, by simp [r10], by simp [r21], by simp [r22], by simp [r8], by simp [r9], by simp [r11], by simp [r12], by simp [r23], by simp [r28], by simp [r29], by simp [r13, hct], by simp, hl2 _⟩
        · have hr : runsAt x.at_ y = false := by unfold runsAt; simp [h1]
          rw [hr, if_neg (by simp)] at hct
          simp -implicitDefEqProofs [r12, q12, n12, i1, h1, r13, r30, hwk, hwc]
          exact AGo.again ih2 (m' := L.length - (k + 1)) (by omega) (HLe.refl _) ⟨k + 1, rfl, by omega, by simp [r10], by simp [r21], by simp [r22], by simp [r8], by simp [r9], by simp [r11], by simp [r12], by simp [r23], by simp [r28], by simp [r29], by simp [r13, hct], by simp, hl2 _⟩
      · have hk2 : ¬ k < L.length := by omega
        rw [List.take_of_length_le hkl] at r13
        simp -implicitDefEqProofs [r29, r30, hk2]
        exact hk' _ _ ⟨by simp [r10], by simp [r21], by simp [r22], by simp [r8], by simp [r9], by simp [r11], by simp [r23], by simp [r13], l1.trans hle⟩
    · clear r10 r21 r22 r8 r9 r23
      rintro ρ' K' ⟨r10, r21, r22, r8, r9, r11, r23, r13, hle⟩
      generalize cntP L x.at_ = c at *
      have i1 : (s.1 : Int) < (c : Int) ↔ s.1 < c := by omega
      by_cases h1 : s.1 < c
      · rw [if_pos h1] at hgo
        simp -implicitDefEqProofs [r13, r8, i1, h1]
        refine go_draw 9 f_mixed (by decide +kernel) ?_
        simp -implicitDefEqProofs [r10, r11, r13, r23, hlt, hx, hwi]
        exact AGo.again ih (m' := L.length - (i + 1)) (by omega) (HLe.refl _) ⟨i + 1, (c, x.at_), rfl, by omega, hgo, by simp [r10], by simp [r21], by simp [r22], by simp, by simp, by simp, hle⟩
      · rw [if_neg h1] at hgo
        simp -implicitDefEqProofs [r13, r8, i1, h1, r23, hwi]
        exact AGo.again ih (m' := L.length - (i + 1)) (by omega) (HLe.refl _) ⟨i + 1, s, rfl, by omega, hgo, by simp [r10], by simp [r21], by simp [r22], by simp [r8], by simp [r9], by simp, hle⟩
  · have hn : ¬ i < L.length := by omega
    rw [List.drop_of_length_le hge] at hgo
    unfold peakGo at hgo
    subst hgo
    simp -implicitDefEqProofs [r22, r23, r8, r9, hn]
    exact hle.wk
def gapPre (fr : Nat) (L : List PI) (i : Nat) : List AV := (fr :: (L.take i).map PI.at_).map tAV
set_option maxHeartbeats 8000000 in
theorem c_pGap (hG : Glob H) (hT : GlobT H) {js : List Jb} (hj : JobsOk js) (fr tt most : Int) (hmost : most ≤ 1000000) :
    AOk Tryz.prog 55 [.sl (jobsAV js) .no, .sc (.int .i64 fr), .sc (.int .i64 tt), .sc (.int .i64 most)] H (.tup [.sc (.int .i64 ((gapP (planI js fr tt most) fr tt).1 : Int)), .sc (.int .i64 ((gapP (planI js fr tt most) fr tt).2 : Int))]) H := by
  have hr := fun K (h1 : Glob K) (h2 : GlobT K) => c_runsI h1 h2 hj fr tt most hmost
  have hLm := planI_len js fr tt most
  have hok := planI_ok (js := js) (fr := fr) (tt := tt) (most := most)
  generalize planI js fr tt most = L at *
  have hm1 := fun K : Heap => c_planMoment (H := K) fr
  have hm2 := fun K : Heap => c_planMoment (H := K) tt
  unfold gapP
  refine ACalls.into Tryz.func55 rfl Tryz.ntmps55 Tryz.results55 (by simp) ?_
  simp -implicitDefEqProofs
  refine ACall.eq (hm1 _) ?_
  cases h1 : momP fr with
  | false => simp -implicitDefEqProofs
  | true =>
  simp -implicitDefEqProofs
  first | refine ACall.eq (hm2 _) ?_ | refine AQS.eq (hm2 _) ?_
  cases h2 : momP tt with
  | false => simp -implicitDefEqProofs
  | true =>
  by_cases h3 : fr < tt
  · rw [momP_iff] at h1 h2
    obtain ⟨fr, rfl⟩ := Int.eq_ofNat_of_zero_le h1.1
    obtain ⟨tt, rfl⟩ := Int.eq_ofNat_of_zero_le h2.1
    have h3' : ¬ (tt : Int) ≤ (fr : Int) := by omega
    rw [if_pos ⟨rfl, h3⟩, Int.toNat_natCast, Int.toNat_natCast]
    obtain ⟨R, hR⟩ : ∃ R, gapGo (L.map PI.at_ ++ [tt]) (fr, fr, fr) = R := ⟨_, rfl⟩
    rw [hR]
    simp -implicitDefEqProofs [h3, h3']
    refine ACall.eq (hr _ hG hT) ?_
    simp -implicitDefEqProofs
    have hfull : GrowsS H (gapPre fr L 0) 1 2 .full H := .inl ⟨rfl, rfl⟩
    refine AGo.joinLoop (fun ρ' K' => ∃ tk K3, ρ' 2 = .sc (.int .i64 (tt : Int)) ∧ ρ' 10 = .sl (gapPre fr L L.length) tk ∧ GrowsS H (gapPre fr L L.length) 1 2 tk K3 ∧ HLe K3 K') (fun k' hk' => ?_) ?_
    · refine AGo.rounds (fun μ ρ K => ∃ (i : Nat) (tk : Rg.Tok) (K3 : Heap), μ = L.length - i ∧ i ≤ L.length ∧ ρ 2 = .sc (.int .i64 (tt : Int)) ∧ ρ 10 = .sl (gapPre fr L i) tk ∧ ρ 33 = .sl (L.map runAV) .no ∧ ρ 34 = .sc (.int .i64 (L.length : Int)) ∧ ρ 35 = .sc (.int .i64 (i : Int)) ∧ GrowsS H (gapPre fr L i) 1 2 tk K3 ∧ HLe K3 K) ?_ (m := L.length) (HLe.refl _)
        ⟨0, .full, H, by omega, by omega, by simp, by simp [gapPre], by simp, by simp, by simp, hfull, HLe.refl _⟩
      rintro μ ρ K ih ⟨i, tk, K3, rfl, hi, r2, r10, r33, r34, r35, hg, hle⟩
      rcases Nat.lt_or_ge i L.length with hlt | hge
      · obtain ⟨x, hx, _⟩ := getAt hlt
        have hwi : IntKind.i64.wrap ((i : Int) + 1) = ((i + 1 : Nat) : Int) := wadd (b := 1) rfl (by omega)
        have hd : gapPre fr L (i + 1) = gapPre fr L i ++ [tAV x.at_] := by
          unfold gapPre
          rw [List.take_succ_eq_append_getElem hlt, hx]; simp
        have hxl : (gapPre fr L i).length = i + 1 := by simp [gapPre]; omega
        have hsz : szs 1 (gapPre fr L i) = true := szs_map (f := tAV) (fun _ => rfl) _
        generalize gapPre fr L i = xs at *
        simp -implicitDefEqProofs [r33, r34, r35, hlt, hx]
        refine AAlloc.intro fun b5 h5 => ?_
        simp -implicitDefEqProofs [r10]
        refine growsS_app el_36 hg (hle.trans (HLe.set_fresh h5)) (by simp) hsz (by simp [szs]) (by simp; omega) (by simp [maxLen]; omega) fun t' K4 Hn hg' hl' => ?_
        simp -implicitDefEqProofs [r35, hwi]
        refine AGo.again ih (m' := L.length - (i + 1)) (by omega) (HLe.refl _) ⟨i + 1, t', K4, rfl, by omega, by simp [r2], by simp [hd], by simp [r33], by simp [r34], by simp, ?_, hl'⟩
        rw [hd]
        exact hg'
      · have hn : ¬ i < L.length := by omega
        obtain rfl : i = L.length := by omega
        simp -implicitDefEqProofs [r34, r35, hn]
        exact hk' _ _ ⟨tk, K3, by simp [r2], by simp [r10], hg, hle⟩
    · rintro ρ1 K1 ⟨tk, K3, r2, r10, hg, hle⟩
      have hsz : szs 1 (gapPre fr L L.length) = true := szs_map (f := tAV) (fun _ => rfl) _
      have hxl : (gapPre fr L L.length).length = L.length + 1 := by simp [gapPre]
      obtain ⟨M, hM⟩ : ∃ M, fr :: (L.map PI.at_ ++ [tt]) = M := ⟨_, rfl⟩
      have hd : gapPre fr L L.length ++ [tAV tt] = M.map tAV := by unfold gapPre; rw [← hM]; simp
      have hMl : M.length = L.length + 2 := by rw [← hM]; simp
      have hMb : ∀ x ∈ M, x < 13569465600 := by
        intro x hx
        rw [← hM] at hx
        simp only [List.mem_cons, List.mem_append, List.mem_map, List.not_mem_nil, or_false] at hx
        rcases hx with rfl | ⟨y, hy, rfl⟩ | rfl
        · omega
        · exact (hok y hy).1
        · omega
      have hM0 : M[0]? = some fr := by rw [← hM]; rfl
      have hM1 : gapGo (M.drop 1) (fr, fr, fr) = R := by rw [← hM]; exact hR
      generalize gapPre fr L L.length = xs at *
      clear hM hR hfull hr hok
      simp -implicitDefEqProofs [r2, r10]
      refine growsS_app el_36 hg hle (by simp) hsz (by simp [szs]) (by simp; omega) (by simp [maxLen]; omega) fun t' K4 Hn hg' hl' => ?_
      rw [hd]
      have h0 : 0 < M.length := by omega
      have hM0' : M[0] = fr := by rw [List.getElem?_eq_getElem h0] at hM0; exact Option.some.inj hM0
      simp -implicitDefEqProofs
      first | refine go_draw 14 f_mixed (by decide +kernel) ?_ | refine go_draw 11 f_mixed (by decide +kernel) ?_ | refine go_draw 8 f_mixed (by decide +kernel) ?_
      simp -implicitDefEqProofs [h0, hM0, hM0']
      have hW : HWk H Hn := (hg'.le.trans hl').wk
      refine AGo.rounds (fun μ ρ K => ∃ (i b e l : Nat), μ = M.length - i ∧ 1 ≤ i ∧ i ≤ M.length ∧ M[i - 1]? = some l ∧ gapGo (M.drop i) (b, e, l) = R ∧ b < 13569465600 ∧ e < 13569465600 ∧ l < 13569465600 ∧ ρ 10 = .sl (M.map tAV) t' ∧ ρ 8 = .sc (.int .i64 (b : Int)) ∧ ρ 9 = .sc (.int .i64 (e : Int)) ∧ ρ 13 = .sc (.int .i64 (i : Int)) ∧ K = Hn) ?_ (m := M.length - 1) (HLe.refl _)
        ⟨1, fr, fr, fr, rfl, by omega, by omega, hM0, hM1, by omega, by omega, by omega, by simp, by simp, by simp, by simp, rfl⟩
      rintro μ ρ K ih ⟨i, b, e, l, rfl, h1i, hi, hMl', hgo, hb, he, hl, r10, r8, r9, r13, rfl⟩
      rcases Nat.lt_or_ge i M.length with hlt | hge
      · obtain ⟨x, hx, hx'⟩ := getAt hlt
        have hxb := hMb x (List.mem_of_getElem? hx')
        rw [List.drop_eq_getElem_cons hlt, gapGo, hx] at hgo
        obtain ⟨i0, hi0⟩ : ∃ q, i - 1 = q := ⟨_, rfl⟩
        rw [hi0] at hMl'
        have hlt0 : i0 < M.length := by omega
        have hMl0 : M[i0] = l := by rw [List.getElem?_eq_getElem hlt0] at hMl'; exact Option.some.inj hMl'
        have hws : IntKind.i64.wrap ((i : Int) - 1) = (i0 : Int) := wsub (b := 1) hi0 (by omega) (by omega)
        have hwi : IntKind.i64.wrap ((i : Int) + 1) = ((i + 1 : Nat) : Int) := wadd (b := 1) rfl (by omega)
        have w1 : IntKind.i64.wrap ((x : Int) - (l : Int)) = (x : Int) - (l : Int) := wrap_i64 (by omega) (by omega)
        have w2 : IntKind.i64.wrap ((e : Int) - (b : Int)) = (e : Int) - (b : Int) := wrap_i64 (by omega) (by omega)
        simp -implicitDefEqProofs [r10, r13, hlt]
        first | refine go_draw 14 f_mixed (by decide +kernel) ?_ | refine go_draw 11 f_mixed (by decide +kernel) ?_ | refine go_draw 8 f_mixed (by decide +kernel) ?_
        by_cases hc : (e : Int) - b < (x : Int) - l
        · rw [if_pos hc] at hgo
          simp -implicitDefEqProofs [r10, r13, r8, r9, hlt, hx, hlt0, hMl0, hws, w1, w2, hc]
          first | refine go_draw 14 f_mixed (by decide +kernel) ?_ | refine go_draw 11 f_mixed (by decide +kernel) ?_ | refine go_draw 8 f_mixed (by decide +kernel) ?_
          simp -implicitDefEqProofs [r10, r13, r8, r9, hlt, hx, hlt0, hMl0, hws, hwi]
          exact AGo.again ih (m' := M.length - (i + 1)) (by omega) (HLe.refl _) ⟨i + 1, l, x, x, rfl, by omega, by omega, hx', hgo, hl, hxb, hxb, by simp [r10], by simp, by simp, by simp, rfl⟩
        · rw [if_neg hc] at hgo
          simp -implicitDefEqProofs [r10, r13, r8, r9, hlt, hx, hlt0, hMl0, hws, w1, w2, hc, hwi]
          exact AGo.again ih (m' := M.length - (i + 1)) (by omega) (HLe.refl _) ⟨i + 1, b, e, x, rfl, by omega, by omega, hx', hgo, hb, he, hxb, by simp [r10], by simp [r8], by simp [r9], by simp, rfl⟩
      · have hn : ¬ i < M.length := by omega
        rw [List.drop_of_length_le hge] at hgo
        unfold gapGo at hgo
        subst hgo
        simp -implicitDefEqProofs [r10, r13, r8, r9, hn]
        exact hW
  · have h3' : tt ≤ fr := by omega
    rw [if_neg fun h => h3 h.2]
    simp -implicitDefEqProofs [h3, h3']
end Go.Proofs.YtmoncokklkiikaaGreatDoor
namespace Rg
open Go Go.RowKit
variable {P : Program} {H : Heap}
end Rg
namespace Go.Proofs.YtmoncokklkiikaaGreatDoor
open Rg Go
variable {H : Heap}
def hit (x y : PI) : Bool := decide (y.place = x.place) && decide (x.at_ < y.at_ + y.tmo)
def hits (kept : List PI) (x : PI) : Nat := (kept.filter (hit x)).length
def clashGo : List PI → List PI × List PI → List PI × List PI
  | [], s => s
  | x :: r, s => clashGo r (if x.lim ≤ (hits s.2 x : Int) then (s.1 ++ [x], s.2) else (s.1, s.2 ++ [x]))
def clashP (L : List PI) : List PI := (clashGo L ([], [])).1
theorem hits_take {L : List PI} {k : Nat} (hk : k < L.length) (x : PI) : hits (L.take (k + 1)) x = hits (L.take k) x + if hit x L[k] = true then 1 else 0 := by
  unfold hits
  rw [List.take_succ_eq_append_getElem hk, List.filter_append, List.length_append]
  congr 1
  cases h : hit x L[k] <;> simp [h]
theorem hits_le (L : List PI) (x : PI) : hits L x ≤ L.length := List.length_filter_le _ _
theorem planI_job {js : List Jb} {fr tt most : Int} {x y : PI} (hx : x ∈ planI js fr tt most) (hy : y ∈ planI js fr tt most) (h : y.place = x.place) : y.job = x.job := by
  obtain ⟨z, _, rfl⟩ := List.mem_map.1 hx
  obtain ⟨w, _, rfl⟩ := List.mem_map.1 hy
  have h' : w.2 = z.2 := h
  unfold itemOf
  simp only [h']
set_option maxHeartbeats 8000000 in
theorem c_pClashes (hG : Glob H) (hT : GlobT H) {js : List Jb} (hj : JobsOk js) (fr tt most : Int) (hmost : most ≤ 1000000) :
    AOk Tryz.prog 59 [.sl (jobsAV js) .no, .sc (.int .i64 fr), .sc (.int .i64 tt), .sc (.int .i64 most)] H (.sl ((clashP (planI js fr tt most)).map pitAV) .no) H := by
  have hr := c_runsI hG hT hj fr tt most hmost
  have hLm := planI_len js fr tt most
  have hok := planI_ok (js := js) (fr := fr) (tt := tt) (most := most)
  have hjb := fun {x y} => planI_job (js := js) (fr := fr) (tt := tt) (most := most) (x := x) (y := y)
  generalize planI js fr tt most = L at *
  obtain ⟨R, hR⟩ : ∃ R, clashP L = R := ⟨_, rfl⟩
  rw [hR]
  refine ACalls.into Tryz.func59 rfl Tryz.ntmps59 Tryz.results59 (by simp) ?_
  simp -implicitDefEqProofs
  refine ACall.eq hr ?_
  simp -implicitDefEqProofs
  clear hr
  refine AGo.rounds (fun μ ρ K => ∃ (i : Nat) (s : List PI × List PI) (t1 t2 : Rg.Tok), μ = L.length - i ∧ i ≤ L.length ∧ (clashGo (L.drop i) s).1 = R ∧ s.1.length ≤ i ∧ s.2.length ≤ i ∧ (∀ y ∈ s.2, y ∈ L) ∧ ρ 9 = .sl (s.1.map pitAV) t1 ∧ ρ 10 = .sl (s.2.map runAV) t2 ∧ ρ 20 = .sl (L.map runAV) .no ∧ ρ 21 = .sc (.int .i64 (L.length : Int)) ∧ ρ 22 = .sc (.int .i64 (i : Int)) ∧ HLe H K ∧
    GrowsK H (s.1.map pitAV).length 2 111 t1 K ∧ GrowsK H (s.2.map runAV).length 5 189 t2 K) ?_ (m := L.length) (HLe.refl _)
    ⟨0, ([], []), .nil, .nil, by omega, by omega, hR, by simp, by simp, by simp, by simp, by simp, by simp, by simp, by simp, HLe.refl _, .inl ⟨rfl, rfl⟩, .inl ⟨rfl, rfl⟩⟩
  rintro μ ρ K ih ⟨i, s, t1, t2, rfl, hi, hgo, hs1, hs2, hsL, r9, r10, r20, r21, r22, hle, hg1, hg2⟩
  obtain ⟨out, kept⟩ := s
  simp only at hs1 hs2 hsL r9 r10 hg1 hg2
  rcases Nat.lt_or_ge i L.length with hlt | hge
  · obtain ⟨x, hx, hx'⟩ := getAt hlt
    have hxL := List.mem_of_getElem? hx'
    have hxok : x.ok := hok x hxL
    rw [List.drop_eq_getElem_cons hlt, clashGo, hx] at hgo
    simp only at hgo
    have hwi : IntKind.i64.wrap ((i : Int) + 1) = ((i + 1 : Nat) : Int) := wadd (b := 1) rfl (by omega)
    simp -implicitDefEqProofs [r20, r21, r22, hlt, hx]
    refine AAlloc.intro fun b12 h12 => ?_
    simp -implicitDefEqProofs
    generalize hK1 : Heap.set K b12 _ = K1
    have l1 : HLe K K1 := by rw [← hK1]; exact HLe.set_fresh h12
    have k12 : K1 b12 = some (.cells (runC x) 189) := by rw [← hK1]; simp [Heap.set]
    clear hK1 h12
    have hle := hle.trans l1
    have hg1 := hg1.up l1
    have hg2 := hg2.up l1
    simp -implicitDefEqProofs [r10]
    refine AGo.joinLoop (fun ρ' K' => ρ' 9 = .sl (out.map pitAV) t1 ∧ ρ' 10 = .sl (kept.map runAV) t2 ∧ ρ' 12 = ptr b12 ∧ ρ' 20 = .sl (L.map runAV) .no ∧ ρ' 21 = .sc (.int .i64 (L.length : Int)) ∧ ρ' 22 = .sc (.int .i64 (i : Int)) ∧ ρ' 13 = .sc (.int .i64 (hits kept x : Int)) ∧ HLe K1 K') (fun k' hk' => ?_) ?_
    · refine AGo.rounds (fun μ ρ' K' => ∃ k : Nat, μ = kept.length - k ∧ k ≤ kept.length ∧ ρ' 9 = .sl (out.map pitAV) t1 ∧ ρ' 10 = .sl (kept.map runAV) t2 ∧ ρ' 12 = ptr b12 ∧ ρ' 20 = .sl (L.map runAV) .no ∧ ρ' 21 = .sc (.int .i64 (L.length : Int)) ∧ ρ' 22 = .sc (.int .i64 (i : Int)) ∧ ρ' 26 = .sl (kept.map runAV) t2 ∧ ρ' 27 = .sc (.int .i64 (kept.length : Int)) ∧ ρ' 13 = .sc (.int .i64 (hits (kept.take k) x : Int)) ∧ ρ' 28 = .sc (.int .i64 (k : Int)) ∧ HLe K1 K') ?_ (m := kept.length) (HLe.refl _)
        ⟨0, by omega, by omega, by simp [r9], by simp [r10], by simp, by simp [r20], by simp [r21], by simp [r22], by simp, by simp, by simp [hits], by simp, HLe.refl _⟩
      clear ih hgo r9 r10 r20 r21 r22
      rintro μ ρ' K' ih2 ⟨k, rfl, hk, r9, r10, r12, r20, r21, r22, r26, r27, r13, r28, hle2⟩
      rcases Nat.lt_or_ge k kept.length with hkl | hkl
      · obtain ⟨y, hy, hy'⟩ := getAt hkl
        have hyL := hsL y (List.mem_of_getElem? hy')
        have hyok : y.ok := hok y hyL
        have hjob := hjb hxL hyL
        unfold PI.ok at hxok hyok
        have hct := hits_take hkl x
        rw [hy] at hct
        have hcl := hits_le (kept.take k) x
        rw [List.length_take] at hcl
        generalize hits (kept.take k) x = c at *
        have hwk : IntKind.i64.wrap ((k : Int) + 1) = ((k + 1 : Nat) : Int) := wadd (b := 1) rfl (by omega)
        have hwc : IntKind.i64.wrap ((c : Int) + 1) = ((c + 1 : Nat) : Int) := wadd (b := 1) rfl (by omega)
        have i1 : (y.job : Int) = (x.job : Int) ↔ y.job = x.job := by omega
        have i3 : (y.place : Int) = (x.place : Int) ↔ y.place = x.place := by omega
        have i2 : (x.at_ : Int) < (y.at_ : Int) + (y.tmo : Int) ↔ x.at_ < y.at_ + y.tmo := by omega
        have q12 := hle2 _ _ k12
        simp -implicitDefEqProofs [r26, r27, r28, hkl, hy]
        refine AAlloc.intro fun b15 h15 => ?_
        have n12 : b12 ≠ b15 := by rintro rfl; rw [q12] at h15; cases h15
        have hl2 : ∀ o, HLe K1 (K'.set b15 o) := fun o => hle2.trans (HLe.set_fresh h15)
        by_cases h1 : y.place = x.place
        · have h0 := hjob h1
          by_cases h2 : x.at_ < y.at_ + y.tmo
          · have hr : hit x y = true := by unfold hit; simp [h1, h2]
            rw [hr, if_pos rfl] at hct
            simp -implicitDefEqProofs [r12, q12, n12, i1, i2, i3, h0, h1, h2, r13, r28, hwk, hwc]
            exact AGo.again ih2 (m' := kept.length - (k + 1)) (by omega) (HLe.refl _) ⟨k + 1, rfl, by omega, by simp [r9], by simp [r10], by simp [r12], by simp [r20], by simp [r21], by simp [r22], by simp [r26], by simp [r27], by simp [hct], by simp, hl2 _⟩
          · have hr : hit x y = false := by unfold hit; simp [h2]
            rw [hr, if_neg (by simp)] at hct
            simp -implicitDefEqProofs [r12, q12, n12, i1, i2, i3, h0, h1, h2, r13, r28, hwk, hwc]
            exact AGo.again ih2 (m' := kept.length - (k + 1)) (by omega) (HLe.refl _) ⟨k + 1, rfl, by omega, by simp [r9], by simp [r10], by simp [r12], by simp [r20], by simp [r21], by simp [r22], by simp [r26], by simp [r27], by simp [r13, hct], by simp, hl2 _⟩
        · have hr : hit x y = false := by unfold hit; simp [h1]
          rw [hr, if_neg (by simp)] at hct
          by_cases h0 : y.job = x.job
          · simp -implicitDefEqProofs [r12, q12, n12, i1, i3, h0, h1, r13, r28, hwk, hwc]
            exact AGo.again ih2 (m' := kept.length - (k + 1)) (by omega) (HLe.refl _) ⟨k + 1, rfl, by omega, by simp [r9], by simp [r10], by simp [r12], by simp [r20], by simp [r21], by simp [r22], by simp [r26], by simp [r27], by simp [r13, hct], by simp, hl2 _⟩
          · simp -implicitDefEqProofs [r12, q12, n12, i1, h0, r13, r28, hwk, hwc]
            exact AGo.again ih2 (m' := kept.length - (k + 1)) (by omega) (HLe.refl _) ⟨k + 1, rfl, by omega, by simp [r9], by simp [r10], by simp [r12], by simp [r20], by simp [r21], by simp [r22], by simp [r26], by simp [r27], by simp [r13, hct], by simp, hl2 _⟩
      · have hk2 : ¬ k < kept.length := by omega
        rw [List.take_of_length_le hkl] at r13
        simp -implicitDefEqProofs [r27, r28, hk2]
        exact hk' _ _ ⟨by simp [r9], by simp [r10], by simp [r12], by simp [r20], by simp [r21], by simp [r22], by simp [r13], hle2⟩
    · clear r9 r10 r20 r21 r22
      rintro ρ' K' ⟨r9, r10, r12, r20, r21, r22, r13, hle2⟩
      have q12 := hle2 _ _ k12
      have hg1 := hg1.up hle2
      have hg2 := hg2.up hle2
      have hle := hle.trans hle2
      generalize hits kept x = c at *
      by_cases h1 : x.lim ≤ (c : Int)
      · rw [if_pos h1] at hgo
        obtain ⟨G0, G, a1, a2, a3, a4⟩ := hg1.grows hle
        have hsz : szs 2 (out.map pitAV) = true := szs_map (f := pitAV) (fun _ => rfl) _
        have hd : out.map pitAV ++ [pitAV x] = (out ++ [x]).map pitAV := by simp
        have hol : (out.map pitAV).length = out.length := by simp
        simp -implicitDefEqProofs [r13, r12, q12, h1, r9]
        refine AApp.grows el_105 a1 a2 (by simp) hsz (by simp [szs]) (by simp; omega) (by simp [maxLen]; omega) fun t' K4 Hn hg' hl' => ?_
        rw [hd] at hg' ⊢
        obtain ⟨b1, b2⟩ := GrowsK.of a3 hg' hl'
        simp -implicitDefEqProofs [r22, hwi]
        exact AGo.again ih (m' := L.length - (i + 1)) (by omega) (HLe.refl _) ⟨i + 1, (out ++ [x], kept), t', t2, rfl, by omega, hgo, by simp; omega, by simp; omega, hsL, by simp, by simp [r10], by simp [r20], by simp [r21], by simp, b2, b1, hg2.other (by decide) a4 hg' hl'⟩
      · rw [if_neg h1] at hgo
        obtain ⟨G0, G, a1, a2, a3, a4⟩ := hg2.grows hle
        have hsz : szs 5 (kept.map runAV) = true := szs_map (f := runAV) (fun _ => rfl) _
        have hd : kept.map runAV ++ [.agg [.sc (.int .i64 (x.at_ : Int)), .sc (.int .u64 (x.job : Int)), .sc (.int .i64 ((x.at_ : Int) + (x.tmo : Int))), .sc (.int .i64 x.lim), .sc (.int .i64 (x.place : Int))]] = (kept ++ [x]).map runAV := by simp
        have hol : (kept.map runAV).length = kept.length := by simp
        simp -implicitDefEqProofs [r13, r12, q12, h1, r10]
        refine AApp.grows el_186 a1 a2 (by simp) hsz (by simp [szs]) (by simp; omega) (by simp [maxLen]; omega) fun t' K4 Hn hg' hl' => ?_
        rw [hd] at hg' ⊢
        obtain ⟨b1, b2⟩ := GrowsK.of a3 hg' hl'
        simp -implicitDefEqProofs [r22, hwi]
        exact AGo.again ih (m' := L.length - (i + 1)) (by omega) (HLe.refl _) ⟨i + 1, (out, kept ++ [x]), t1, t', rfl, by omega, hgo, by simp; omega, by simp; omega, (fun y hy => by
          rcases List.mem_append.1 hy with h | h
          · exact hsL y h
          · rw [List.mem_singleton.1 h]; exact hxL), by simp [r9], by simp, by simp [r20], by simp [r21], by simp, b2, hg1.other (by decide) a4 hg' hl', b1⟩
  · have hn : ¬ i < L.length := by omega
    rw [List.drop_of_length_le hge] at hgo
    unfold clashGo at hgo
    subst hgo
    simp -implicitDefEqProofs [r9, r21, r22, hn]
    exact hle.wk
end Go.Proofs.YtmoncokklkiikaaGreatDoor
namespace Go.Proofs.YtmoncokklkiikaaGreatDoor
open Rg Go
variable {H : Heap}
def pi0 : PI := ⟨0, 0, 0, 0, 0⟩
def clashGoI : Nat → List PI → List Nat × List PI → List Nat × List PI
  | _, [], s => s
  | i, x :: r, s => clashGoI (i + 1) r (if x.lim ≤ (hits s.2 x : Int) then (s.1 ++ [i], s.2) else (s.1, s.2 ++ [x]))
def clashIx (L : List PI) : List Nat := (clashGoI 0 L ([], [])).1
theorem clash_ix (L : List PI) : ∀ (m i : Nat) (I : List Nat) (kept : List PI), L.length - i = m → (clashGoI i (L.drop i) (I, kept)).1.map (fun k => L.getD k pi0) = (clashGo (L.drop i) (I.map (fun k => L.getD k pi0), kept)).1
  | 0, i, I, kept, h => by
    rw [List.drop_of_length_le (by omega)]
    rfl
  | m + 1, i, I, kept, h => by
    have hlt : i < L.length := by omega
    have hg : L.getD i pi0 = L[i] := by rw [List.getD_eq_getElem?_getD, List.getElem?_eq_getElem hlt]; rfl
    rw [List.drop_eq_getElem_cons hlt, clashGoI, clashGo]
    by_cases hc : L[i].lim ≤ (hits kept L[i] : Int)
    · rw [if_pos hc, if_pos hc, clash_ix L m (i + 1) _ _ (by omega), List.map_append, List.map_singleton, hg]
    · rw [if_neg hc, if_neg hc, clash_ix L m (i + 1) _ _ (by omega)]
theorem clashIx_map (L : List PI) : (clashIx L).map (fun k => L.getD k pi0) = clashP L := clash_ix L L.length 0 [] [] (by omega)
theorem clashGoI_lt : ∀ (r : List PI) (i : Nat) (s : List Nat × List PI) (n : Nat), i + r.length ≤ n → (∀ k ∈ s.1, k < n) → ∀ k ∈ (clashGoI i r s).1, k < n
  | [], _, _, _, _, hs => hs
  | x :: r, i, s, n, h, hs => by
    rw [clashGoI]
    rw [List.length_cons] at h
    refine clashGoI_lt r (i + 1) _ n (by omega) ?_
    split
    · intro k hk
      rcases List.mem_append.1 hk with h1 | h1
      · exact hs k h1
      · rw [List.mem_singleton.1 h1]; omega
    · exact hs
theorem clashIx_lt (L : List PI) : ∀ k ∈ clashIx L, k < L.length := clashGoI_lt L 0 ([], []) L.length (by omega) (by simp)
theorem clashGoI_len : ∀ (r : List PI) (i : Nat) (s : List Nat × List PI), (clashGoI i r s).1.length ≤ s.1.length + r.length
  | [], _, _ => by simp [clashGoI]
  | x :: r, i, s => by
    rw [clashGoI]
    refine Nat.le_trans (clashGoI_len r (i + 1) _) ?_
    split <;> simp <;> omega
theorem filt1 {α : Type} (p : α → Bool) (a : α) : [a].filter p = if p a = true then [a] else [] := by cases h : p a <;> simp [List.filter, h]
end Go.Proofs.YtmoncokklkiikaaGreatDoor
namespace Go.Proofs.YtmoncokklkiikaaGreatDoor
open Rg Go
variable {H : Heap}
end Go.Proofs.YtmoncokklkiikaaGreatDoor
namespace Go.Proofs.YtmoncokklkiikaaGreatDoor
open Rg Go
variable {H : Heap}
def ty5 : List UInt8 := [48, 32, 42, 32, 42, 32, 42, 32, 42]
def yx5 : Ex := ⟨⟨1, false⟩, ⟨16777215, true⟩, ⟨4294967294, true⟩, ⟨8190, true⟩, ⟨127, true⟩⟩
set_option maxRecDepth 100000 in
theorem ky5 : cronK ty5 = (yx5, 0) := by decide +kernel
theorem bit0 : ∀ m, m < 60 → hasB yx5.a.bits ((m : Nat) : Int) = true → m = 0 := by decide +kernel
theorem fire5 : ∀ i, i < 25 → fireB yx5 (3600 * i) = true := by decide +kernel
def hours : Nat → Nat → List Nat
  | 0, _ => []
  | c + 1, i => 3600 * (i + 1) :: hours c (i + 1)
theorem row5 : ∀ c i, i + c = 24 → IsRun yx5 86400 (3600 * i) (hours c i)
  | 0, i, h => by
    obtain ⟨r, hr⟩ := next_ex yx5 (3600 * i)
    refine ⟨r, hr, fun t ht => ?_⟩
    subst ht
    have := hr.1
    omega
  | c + 1, i, h => by
    refine ⟨⟨by omega, by omega, fire5 _ (by omega), fun k h1 h2 => false_of fun hf => ?_⟩, by omega, row5 c (i + 1) (by omega)⟩
    obtain ⟨n, h, m, g1, g2, g3, rfl, _, g4, g5, g6⟩ := fire_inv (by omega) hf
    have := bit0 m g3 g5
    omega
end Go.Proofs.YtmoncokklkiikaaGreatDoor
