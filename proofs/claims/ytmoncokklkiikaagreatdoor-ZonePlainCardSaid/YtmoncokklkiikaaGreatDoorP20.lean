/- Zones: the moments of a clock, when it begins. The firings of a time, gone over by a loop: next.All, next.Count. Zones: when a clock begins. Zones: the first firing behind a moment. Zones: the package variables that are read; numbers' and offsets' texts. Zones in the document's type: which may be, offsets, moments. Zones, as the document has them. Zones, as the document has them: offsets at moments, moments of a clock, when it begins. -/
import Derived.Test.YtmoncokklkiikaaGreatDoorP19
import Derived.Lib.AppendIntMem
set_option linter.unusedSimpArgs false
set_option linter.unusedVariables false
set_option linter.unnecessarySimpa false
namespace Go.Proofs.YtmoncokklkiikaaGreatDoor
open Rg Go
variable {H : Heap}
theorem atL_mem : ∀ (l : List (Int × Int)) (f t : Int), atL f l t ∈ f :: l.map (·.2)
  | [], f, t => by simp [atL]
  | (a, o) :: r, f, t => by
    unfold atL
    split
    · simp
    · have := atL_mem r o t
      rw [List.map_cons]
      exact List.mem_cons_of_mem _ this
theorem mom_of_row {z : Zn} (hz : mayZ z = true) {l : Int} {xs : List Int} (hn : xs.Nodup) (hm : ∀ t, t ∈ xs ↔ IsMom z l t) : xs.length ≤ 2 ∧ sort2 xs = momZ z l := by
  have hl := mom_len hz hn fun t ht => (hm t).1 ht
  refine ⟨hl, sorted_eq (sort2_sorted hl hn) (mom_sorted z l) fun t => ?_⟩
  rw [sort2_mem, hm, mom_mem hz]
set_option maxHeartbeats 4000000 in
theorem c_zMoments_raw (z : Zn) (t : Rg.Tok) (hz : mayZ z = true) {l : Int} (h0 : 0 ≤ l) (h1 : l < 13569465600) :
    ACalls Tryz.prog 108 [zAV z t, .sc (.int .i64 l)] H (fun v K => ∃ xs, xs = (momZ z l).map i64 ∧ RawRow H 2 xs v K) := by
  have hlen := z_len hz
  have hfo := offOk_iff.1 (may_parts hz).1
  have hin := mayL_in (may_parts hz).2.2
  obtain ⟨ns, hns⟩ : ∃ ns, z.first :: z.l.map (·.2) = ns := ⟨_, rfl⟩
  have hnl : ns.length = z.l.length + 1 := by rw [← hns]; simp
  have hno : ∀ n ∈ ns, -50400 ≤ n ∧ n ≤ 50400 := by
    intro n hn
    rw [← hns] at hn
    rcases List.mem_cons.1 hn with e | hn
    · subst e; exact hfo.2
    · obtain ⟨c, hc, rfl⟩ := List.mem_map.1 hn
      exact (offOk_iff.1 (hin c hc).1).2
  have happ : i64 z.first :: (z.l.map fun c => i64 c.2) = ns.map i64 := by rw [← hns]; simp [Function.comp_def]
  refine ACalls.into Tryz.func108 rfl Tryz.ntmps108 Tryz.results108 (by simp) ?_
  simp -implicitDefEqProofs
  refine AAlloc.intro fun b2 h2 => ?_
  simp -implicitDefEqProofs
  generalize hK : Heap.set _ b2 _ = K1
  have k2 : K1 b2 = some (.cells (zC z t) 55) := by rw [← hK]; simp [Heap.set]
  have kW : HLe H K1 := by rw [← hK]; exact HLe.set_fresh h2
  clear hK
  refine go_draw 8 f_mixed (by decide +kernel) ?_
  simp -implicitDefEqProofs [k2]
  refine AQS.eq (c_zOffsets z t (by omega)) ?_
  simp -implicitDefEqProofs
  refine AQS.app el_106 (.inl (.inr rfl)) (by simp [szs]) (szs_map (f := fun c : Int × Int => i64 c.2) (fun _ => rfl) _) (by simp; omega) (by simp [maxLen]; omega) ?_
  have happ' : [AV.sc (.int .i64 z.first)] ++ (z.l.map fun c => i64 c.2) = ns.map i64 := happ
  rw [happ']
  simp -implicitDefEqProofs
  refine AGo.roundsB 5 (fun μ ρ K => ∃ (i : Nat) (xs : List Int) (A : Option Addr) (cap : Nat), μ = ns.length - i ∧ i ≤ ns.length ∧ xs.Nodup ∧ (∀ t, t ∈ xs ↔ IsMom z l t ∧ l - t ∈ ns.take i) ∧
    ρ 1 = .sc (.int .i64 l) ∧ ρ 2 = .sc (.pointer (some ⟨b2, 0, none⟩)) ∧ ρ 14 = .sl (ns.map i64) .no ∧ ρ 15 = .sc (.int .i64 (ns.length : Int)) ∧ ρ 16 = .sc (.int .i64 (i : Int)) ∧ ρ 5 = .sc (.slice A xs.length cap) ∧ RawRow K1 2 (xs.map i64) (.sc (.slice A xs.length cap)) K) ?_ (m := ns.length) (by simp)
    ⟨0, [], none, 0, by omega, by omega, List.nodup_nil, by simp, by simp, by simp, by simp, by simp, by simp, by simp, RawRow.none⟩
  rintro μ ρ K ih ⟨i, xs, A, cap, rfl, hi, hnd, hmem, r1, r2, r14, r15, r16, r5, hR⟩
  have hxl : xs.length ≤ 2 := mom_len hz hnd fun t ht => ((hmem t).1 ht).1
  have k2' : K b2 = some (.cells (zC z t) 55) := hR.1 _ _ k2
  rcases Nat.lt_or_ge i ns.length with hlt | hge
  · obtain ⟨n, hn, _⟩ := getAt hlt
    have hbn := hno n (by rw [← hn]; exact List.getElem_mem _)
    have hw1 : IntKind.i64.wrap ((i : Int) + 1) = (i : Int) + 1 := wrap_i64 (by omega) (by omega)
    obtain ⟨u, hu⟩ : ∃ u, l - n = u := ⟨_, rfl⟩
    have hw2 : IntKind.i64.wrap (l - n) = u := by rw [wrap_i64 (by omega) (by omega), hu]
    have hw3 : IntKind.i64.wrap n = n := wrap_i64 (by omega) (by omega)
    have htk : ∀ t, l - t ∈ ns.take (i + 1) ↔ l - t ∈ ns.take i ∨ t = u := fun t => by
      rw [List.take_succ_eq_append_getElem hlt, hn, List.mem_append, List.mem_singleton]
      constructor <;> (rintro (h | h); exact .inl h; right; omega)
    have keep : (IsMom z l u → u ∈ xs) → ∀ t, t ∈ xs ↔ IsMom z l t ∧ l - t ∈ ns.take (i + 1) := fun h t => by
      rw [htk, hmem]
      constructor
      · exact fun h2 => ⟨h2.1, .inl h2.2⟩
      · rintro ⟨h2, h3 | h3⟩
        · exact ⟨h2, h3⟩
        · subst h3; exact (hmem t).1 (h h2)
    simp -implicitDefEqProofs [r1, r2, r14, r15, r16, hlt, hn, i64, hw2, hw3]
    refine ACall.eq (c_zMoment u) ?_
    cases hmo : momOk u with
    | false =>
      simp -implicitDefEqProofs [r16, hw1]
      refine AGo.again ih (m' := ns.length - (i + 1)) (by omega) (HLe.refl _) ⟨i + 1, xs, A, cap, rfl, by omega, hnd, keep fun h => ?_, by simp [r1], by simp [r2], by simp [r14], by simp [r15], by simp, by simp [r5], hR⟩
      have := momOk_iff.2 ⟨h.1, h.2.1⟩
      rw [hmo] at this
      cases this
    | true =>
      have hmo' := momOk_iff.1 hmo
      simp -implicitDefEqProofs [r1, r2, k2']
      refine ACall.eq (c_zAt z t u (by omega)) ?_
      by_cases hat : atZ z u = n
      · have hmm : IsMom z l u := ⟨hmo'.1, hmo'.2, by omega⟩
        by_cases hx : u ∈ xs
        · simp -implicitDefEqProofs [hat, r5]
          refine ACall.eq (c_contains64 u hR (by omega)) ?_
          simp -implicitDefEqProofs [hx, r16, hw1]
          exact AGo.again ih (m' := ns.length - (i + 1)) (by omega) (HLe.refl _) ⟨i + 1, xs, A, cap, rfl, by omega, hnd, keep fun _ => hx, by simp [r1], by simp [r2], by simp [r14], by simp [r15], by simp, by simp [r5], hR⟩
        · simp -implicitDefEqProofs [hat, r5]
          refine ACall.eq (c_contains64 u hR (by omega)) ?_
          simp -implicitDefEqProofs [hx, r5]
          refine ACall.intro (app_raw (e := 2) el_36 (fun z hz q hq => by simp at hz; subst hz; simp at hq; subst hq; rfl) hR rfl (by simp; omega) (by simp [maxLen]; omega)) fun v' K' hR' => ?_
          have ex : (xs.map i64) ++ [i64 u] = (xs ++ [u]).map i64 := by simp
          change RawRow K1 _ ((xs.map i64) ++ [i64 u]) v' K' at hR'
          rw [ex] at hR'
          obtain ⟨A', cap', hv'⟩ := hR'.form
          rw [List.length_map] at hv'
          subst hv'
          simp -implicitDefEqProofs [r16, hw1]
          refine AGo.again ih (m' := ns.length - (i + 1)) (by omega) (HLe.refl _) ⟨i + 1, xs ++ [u], A', cap', rfl, by omega, ?_, fun t => ?_, by simp [r1], by simp [r2], by simp [r14], by simp [r15], by simp, by simp, hR'⟩
          · rw [List.nodup_append]
            refine ⟨hnd, by simp, fun a ha b hb => ?_⟩
            simp only [List.mem_singleton] at hb
            subst hb
            rintro rfl
            exact hx ha
          · rw [htk, List.mem_append, hmem, List.mem_singleton]
            constructor
            · rintro (h | h)
              · exact ⟨h.1, .inl h.2⟩
              · subst h; exact ⟨hmm, .inr rfl⟩
            · rintro ⟨h2, h3 | h3⟩
              · exact .inl ⟨h2, h3⟩
              · exact .inr h3
      · simp -implicitDefEqProofs [hat, r16, hw1]
        refine AGo.again ih (m' := ns.length - (i + 1)) (by omega) (HLe.refl _) ⟨i + 1, xs, A, cap, rfl, by omega, hnd, keep fun h => ?_, by simp [r1], by simp [r2], by simp [r14], by simp [r15], by simp, by simp [r5], hR⟩
        have := h.2.2
        omega
  · have hn' : ¬ i < ns.length := by omega
    have hall : ∀ t, t ∈ xs ↔ IsMom z l t := fun t => by
      rw [hmem, List.take_of_length_le hge]
      refine ⟨fun h => h.1, fun h => ⟨h, ?_⟩⟩
      have := atL_mem z.l z.first t
      rw [hns] at this
      have h3 := h.2.2
      unfold atZ at h3
      rwa [show l - t = atL z.first z.l t by omega]
    obtain ⟨_, he⟩ := mom_of_row hz hnd hall
    simp -implicitDefEqProofs [r15, r16, r5, hn']
    refine ACall.intro (c_sort64 hR hxl) fun v' K' hR' => ?_
    simp -implicitDefEqProofs [r5]
    refine ⟨_, _, wk_refl _, HWk.refl _, ?_⟩
    rw [he] at hR'
    exact hR'.le kW
theorem c_zMoments (z : Zn) (t : Rg.Tok) (hz : mayZ z = true) {l : Int} (h0 : 0 ≤ l) (h1 : l < 13569465600) :
    AOk Tryz.prog 108 [zAV z t, .sc (.int .i64 l)] H (.sl ((momZ z l).map i64) .no) H := by
  have hr := c_zMoments_raw (H := H) z t hz h0 h1
  generalize momZ z l = M at hr ⊢
  have hf := ACalls.freeze (X := fun xs => xs = M.map i64) (fun xs hx x hm => by subst hx; obtain ⟨z, _, rfl⟩ := List.mem_map.1 hm; rfl) hr
  exact ACalls.weaken (ACalls.mono hf fun v K ⟨xs, e1, e2, e3⟩ => ⟨_, H, by rw [e2, e1]; exact wk_refl _, e3.wk, rfl, rfl⟩)
def momentsZ (z : Zn) (c : Clk) : List Int := if mayZ z = true ∧ mayC c = true then momZ z (momI c) else []
def argE (z : Zn) (c : Clk) : Int := if mayZ z = true ∧ mayC c = true then 0 else 2
theorem c_zMomentsC (z : Zn) (t : Rg.Tok) (c : Clk) : AOk Tryz.prog 35 [zAV z t, cAV c] H (.tup [.sl ((momentsZ z c).map i64) .no, .sc (.int .i64 (argE z c))]) H := by
  unfold momentsZ argE
  refine ACalls.into Tryz.func35 rfl Tryz.ntmps35 Tryz.results35 (by simp) ?_
  simp -implicitDefEqProofs
  refine AAlloc.intro fun b2 h2 => ?_
  simp -implicitDefEqProofs
  refine AAlloc.intro fun b3 h3 => ?_
  have n23 : b2 ≠ b3 := by intro e; subst e; simp [Heap.set] at h3
  have n32 := n23.symm
  have e3 : H b3 = none := (HLe.set_fresh h2).none h3
  simp -implicitDefEqProofs [n23, n32]
  refine ACall.eq (c_sJoin c) ?_
  simp -implicitDefEqProofs [n23, n32]
  refine ACall.eq (c_zMay z t) ?_
  cases hz : mayZ z with
  | false =>
    simp -implicitDefEqProofs
    repeat (first | exact HWk.refl _ | refine HWk.new (by assumption) ?_)
  | true =>
    unfold joinE
    cases hc : mayC c with
    | false =>
      simp -implicitDefEqProofs
      repeat (first | exact HWk.refl _ | refine HWk.new (by assumption) ?_)
    | true =>
      simp -implicitDefEqProofs [n23, n32]
      refine ACall.eq (c_zMoments z t hz (momI_lt c).1 (momI_lt c).2) ?_
      simp -implicitDefEqProofs
      repeat (first | exact HWk.refl _ | refine HWk.new (by assumption) ?_)
end Go.Proofs.YtmoncokklkiikaaGreatDoor
namespace Go.Proofs.YtmoncokklkiikaaGreatDoor
open Rg Go
variable {H : Heap}
theorem GlobT.set {H : Heap} {b : Nat} {o : AObj} (h : GlobT H) (hb : ∀ us, H b ≠ some (.ro us)) : GlobT (H.set b o) := by
  obtain ⟨us, h1, h2⟩ := h
  refine ⟨us, ?_, h2⟩
  unfold Heap.set
  split
  · rename_i hc; subst hc; exact absurd h1 (hb us)
  · exact h1
theorem del_apply {H : Heap} {b c : Nat} : Heap.del H b c = if c = b then none else H c := rfl
end Go.Proofs.YtmoncokklkiikaaGreatDoor
namespace Go.Proofs.YtmoncokklkiikaaGreatDoor
open Rg Go
variable {H : Heap}
def gapI : Int → List (Int × Int) → Int → Nat → Option Nat
  | _, [], _, _ => none
  | f, (a, o) :: r, l, i => if a + f ≤ l ∧ l < a + o then some i else gapI o r l (i + 1)
def optIdx : Option Nat → Int
  | some k => k
  | none => -1
theorem gapI_gapL (L : List (Int × Int)) (l : Int) : ∀ (R : List (Int × Int)) (f : Int) (i : Nat), L.drop i = R → (gapI f R l i = none ∧ gapL f R l = none) ∨ ∃ k c, gapI f R l i = some k ∧ L[k]? = some c ∧ gapL f R l = some c.1
  | [], f, i, _ => .inl ⟨rfl, rfl⟩
  | (a, o) :: R, f, i, h => by
    have hi : i < L.length := by
      refine Nat.not_le.1 fun hc => ?_
      rw [List.drop_of_length_le hc] at h
      cases h
    rw [List.drop_eq_getElem_cons hi] at h
    injection h with h1 h2
    unfold gapI gapL
    by_cases hc : a + f ≤ l ∧ l < a + o
    · rw [if_pos hc, if_pos hc]
      exact .inr ⟨i, (a, o), rfl, by rw [List.getElem?_eq_getElem hi, h1], rfl⟩
    · rw [if_neg hc, if_neg hc]
      exact gapI_gapL L l R o (i + 1) h2
def Keep (b : Nat) (H K : Heap) : Prop := ∀ c ob, c ≠ b → H c = some ob → K c = some ob
theorem Keep.refl {b : Nat} {H : Heap} : Keep b H H := fun _ _ _ h => h
theorem Keep.trans {b : Nat} {A B D : Heap} (h : Keep b A B) (k : Keep b B D) : Keep b A D := fun c ob hc e => k c ob hc (h c ob hc e)
theorem Keep.wk {b : Nat} {H0 A B : Heap} (h : Keep b A B) (hw : HWk H0 A) (h0 : H0 b = none) : HWk H0 B := fun c ob e => by
  have hc : c ≠ b := by rintro rfl; rw [h0] at e; cases e
  obtain ⟨o, h1, h2⟩ := hw c ob e
  exact ⟨o, h c o hc h1, h2⟩
theorem Keep.new {b d : Nat} {A B : Heap} {o : AObj} (h : Keep b A B) (hd : B d = none) : Keep b A (B.set d o) := fun c ob hc e => by
  have h1 := h c ob hc e
  have : c ≠ d := by rintro rfl; rw [h1] at hd; cases hd
  simp [Heap.set, this, h1]
theorem Keep.put {b : Nat} {A B : Heap} {o : AObj} (h : Keep b A B) : Keep b A (B.set b o) := fun c ob hc e => by
  simp [Heap.set, hc, h c ob hc e]
theorem c_skips {b3 b7 : Nat} {l f : Int} (c : Int × Int) (h3 : H b3 = some (.cells [.sc (.int .i64 l)] 2)) (h7 : H b7 = some (.cells [.sc (.int .i64 f)] 3)) (h37 : b3 ≠ b7)
    (hf : -50400 ≤ f ∧ f ≤ 50400) (hc : -50400 ≤ c.2 ∧ c.2 ≤ 50400) (ha : 0 ≤ c.1 ∧ c.1 < 13569465600) :
    ACalls Tryz.prog 147 [chAV c, .sc (.pointer (some ⟨b3, 0, none⟩)), .sc (.pointer (some ⟨b7, 0, none⟩))] H
      (fun v K => v = .sc (.bool (decide (c.1 + f ≤ l) && decide (l < c.1 + c.2))) ∧ K b3 = some (.cells [.sc (.int .i64 l)] 2) ∧ K b7 = some (.cells [.sc (.int .i64 c.2)] 3) ∧ Keep b7 H K) := by
  have w1 : IntKind.i64.wrap (c.1 + f) = c.1 + f := wrap_i64 (by omega) (by omega)
  have w2 : IntKind.i64.wrap (c.1 + c.2) = c.1 + c.2 := wrap_i64 (by omega) (by omega)
  have w3 : IntKind.i64.wrap f = f := wrap_i64 (by omega) (by omega)
  have w4 : IntKind.i64.wrap c.2 = c.2 := wrap_i64 (by omega) (by omega)
  refine ACalls.into Tryz.func147 rfl Tryz.ntmps147 Tryz.results147 (by simp) ?_
  simp -implicitDefEqProofs
  refine AAlloc.intro fun b hb => ?_
  have n3 : b3 ≠ b := by intro e; subst e; rw [h3] at hb; cases hb
  have n7 : b7 ≠ b := by intro e; subst e; rw [h7] at hb; cases hb
  have n73 := h37.symm
  by_cases c1 : c.1 + f ≤ l
  · simp -implicitDefEqProofs [h3, h7, n3, n7, w1, w2, w3, w4, c1]
    refine ⟨_, _, wk_refl _, HWk.refl _, ?_, ?_, ?_, ?_⟩
    · simp [c1]
    · simp [Heap.set, n3, n7, h37, h3]
    · simp [Heap.set]
    · exact (Keep.refl.new hb).put
  · simp -implicitDefEqProofs [h3, h7, n3, n7, w1, w2, w3, w4, c1]
    refine ⟨_, _, wk_refl _, HWk.refl _, ?_, ?_, ?_, ?_⟩
    · simp [c1]
    · simp [Heap.set, n3, n7, h37, h3]
    · simp [Heap.set]
    · exact (Keep.refl.new hb).put
set_option maxHeartbeats 1000000 in
theorem c_idxSkips {b3 b7 : Nat} {l f : Int} {L : List (Int × Int)} {t : Rg.Tok} (h3 : H b3 = some (.cells [.sc (.int .i64 l)] 2)) (h7 : H b7 = some (.cells [.sc (.int .i64 f)] 3)) (h37 : b3 ≠ b7)
    (hf : -50400 ≤ f ∧ f ≤ 50400) (hL : ∀ c ∈ L, offOk c.2 = true ∧ 0 ≤ c.1 ∧ c.1 < 13569465600) (hl : L.length ≤ 1000000) :
    ACalls Tryz.prog 148 [.sl (L.map chAV) t, .sc (.func (.func 147) #[] #[.pointer (some ⟨b3, 0, none⟩), .pointer (some ⟨b7, 0, none⟩)])] H
      (fun v K => v = .sc (.int .i64 (optIdx (gapI f L l 0))) ∧ Keep b7 H K) := by
  generalize hk : gapI f L l 0 = k
  refine ACalls.into Tryz.func148 rfl Tryz.ntmps148 Tryz.results148 (by simp) ?_
  simp -implicitDefEqProofs
  refine AGo.rounds (fun μ ρ K => ∃ (i : Nat) (f : Int), μ = L.length - i ∧ i ≤ L.length ∧ gapI f (L.drop i) l i = k ∧ (-50400 ≤ f ∧ f ≤ 50400) ∧ ρ 0 = .sl (L.map chAV) t ∧ ρ 1 = .sc (.func (.func 147) #[] #[.pointer (some ⟨b3, 0, none⟩), .pointer (some ⟨b7, 0, none⟩)]) ∧
    ρ 7 = .sc (.int .i64 (L.length : Int)) ∧ ρ 8 = .sc (.int .i64 (i : Int)) ∧ K b3 = some (.cells [.sc (.int .i64 l)] 2) ∧ K b7 = some (.cells [.sc (.int .i64 f)] 3) ∧ Keep b7 H K) ?_ (m := L.length) (HLe.refl _)
    ⟨0, f, by omega, by omega, hk, hf, by simp, by simp, by simp, by simp, h3, h7, Keep.refl⟩
  clear hk hf h3 h7
  rintro μ ρ K ih ⟨i, f, rfl, hi, hg, hf, r0, r1, r7, r8, h3, h7, hW⟩
  rcases Nat.lt_or_ge i L.length with hlt | hge
  · obtain ⟨c, hc, _⟩ := getAt hlt
    have hcL := hL c (by rw [← hc]; exact List.getElem_mem _)
    have hw1 : IntKind.i64.wrap ((i : Int) + 1) = (i : Int) + 1 := wrap_i64 (by omega) (by omega)
    rw [List.drop_eq_getElem_cons hlt, hc] at hg
    unfold gapI at hg
    simp -implicitDefEqProofs [r0, r1, r7, r8, hlt, hc]
    refine ACall.intro (c_skips c h3 h7 h37 hf (offOk_iff.1 hcL.1).2 hcL.2) fun v K' ⟨hv, g3, g7, gW⟩ => ?_
    subst hv
    by_cases hcc : c.1 + f ≤ l ∧ l < c.1 + c.2
    · rw [if_pos hcc] at hg
      subst hg
      simp -implicitDefEqProofs [hcc.1, hcc.2, optIdx]
      exact ⟨_, _, wk_refl _, HWk.refl _, by simp [optIdx], hW.trans gW⟩
    · rw [if_neg hcc] at hg
      have hcc' : (decide (c.1 + f ≤ l) && decide (l < c.1 + c.2)) = false := by
        simp only [Bool.and_eq_false_iff, decide_eq_false_iff_not]
        omega
      simp -implicitDefEqProofs [hcc', r8, hw1]
      exact AGo.again ih (m' := L.length - (i + 1)) (by omega) (HLe.refl _) ⟨i + 1, c.2, rfl, by omega, hg, (offOk_iff.1 hcL.1).2, by simp [r0], by simp [r1], by simp [r7], by simp, g3, g7, hW.trans gW⟩
  · have hn' : ¬ i < L.length := by omega
    rw [List.drop_of_length_le hge] at hg
    subst hg
    simp -implicitDefEqProofs [r7, r8, hn', gapI, optIdx]
    exact ⟨_, _, wk_refl _, HWk.refl _, by simp [optIdx, gapI], hW⟩
def okB (r : Option Int) : Bool := r.isSome
set_option maxHeartbeats 2000000 in
theorem c_zBegin (z : Zn) (t : Rg.Tok) (hz : mayZ z = true) {l : Int} (h0 : 0 ≤ l) (h1 : l < 13569465600) :
    AOk Tryz.prog 99 [zAV z t, .sc (.int .i64 l)] H (.tup [.sc (.int .i64 (optI (beginZ z l))), .sc (.bool (okB (beginZ z l)))]) H := by
  have hlen := z_len hz
  have hfo := offOk_iff.1 (may_parts hz).1
  have hin := mayL_in (may_parts hz).2.2
  have hM := fun K => c_zMoments (H := K) z t hz h0 h1
  have hgap := gapI_gapL z.l l z.l z.first 0 rfl
  unfold beginZ
  refine ACalls.into Tryz.func99 rfl Tryz.ntmps99 Tryz.results99 (by simp) ?_
  simp -implicitDefEqProofs
  refine AAlloc.intro fun b2 h2 => ?_
  simp -implicitDefEqProofs
  refine AAlloc.intro fun b3 h3 => ?_
  have n23 : b2 ≠ b3 := by intro e; subst e; simp [Heap.set] at h3
  have n32 := n23.symm
  have e3 : H b3 = none := (HLe.set_fresh h2).none h3
  simp -implicitDefEqProofs [n23, n32]
  generalize hK : Heap.set _ b3 _ = K
  have k2 : K b2 = some (.cells (zC z t) 55) := by rw [← hK]; simp [Heap.set, n23]
  have k3 : K b3 = some (.cells [.sc (.int .i64 l)] 2) := by rw [← hK]; simp [Heap.set]
  have kW : HWk H K := by rw [← hK]; exact HWk.new e3 (HWk.new h2 (HWk.refl _))
  clear hK
  refine ACall.eq (hM K) ?_
  generalize momZ z l = M
  cases M with
  | cons m M =>
    simp -implicitDefEqProofs [i64, optI, okB]
    exact kW
  | nil =>
    simp -implicitDefEqProofs [k2]
    refine AAlloc.intro fun b7 h7 => ?_
    have n27 : b2 ≠ b7 := by intro e; subst e; rw [k2] at h7; cases h7
    have n37 : b3 ≠ b7 := by intro e; subst e; rw [k3] at h7; cases h7
    simp -implicitDefEqProofs [k2, n27]
    refine ACall.intro (c_idxSkips (f := z.first) (l := l) (by simp [Heap.set, n37, k3]) (by simp [Heap.set]) n37 hfo.2 hin (by omega)) fun v K' ⟨hv, hKp⟩ => ?_
    subst hv
    have g2 : K' b2 = some (.cells (zC z t) 55) := hKp b2 _ n27 (by simp [Heap.set, n27, k2])
    have gW : HWk H K' := hKp.wk (HWk.new (kW.none h7) kW) (kW.none h7)
    rcases hgap with ⟨g1, g3⟩ | ⟨k, c, g1, g3, g4⟩
    · rw [g1, g3]
      simp -implicitDefEqProofs [optIdx, optI, okB]
      exact gW
    · rw [g1, g4]
      have hk : k < z.l.length := (List.getElem?_eq_some_iff.1 g3).1
      have hk' : z.l[k] = c := (List.getElem?_eq_some_iff.1 g3).2
      simp -implicitDefEqProofs [optIdx, optI, okB, g2, hk, hk']
      exact gW
def beginC (z : Zn) (c : Clk) : Option Int := if mayZ z = true ∧ mayC c = true then beginZ z (momI c) else none
def beginE (z : Zn) (c : Clk) : Int := if mayZ z = true ∧ mayC c = true then errI (beginZ z (momI c)) else 2
theorem c_zBeginC (z : Zn) (t : Rg.Tok) (c : Clk) : AOk Tryz.prog 36 [zAV z t, cAV c] H (.tup [.sc (.int .i64 (optI (beginC z c))), .sc (.int .i64 (beginE z c))]) H := by
  unfold beginC beginE
  refine ACalls.into Tryz.func36 rfl Tryz.ntmps36 Tryz.results36 (by simp) ?_
  simp -implicitDefEqProofs
  refine AAlloc.intro fun b2 h2 => ?_
  simp -implicitDefEqProofs
  refine AAlloc.intro fun b3 h3 => ?_
  have n23 : b2 ≠ b3 := by intro e; subst e; simp [Heap.set] at h3
  have n32 := n23.symm
  have e3 : H b3 = none := (HLe.set_fresh h2).none h3
  simp -implicitDefEqProofs [n23, n32]
  refine ACall.eq (c_sJoin c) ?_
  simp -implicitDefEqProofs [n23, n32]
  refine ACall.eq (c_zMay z t) ?_
  cases hz : mayZ z with
  | false =>
    simp -implicitDefEqProofs [optI]
    repeat (first | exact HWk.refl _ | refine HWk.new (by assumption) ?_)
  | true =>
    unfold joinE
    cases hc : mayC c with
    | false =>
      simp -implicitDefEqProofs [optI]
      repeat (first | exact HWk.refl _ | refine HWk.new (by assumption) ?_)
    | true =>
      simp -implicitDefEqProofs [n23, n32]
      refine ACall.eq (c_zBegin z t hz (momI_lt c).1 (momI_lt c).2) ?_
      generalize beginZ z (momI c) = r
      cases r with
      | none =>
        simp -implicitDefEqProofs [optI, okB, errI]
        repeat (first | exact HWk.refl _ | refine HWk.new (by assumption) ?_)
      | some a =>
        simp -implicitDefEqProofs [optI, okB, errI]
        repeat (first | exact HWk.refl _ | refine HWk.new (by assumption) ?_)
end Go.Proofs.YtmoncokklkiikaaGreatDoor
namespace Go.Proofs.YtmoncokklkiikaaGreatDoor
open Rg Go
variable {H : Heap}
theorem fire_at {x : Ex} {f : Nat} (h1 : f % 60 = 0) (h2 : fitsX x (clk f) = true) : fireB x f = true := by unfold fireB; simp [h1, h2]
theorem fire_not {x : Ex} {f : Nat} (h : f % 60 = 0 → fitsX x (clk f) = false) : fireB x f = false := by
  unfold fireB
  by_cases h1 : f % 60 = 0
  · simp [h1, h h1]
  · simp [h1]
def muO : Option Nat → Nat
  | some n => 13569465600 - n + 1
  | none => 0
def AftI (z : Zn) (x : Ex) (m : Nat) (r : Option Int) (b3 b4 : Nat) (K0 : Heap) (μ : Nat) (ρ : Nat → AV) (K : Heap) : Prop :=
  ∃ q : Option Nat, μ = muO q ∧ (∀ n, q = some n → n < 13569465600 ∧ fireB x n = true ∧ IsAft z x n m r) ∧ (q = none → r = none) ∧ ρ 11 = .sc (.int .i64 (optN q : Int)) ∧ ρ 12 = .sc (.int .i64 (errN q : Int)) ∧ ρ 2 = .sc (.int .i64 m) ∧
    ρ 3 = .sc (.pointer (some ⟨b3, 0, none⟩)) ∧ ρ 4 = .sc (.pointer (some ⟨b4, 0, none⟩)) ∧ K = K0
set_option maxHeartbeats 4000000 in
theorem c_zAfter (hG : GlobT H) (z : Zn) (t : Rg.Tok) {x : Ex} (hx : x.ok) {m : Nat} (hz : mayZ z = true) (hm : mayX x = true) (hmt : m < 13569465600) {r : Option Int} (hr : IsAft z x (m - 50400) m r) :
    AOk Tryz.prog 27 [zAV z t, exAV x, .sc (.int .i64 m)] H (.tup [.sc (.int .i64 (optI r)), .sc (.int .i64 (errI r))]) H := by
  refine ACalls.into Tryz.func27 rfl Tryz.ntmps27 Tryz.results27 (by simp) ?_
  simp -implicitDefEqProofs
  refine AAlloc.intro fun b3 h3 => ?_
  simp -implicitDefEqProofs
  refine AAlloc.intro fun b4 h4 => ?_
  have n34 : b3 ≠ b4 := by intro e; subst e; simp [Heap.set] at h4
  have n43 := n34.symm
  have e4 : H b4 = none := (HLe.set_fresh h3).none h4
  simp -implicitDefEqProofs [n34, n43]
  generalize hK : Heap.set _ b4 _ = K
  have k3 : K b3 = some (.cells (zC z t) 55) := by rw [← hK]; simp [Heap.set, n34]
  have k4 : K b4 = some (.cells (exC x) 42) := by rw [← hK]; simp [Heap.set]
  have kG : GlobT K := by rw [← hK]; exact (hG.new h3).new h4
  have kW : HWk H K := by rw [← hK]; exact HWk.new e4 (HWk.new h3 (HWk.refl _))
  clear hK
  refine ACall.eq (c_zMay z t) ?_
  rw [hz]
  simp -implicitDefEqProofs [k4]
  refine ACall.eq (c_cronMay x hx) ?_
  rw [hm]
  simp -implicitDefEqProofs
  refine ACall.eq (c_zMoment m) ?_
  rw [momOk_iff.2 ⟨by omega, by omega⟩]
  obtain ⟨f, hf⟩ : ∃ f, m - 50400 = f := ⟨_, rfl⟩
  have hw : IntKind.i64.wrap ((m : Int) - 50400) = (m : Int) - 50400 := wrap_i64 (by omega) (by omega)
  rw [hf] at hr
  have hmax : (if (m : Int) - 50400 < 0 then 0 else (m : Int) - 50400) = (f : Int) := by split <;> omega
  simp -implicitDefEqProofs [hw, hmax]
  refine ACall.eq (c_split_s (t := f) (by omega)) ?_
  have hs : (clk f).s = ((f % 60 : Nat) : Int) := rfl
  have hft := fire_at (x := x) (f := f)
  have hfn := fire_not (x := x) (f := f)
  generalize clk f = c at *
  simp -implicitDefEqProofs
  refine AAlloc.intro fun b9 h9 => ?_
  have n39 : b3 ≠ b9 := by intro e; subst e; rw [k3] at h9; cases h9
  have n49 : b4 ≠ b9 := by intro e; subst e; rw [k4] at h9; cases h9
  simp -implicitDefEqProofs [n39, n49, hs]
  generalize hK : Heap.set K b9 _ = K2
  have k3' : K2 b3 = some (.cells (zC z t) 55) := by rw [← hK]; simp [Heap.set, n39, k3]
  have k4' : K2 b4 = some (.cells (exC x) 42) := by rw [← hK]; simp [Heap.set, n49, k4]
  have k9' : K2 b9 = some (.cells [.sc (.int .i64 c.y), .sc (.int .i64 c.m), .sc (.int .i64 c.d), .sc (.int .i64 c.h), .sc (.int .i64 c.mi), .sc (.int .i64 c.s), .sc (.int .i64 c.w)] 48) := by rw [← hK]; simp [Heap.set, hs]
  have kG2 : GlobT K2 := by rw [← hK]; exact kG.new h9
  have kW2 : HWk H K2 := by rw [← hK]; exact HWk.new (kW.none h9) kW
  clear hK
  have hf60 : ((f : Int) % 60 = 0) ↔ f % 60 = 0 := by omega
  obtain ⟨q0, hq0⟩ := next_ex x f
  have three : (f % 60 = 0 ∧ fitsX x c = true) ∨ (f % 60 = 0 ∧ fitsX x c = false) ∨ ¬ f % 60 = 0 := by
    by_cases h1 : f % 60 = 0
    · cases h2 : fitsX x c with
      | true => exact .inl ⟨h1, rfl⟩
      | false => exact .inr (.inl ⟨h1, rfl⟩)
    · exact .inr (.inr h1)
  have start : ∃ q : Option Nat, (∀ n, q = some n → n < 13569465600 ∧ fireB x n = true ∧ IsAft z x n m r) ∧ (q = none → r = none) ∧ ((f % 60 = 0 ∧ fitsX x c = true) → q = some f) ∧ (¬ (f % 60 = 0 ∧ fitsX x c = true) → q = q0) := by
    by_cases h : f % 60 = 0 ∧ fitsX x c = true
    · refine ⟨some f, fun n e => ?_, fun e => (by cases e), fun _ => rfl, fun h2 => absurd h h2⟩
      cases e
      exact ⟨by omega, hft h.1 h.2, hr⟩
    · have hff : fireB x f = false := hfn fun h1 => by
        cases h2 : fitsX x c with
        | false => rfl
        | true => exact absurd ⟨h1, h2⟩ h
      obtain ⟨a1, a2⟩ := aft_from hff hr hq0
      refine ⟨q0, fun n e => ?_, a2, fun h2 => absurd h2 h, fun _ => rfl⟩
      subst e
      exact ⟨hq0.2.1, hq0.2.2.1, a1 n rfl⟩
  obtain ⟨q, hq1, hq2, hqa, hqb⟩ := start
  have hq : ((∀ n, q = some n → n < 13569465600 ∧ fireB x n = true ∧ IsAft z x n m r) ∧ (q = none → r = none)) := ⟨hq1, hq2⟩
  clear hq1 hq2 hft hfn hr
  rcases three with h | h | h
  case' inl =>
    obtain rfl := hqa h
    obtain ⟨cy, cm, cd, ch, cmi, cs, cw⟩ := c
    obtain rfl : cs = 0 := by have := hs; simp only at this; rw [this, h.1]; rfl
    simp -implicitDefEqProofs [hf60, h.1, k4', k9']
    refine ACall.eq (c_fits x hx ⟨cy, cm, cd, ch, cmi, 0, cw⟩) ?_
    simp -implicitDefEqProofs [h.2]
    refine AGo.rounds (AftI z x m r b3 b4 K2) ?_ (m := muO (some f)) (HLe.refl _) ⟨some f, rfl, hq.1, hq.2, by simp [optN], by simp [errN], by simp, by simp, by simp, rfl⟩
  case' inr.inl =>
    obtain rfl := hqb (by rw [h.2]; simp)
    obtain ⟨cy, cm, cd, ch, cmi, cs, cw⟩ := c
    obtain rfl : cs = 0 := by have := hs; simp only at this; rw [this, h.1]; rfl
    simp -implicitDefEqProofs [hf60, h.1, k4', k9']
    refine ACall.eq (c_fits x hx ⟨cy, cm, cd, ch, cmi, 0, cw⟩) ?_
    simp -implicitDefEqProofs [h.2, k4']
    refine ACall.eq (c_after kG2 hx hm (by omega) hq0) ?_
    simp -implicitDefEqProofs [outAV]
    refine AGo.rounds (AftI z x m r b3 b4 K2) ?_ (m := muO q) (HLe.refl _) ⟨q, rfl, hq.1, hq.2, by simp, by simp, by simp, by simp, by simp, rfl⟩
  case' inr.inr =>
    obtain rfl := hqb (fun h2 => h h2.1)
    simp -implicitDefEqProofs [hf60, h, k4']
    refine ACall.eq (c_after kG2 hx hm (by omega) hq0) ?_
    simp -implicitDefEqProofs [outAV]
    refine AGo.rounds (AftI z x m r b3 b4 K2) ?_ (m := muO q) (HLe.refl _) ⟨q, rfl, hq.1, hq.2, by simp, by simp, by simp, by simp, by simp, rfl⟩
  all_goals
    rintro μ ρ K' ih ⟨q, rfl, hq1, hq2, r11, r12, r2, r3, r4, rfl⟩
    cases q with
    | none =>
      obtain rfl := hq2 rfl
      simp -implicitDefEqProofs [r12, errN, optI, errI]
      exact kW2
    | some n =>
      obtain ⟨g1, g2, g3⟩ := hq1 n rfl
      simp -implicitDefEqProofs [r11, r12, errN, optN, r3, k3']
      refine ACall.eq (c_zBegin z t hz (by omega) (by omega)) ?_
      by_cases ha : ∃ a, beginZ z (n : Int) = some a ∧ (m : Int) < a
      · obtain ⟨a, e, hlt⟩ := ha
        obtain rfl : r = some a := aft_one g3 ⟨n, Nat.le_refl _, g1, g2, e, hlt, fun k h1 h2 => by omega⟩
        rw [e]
        simp -implicitDefEqProofs [optI, okB, r2, hlt, errI]
        exact kW2
      · have hno : ∀ b, beginZ z (n : Int) = some b → b ≤ m := fun b e => Int.not_lt.1 fun hlt => ha ⟨b, e, hlt⟩
        obtain ⟨q2, hn2⟩ := next_ex x n
        obtain ⟨a1, a2⟩ := aft_step hno g3 hn2
        have hlt : muO q2 < muO (some n) := by
          cases q2 with
          | none => simp [muO]
          | some n2 => have := hn2.1; have := hn2.2.1; simp only [muO]; omega
        cases e : beginZ z (n : Int) with
        | none =>
          simp -implicitDefEqProofs [optI, okB, r2, r4, r11, optN, k4']
          refine ACall.eq (c_after kG2 hx hm g1 hn2) ?_
          simp -implicitDefEqProofs [outAV]
          exact AGo.again ih (m' := muO q2) hlt (HLe.refl _) ⟨q2, rfl, fun n2 e2 => (by subst e2; exact ⟨hn2.2.1, hn2.2.2.1, a1 n2 rfl⟩), a2, by simp, by simp, by simp [r2], by simp [r3], by simp [r4], rfl⟩
        | some b =>
          have hb : ¬ (m : Int) < b := Int.not_lt.2 (hno b e)
          simp -implicitDefEqProofs [optI, okB, r2, r4, r11, optN, k4', hb]
          refine ACall.eq (c_after kG2 hx hm g1 hn2) ?_
          simp -implicitDefEqProofs [outAV]
          exact AGo.again ih (m' := muO q2) hlt (HLe.refl _) ⟨q2, rfl, fun n2 e2 => (by subst e2; exact ⟨hn2.2.1, hn2.2.2.1, a1 n2 rfl⟩), a2, by simp, by simp, by simp [r2], by simp [r3], by simp [r4], rfl⟩
end Go.Proofs.YtmoncokklkiikaaGreatDoor
namespace Go.Proofs.YtmoncokklkiikaaGreatDoor
open Rg Go Go.RowKit
structure GlobZ (H : Heap) : Prop where
  tab : GlobT H
  pow : H 1 = some (.ro (Lib.pow10Tab.map fun z => Value.int .u64 z))
theorem GlobZ.le {H K : Heap} (h : GlobZ H) (hk : HLe H K) : GlobZ K := ⟨h.tab.wk hk, hk _ _ h.pow⟩
theorem GlobZ.new {H : Heap} {b : Nat} {o : AObj} (h : GlobZ H) (hb : H b = none) : GlobZ (H.set b o) := h.le (HLe.set_fresh hb)
theorem GlobZ.set {H : Heap} {b : Nat} {o : AObj} (h : GlobZ H) (hb : ∀ us, H b ≠ some (.ro us)) : GlobZ (H.set b o) := by
  refine ⟨h.tab.set hb, ?_⟩
  unfold Heap.set
  split
  · rename_i hc; subst hc; exact absurd h.pow (hb _)
  · exact h.pow
variable {H : Heap} {W0 w : World} {C : Com}
theorem GlobZ.isTab (h : GlobZ H) (hi : Inv W0 C H w) : Lib.TabIs Tryz.prog w "internal/strconv.uint64pow10" .u64 Lib.pow10Tab := by
  obtain ⟨T, fr, hw⟩ := hi.whole h.pow (by simp [Lib.pow10Tab_length])
  unfold Lib.TabIs World.var?
  rw [show Tryz.prog.globalNamed "internal/strconv.uint64pow10" = some 1 by kernel_rfl]
  simp only [Option.bind_some]
  rw [hw]
theorem below_growZ (w : World) (n : Nat) (os : Array Obj) : Below w.heap.size w (Go.Sort.grow (w.drewN n) os) := Lib.below_grow _ w (Nat.le_refl _) n os
theorem c_formatInt (hG : GlobZ H) (n : Int) (h0 : -9223372036854775808 ≤ n) (h1 : n ≤ 9223372036854775807) : AOk Tryz.prog 116 [.sc (.int .i64 n), .sc (.int .i64 10)] H (str (Lib.itoa n)) H :=
  AOk.kit (vs := [.int .i64 n, .int .i64 10]) (r := .string ⟨(Lib.itoa n).toArray⟩) fun W0 C w hi => (Tryz.strconv_FormatInt_10 n h0 h1 w (hG.isTab hi)).mono fun e w' ⟨h1, k, os, h2⟩ => ⟨h1, h2 ▸ below_growZ w k os⟩
theorem c_itoaZ (hG : GlobZ H) (n : Int) (h0 : -9223372036854775808 ≤ n) (h1 : n ≤ 9223372036854775807) : AOk Tryz.prog 160 [.sc (.int .i64 n)] H (str (Lib.itoa n)) H :=
  AOk.kit (vs := [.int .i64 n]) (r := .string ⟨(Lib.itoa n).toArray⟩) fun W0 C w hi => (Tryz.strconv_Itoa n h0 h1 w (hG.isTab hi)).mono fun e w' ⟨h1, k, os, h2⟩ => ⟨h1, h2 ▸ below_growZ w k os⟩
theorem dec_five {k : Nat} (h : k < 10000) : Lib.decDigits (10000 + k) = 49 :: four k := by
  have e : ∀ u, ¬ u < 10 → Lib.decDigits u = Lib.decDigits (u / 10) ++ [UInt8.ofNat (48 + u % 10)] := fun u hu => by rw [Lib.decDigits, dif_neg hu]
  have e1 : Lib.decDigits ((10000 + k) / 10 / 10 / 10 / 10) = [49] := by
    rw [show (10000 + k) / 10 / 10 / 10 / 10 = 1 by omega, Lib.decDigits, dif_pos (by omega)]
    rfl
  rw [e _ (by omega), e _ (by omega), e _ (by omega), e _ (by omega), e1]
  unfold four dg8
  rw [show (10000 + k) / 10 / 10 / 10 % 10 = k / 1000 % 10 by omega, show (10000 + k) / 10 / 10 % 10 = k / 100 % 10 by omega, show (10000 + k) / 10 % 10 = k / 10 % 10 by omega, show (10000 + k) % 10 = k % 10 by omega]
  rfl
set_option maxHeartbeats 1000000 in
theorem c_written (hG : GlobZ H) {n : Int} (ho : offOk n = true) : AOk Tryz.prog 115 [.sc (.int .i64 n)] H (str (wrZ n)) H := by
  have ho' := offOk_iff.1 ho
  obtain ⟨m, hm⟩ : ∃ m, n.natAbs = m := ⟨_, rfl⟩
  obtain ⟨a, ha⟩ : ∃ x, m / 3600 = x := ⟨_, rfl⟩
  obtain ⟨b, hb⟩ : ∃ x, a * 100 = x := ⟨_, rfl⟩
  obtain ⟨c, hc⟩ : ∃ x, 10000 + b = x := ⟨_, rfl⟩
  obtain ⟨d, hd⟩ : ∃ x, m / 60 = x := ⟨_, rfl⟩
  obtain ⟨e, he⟩ : ∃ x, d % 60 = x := ⟨_, rfl⟩
  obtain ⟨f, hf⟩ : ∃ x, c + e = x := ⟨_, rfl⟩
  have w1 : IntKind.i64.wrap ((m : Int) / 3600) = (a : Int) := wdiv (b := 3600) ha (by omega)
  have w2 : IntKind.i64.wrap ((a : Int) * 100) = (b : Int) := wmul (b := 100) hb (by omega)
  have w3 : IntKind.i64.wrap (10000 + (b : Int)) = (c : Int) := wadd (a := 10000) hc (by omega)
  have w4 : IntKind.i64.wrap ((m : Int) / 60) = (d : Int) := wdiv (b := 60) hd (by omega)
  have w5 : (d : Int).tmod 60 = (e : Int) := wmod (b := 60) he
  have w6 : IntKind.i64.wrap ((c : Int) + (e : Int)) = (f : Int) := wadd hf (by omega)
  have hk : hhmm m < 10000 := by have := hhmm_lt (n := m) (by omega); omega
  have hfk : f = 10000 + hhmm m := by unfold hhmm; omega
  have hi : Lib.itoa (f : Int) = 49 :: four (hhmm m) := by rw [itoa_nat (by omega), Int.toNat_natCast, hfk, dec_five hk]
  unfold wrZ
  rw [hm]
  have h41 : (1 : Int) ≤ ((four (hhmm m)).length : Int) + 1 := by omega
  have h42 : 1 + (four (hhmm m)).length ≤ 9223372036854775807 := by simp [four]
  generalize hhmm m = q at *
  refine ACalls.into Tryz.func115 rfl Tryz.ntmps115 Tryz.results115 (by simp) ?_
  by_cases hn : n < 0
  · have w0 : IntKind.i64.wrap (-n) = (m : Int) := by rw [wrap_i64 (by omega) (by omega)]; omega
    simp -implicitDefEqProofs [hn, w0, w1, w2, w3, w4, w5, w6]
    refine ACall.eq (c_itoaZ hG f (by omega) (by omega)) ?_
    rw [hi]
    simp -implicitDefEqProofs [h41, h42]
  · obtain rfl : n = (m : Int) := by omega
    simp -implicitDefEqProofs [hn, w1, w2, w3, w4, w5, w6]
    refine ACall.eq (c_itoaZ hG f (by omega) (by omega)) ?_
    rw [hi]
    simp -implicitDefEqProofs [h41, h42]
def GrowsS (H0 : Heap) (xs : List AV) (sz : Nat) (e : TypeId) (t : Rg.Tok) (K : Heap) : Prop :=
  (t = .full ∧ K = H0) ∨ ∃ g cap, H0 g = none ∧ t = .own g cap sz e ∧ K = H0.set g (.open xs.length cap sz e)
theorem GrowsS.le {H0 K : Heap} {xs : List AV} {sz : Nat} {e : TypeId} {t : Rg.Tok} (h : GrowsS H0 xs sz e t K) : HLe H0 K := by
  rcases h with ⟨_, rfl⟩ | ⟨g, cap, h1, _, rfl⟩
  · exact HLe.refl _
  · exact (HLe.refl _).set_new h1
theorem growsS_app {P : Program} {n : Nat} {Q : Post} {ρ : Nat → AV} {k : List AItem} {full : Array Oper} {dst : Option Tmp} {r : List Oper} {T e : TypeId} {xs ys : List AV} {t : Rg.Tok} {sz by_ : Nat} {H0 K : Heap} (he : ElemOk P T e sz by_) (hg : GrowsS H0 xs sz e t K) (hl : HLe K H)
    (h0 : ys ≠ []) (hx : szs sz xs = true) (hy : szs sz ys = true) (hb : (xs.length + ys.length) * by_ ≤ 140737488355328) (hm : xs.length + ys.length ≤ maxLen)
    (h : ∀ t' K' Hn, GrowsS H0 (xs ++ ys) sz e t' K' → HLe K' Hn → AGo P n Q (.ops full r :: k) (aput n dst (.sl (xs ++ ys) t') ρ) Hn) : AApp P n Q full dst r k ρ H T e xs t ys := by
  rcases hg with ⟨rfl, rfl⟩ | hg
  · refine AApp.new he (.inr rfl) h0 hx hy hb hm fun g cap hgn => h _ (K.set g (.open (xs.length + ys.length) cap sz e)) _ (.inr ⟨g, cap, hl.none hgn, rfl, by simp⟩) hl.set_mono
  · refine AApp.grows he (.inr hg) hl h0 hx hy hb hm fun t' K' Hn hg' hl' => h t' K' Hn ?_ hl'
    rcases hg' with ⟨h1, _, _⟩ | h1
    · exact absurd (List.append_eq_nil_iff.1 h1).2 h0
    · exact .inr h1
set_option maxHeartbeats 4000000 in
theorem c_zText (hG : GlobZ H) (z : Zn) (t : Rg.Tok) : AOk Tryz.prog 46 [zAV z t] H (str (textZ z)) H := by
  refine ACalls.into Tryz.func46 rfl Tryz.ntmps46 Tryz.results46 (by simp) ?_
  simp -implicitDefEqProofs
  refine AAlloc.intro fun b1 h1 => ?_
  simp -implicitDefEqProofs
  generalize hK : Heap.set _ b1 _ = K
  have k1 : K b1 = some (.cells (zC z t) 55) := by rw [← hK]; simp [Heap.set]
  have kG : GlobZ K := by rw [← hK]; exact hG.new h1
  have kW : HLe H K := by rw [← hK]; exact HLe.set_fresh h1
  clear hK
  refine ACall.eq (c_zMay z t) ?_
  cases hz : mayZ z with
  | false =>
    have e : textZ z = [] := by unfold textZ; rw [hz]; rfl
    rw [e]
    simp -implicitDefEqProofs
    exact kW.wk
  | true =>
    obtain ⟨p1, p2, p3⟩ := may_parts hz
    have hin := mayL_in p3
    have e : textZ z = Lib.join (wordsZ z) [32] := by unfold textZ; rw [if_pos hz]
    have hlen := text_len z
    rw [e] at hlen ⊢
    simp -implicitDefEqProofs [k1]
    refine ACall.eq (c_written kG p1) ?_
    simp -implicitDefEqProofs [k1]
    have hwl : (wordsZ z).length = z.l.length + 1 := by simp [wordsZ]
    refine AGo.rounds (fun μ ρ K2 => ∃ (i : Nat) (tk : Rg.Tok) (K3 : Heap), μ = z.l.length - i ∧ i ≤ z.l.length ∧ ρ 3 = .sl (strL ((wordsZ z).take (i + 1))) tk ∧ ρ 14 = .sl (z.l.map chAV) t ∧ ρ 15 = .sc (.int .i64 (z.l.length : Int)) ∧ ρ 16 = .sc (.int .i64 (i : Int)) ∧ GrowsS K (strL ((wordsZ z).take (i + 1))) 1 9 tk K3 ∧ HLe K3 K2) ?_ (m := z.l.length) (HLe.refl _)
      ⟨0, .full, K, by omega, by omega, by simp [wordsZ], by simp, by simp, by simp, .inl ⟨rfl, rfl⟩, HLe.refl _⟩
    rintro μ ρ K2 ih ⟨i, tk, K3, rfl, hi, r3, r14, r15, r16, hg, hle⟩
    have kG2 : GlobZ K2 := kG.le (hg.le.trans hle)
    rcases Nat.lt_or_ge i z.l.length with hlt | hge
    · obtain ⟨c, hc, _⟩ := getAt hlt
      have hcz := hin c (by rw [← hc]; exact List.getElem_mem _)
      have hw1 : IntKind.i64.wrap ((i : Int) + 1) = (i : Int) + 1 := wrap_i64 (by omega) (by omega)
      have hd : (wordsZ z).take (i + 1 + 1) = (wordsZ z).take (i + 1) ++ [partZ c] := by
        rw [List.take_succ_eq_append_getElem (by omega)]
        congr 2
        simp [wordsZ, hc]
      have hxl : ((wordsZ z).take (i + 1)).length = i + 1 := by rw [List.length_take]; omega
      generalize (wordsZ z).take (i + 1) = xs at *
      simp -implicitDefEqProofs [r3, r14, r15, r16, hlt, hc]
      refine AAlloc.intro fun b5 h5 => ?_
      simp -implicitDefEqProofs [r3, r14, r15, r16]
      have kG3 : ∀ o, GlobZ (K2.set b5 o) := fun o => kG2.new h5
      refine go_draw 9 f_mixed (by decide +kernel) ?_
      simp -implicitDefEqProofs [r3]
      refine AQS.eq (c_formatInt (by apply kG3) c.1 (by omega) (by omega)) ?_
      simp -implicitDefEqProofs
      refine AQS.eq (c_written (by apply kG3) hcz.1) ?_
      have hpl := part_len hcz.2.1 hcz.2.2
      unfold partZ at hpl
      rw [List.length_append] at hpl
      have hpl' : (Lib.itoa c.1).length + (wrZ c.2).length ≤ 9223372036854775807 := by omega
      simp -implicitDefEqProofs [hpl']
      refine growsS_app el_89 hg (hle.trans (HLe.set_fresh h5)) (by simp) (by simp [szs]) (by simp [szs]) (by simp; omega) (by simp [maxLen]; omega) fun t' K' Hn hg' hl' => ?_
      simp -implicitDefEqProofs [r16, hw1]
      refine AGo.again ih (m' := z.l.length - (i + 1)) (by omega) (HLe.refl _) ⟨i + 1, t', K', rfl, by omega, by simp [hd, partZ], by simp [r14], by simp [r15], by simp, ?_, hl'⟩
      rw [hd]
      simpa [strL, partZ] using hg'
    · have hn' : ¬ i < z.l.length := by omega
      rw [List.take_of_length_le (by omega)] at r3 hg
      simp -implicitDefEqProofs [r3, r15, r16, hn']
      refine ACall.eq (c_join (wordsZ z) tk [32] (by omega) (by omega)) ?_
      simp -implicitDefEqProofs
      exact (kW.trans (hg.le.trans hle)).wk
end Go.Proofs.YtmoncokklkiikaaGreatDoor
namespace Go.Proofs.YtmoncokklkiikaaGreatDoor
open Rg Go
variable {H : Heap}
structure RowZ (sz : Nat) (e T : TypeId) (H0 : Heap) (c n : Nat) (F : Rg.Tok → List AV) (K : Heap) : Prop where
  le : HLe H0 K
  no : H0 c = none
  row : ∃ t, K c = some (.cells (F t) T) ∧ ((t = .nil ∧ n = 0) ∨ ∃ g cap, g ≠ c ∧ H0 g = none ∧ t = .own g cap sz e ∧ K g = some (.open n cap sz e))
theorem RowZ.new {sz : Nat} {e T : TypeId} {H0 K : Heap} {c n p : Nat} {F : Rg.Tok → List AV} {o : AObj} (h : RowZ sz e T H0 c n F K) (hp : K p = none) : RowZ sz e T H0 c n F (K.set p o) := by
  obtain ⟨t, h1, h2⟩ := h.row
  have hpc : c ≠ p := by rintro rfl; rw [h1] at hp; cases hp
  refine ⟨h.le.trans (HLe.set_fresh hp), h.no, t, by simp [Heap.set, hpc, h1], h2.imp id ?_⟩
  rintro ⟨g, cap, g1, g2, g3, g4⟩
  have : g ≠ p := by rintro rfl; rw [hp] at g4; cases g4
  exact ⟨g, cap, g1, g2, g3, by simp [Heap.set, this, g4]⟩
theorem RowZ.grows {sz : Nat} {e T : TypeId} {H0 K : Heap} {c : Nat} {F : Rg.Tok → List AV} {xs : List AV} (h : RowZ sz e T H0 c xs.length F K) :
    ∃ t G0 G, K c = some (.cells (F t) T) ∧ Grows G0 xs sz e t G ∧ HLe G K ∧ HLe H0 G0 ∧ G0 c = some (.cells (F t) T) ∧ ∀ p cs T', K p = some (.cells cs T') → G0 p = some (.cells cs T') := by
  obtain ⟨t, h1, ⟨rfl, hn⟩ | ⟨g, cap, h2, h3, rfl, h4⟩⟩ := h.row
  · obtain rfl := List.length_eq_zero_iff.1 hn
    exact ⟨_, K, K, h1, .zero, HLe.refl _, h.le, h1, fun _ _ _ h => h⟩
  · refine ⟨_, K.del g, (K.del g).set g (.open xs.length cap sz e), h1, .inr ⟨g, cap, by simp [Heap.del], rfl, rfl⟩, fun b ob hb => ?_, HLe.del_new h.le h3, by simp [Heap.del, Ne.symm h2, h1], fun p cs T' hp => ?_⟩
    · by_cases hbg : b = g
      · subst hbg
        simp only [Heap.set, if_true] at hb
        rw [← hb]; exact h4
      · simpa [Heap.set, Heap.del, hbg] using hb
    · have : p ≠ g := by rintro rfl; rw [h4] at hp; cases hp
      simp [Heap.del, this, hp]
theorem RowZ.stored {sz : Nat} {e T : TypeId} {H0 G0 K' Hn : Heap} {c : Nat} {xs : List AV} {F : Rg.Tok → List AV} {t' : Rg.Tok} {o : AObj} (h1 : HLe H0 G0) (h2 : H0 c = none) (h3 : G0 c = some o) (h4 : Grows G0 xs sz e t' K') (h5 : HLe K' Hn) :
    RowZ sz e T H0 c xs.length F (Hn.set c (.cells (F t') T)) := by
  have hle := (h1.trans h4.le).trans h5
  refine ⟨HLe.set_new hle h2, h2, t', by simp [Heap.set], ?_⟩
  rcases h4 with ⟨rfl, rfl, rfl⟩ | ⟨g, cap, g1, rfl, rfl⟩
  · exact .inl ⟨rfl, rfl⟩
  · have hgc : g ≠ c := by rintro rfl; rw [h3] at g1; cases g1
    exact .inr ⟨g, cap, hgc, h1.none g1, rfl, by simp [Heap.set, hgc]; exact h5 g _ (by simp [Heap.set])⟩
set_option maxHeartbeats 2000000 in
theorem c_ofZ (z : Zn) (t : Rg.Tok) (hz : z.l.length ≤ 8796093022208) : AOk Tryz.prog 28 [zAV z t] H (zAV z .no) H := by
  refine ACalls.into Tryz.func28 rfl Tryz.ntmps28 Tryz.results28 (by simp) ?_
  simp -implicitDefEqProofs
  refine AAlloc.intro fun b1 h1 => ?_
  simp -implicitDefEqProofs
  refine AAlloc.intro fun b2 h2 => ?_
  have n12 : b1 ≠ b2 := by intro e; subst e; simp [Heap.set] at h2
  have e2 : H b2 = none := (HLe.set_fresh h1).none h2
  simp -implicitDefEqProofs [n12]
  generalize hK : Heap.set _ b2 _ = K1
  have k1 : K1 b1 = some (.cells (zC z t) 55) := by rw [← hK]; simp [Heap.set, n12]
  have kW : HWk H K1 := by rw [← hK]; exact HWk.new e2 (HWk.new h1 (HWk.refl _))
  have k2 : K1 b2 = some (.cells [.sc (.int .i64 0), .sl [] .nil] 61) := by rw [← hK]; simp [Heap.set]
  clear hK
  refine AAlloc.intro fun b3 h3 => ?_
  have n13 : b1 ≠ b3 := by intro e; subst e; rw [k1] at h3; cases h3
  have n23 : b2 ≠ b3 := by intro e; subst e; rw [k2] at h3; cases h3
  simp -implicitDefEqProofs [n13, k1]
  refine AGo.rounds (fun μ ρ K => ∃ (i : Nat), μ = z.l.length - i ∧ i ≤ z.l.length ∧ ρ 2 = .sc (.pointer (some ⟨b2, 0, none⟩)) ∧ ρ 3 = .sc (.pointer (some ⟨b3, 0, none⟩)) ∧ ρ 10 = .sl (z.l.map chAV) t ∧ ρ 11 = .sc (.int .i64 (z.l.length : Int)) ∧ ρ 12 = .sc (.int .i64 (i : Int)) ∧
    RowZ 2 159 61 K1 b3 i (fun t => [.sc (.int .i64 z.first), .sl ((z.l.map chAV).take i) t]) K) ?_ (m := z.l.length) (HLe.refl _)
    ⟨0, by omega, by omega, by simp, by simp, by simp, by simp, by simp, ⟨HLe.set_fresh h3, h3, .nil, by simp [Heap.set], .inl ⟨rfl, rfl⟩⟩⟩
  rintro μ ρ K ih ⟨i, rfl, hi, r2, r3, r10, r11, r12, hR⟩
  have hxl : ((z.l.map chAV).take i).length = i := by rw [List.length_take, List.length_map]; omega
  rcases Nat.lt_or_ge i z.l.length with hlt | hge
  · obtain ⟨c, hc, _⟩ := getAt hlt
    have hw1 : IntKind.i64.wrap ((i : Int) + 1) = (i : Int) + 1 := wrap_i64 (by omega) (by omega)
    have hd : (z.l.map chAV).take (i + 1) = (z.l.map chAV).take i ++ [chAV c] := by
      rw [List.take_succ_eq_append_getElem (by simpa using hlt)]; simp [hc]
    have hsz : szs 2 ((z.l.map chAV).take i) = true := by
      simp only [szs, List.all_eq_true]
      intro a ha
      obtain ⟨c, _, rfl⟩ := List.mem_map.1 (List.mem_of_mem_take ha)
      rfl
    generalize (z.l.map chAV).take i = xs at *
    simp -implicitDefEqProofs [r10, r11, r12, hlt, hc]
    refine AAlloc.intro fun b5 h5 => ?_
    have hR5 := fun o => hR.new (o := o) h5
    have n35 : b3 ≠ b5 := by
      obtain ⟨tt, q, _⟩ := hR.row
      rintro rfl
      rw [q] at h5
      cases h5
    obtain ⟨t0, q0, _⟩ := hR.row
    simp -implicitDefEqProofs [r3, n35, q0]
    generalize hK5 : Heap.set K b5 _ = K5
    have q5 : K5 b3 = some (.cells [.sc (.int .i64 z.first), .sl xs t0] 61) := by rw [← hK5]; simp [Heap.set, n35, q0]
    have hR' : RowZ 2 159 61 K1 b3 xs.length (fun t => [.sc (.int .i64 z.first), .sl xs t]) K5 := by rw [hxl, ← hK5]; exact hR5 _
    have k5 : K5 b5 = some (.cells [.sc (.int .i64 c.1), .sc (.int .i64 c.2)] 69) := by rw [← hK5]; simp [Heap.set]
    clear hK5
    obtain ⟨tk, G0, G, g1, g2, g3, g4, g5, g6⟩ := hR'.grows
    obtain rfl : t0 = tk := by rw [q5] at g1; simpa using g1
    refine AApp.grows el_59 g2 g3 (by simp) hsz (by simp [szs]) (by simp; omega) (by simp [maxLen]; omega) fun t' K' Hn hg' hl' => ?_
    have hn3 := hl' _ _ (hg'.le _ _ g5)
    simp -implicitDefEqProofs [r3, hn3, r12, hw1]
    refine AGo.again ih (m' := z.l.length - (i + 1)) (by omega) (HLe.refl _) ⟨i + 1, rfl, by omega, by simp [r2], by simp [r3], by simp [r10], by simp [r11], by simp, ?_⟩
    have hst := RowZ.stored (T := 61) (F := fun t => [.sc (.int .i64 z.first), .sl (xs ++ [chAV c]) t]) g4 h3 g5 hg' hl'
    rw [hd]
    simpa [hxl] using hst
  · have hn' : ¬ i < z.l.length := by omega
    obtain ⟨tk, q, _⟩ := hR.row
    have q2 := hR.le _ _ k2
    rw [List.take_of_length_le (by simpa using hge)] at q
    simp -implicitDefEqProofs [r2, r3, r11, r12, hn', q, q2, n23]
    exact HWk.new e2 (kW.trans hR.le.wk)
end Go.Proofs.YtmoncokklkiikaaGreatDoor
namespace Go.Proofs.YtmoncokklkiikaaGreatDoor
open Rg Go
variable {H : Heap}
theorem c_rOffset (n : Int) : AOk Tryz.prog 100 [.sc (.int .i64 n)] H (.sc (.bool (offOk n))) H := by
  have e := tmod60 n
  unfold offOk
  refine ACalls.into Tryz.func100 rfl Tryz.ntmps100 Tryz.results100 (by simp) ?_
  by_cases h1 : n % 60 = 0
  · have h1' : n.tmod 60 = 0 := e.2 h1
    by_cases h2 : -50400 ≤ n
    · simp -implicitDefEqProofs [h1, h1', h2]
    · simp -implicitDefEqProofs [h1, h1', h2]
  · have h1' : ¬ n.tmod 60 = 0 := fun h => h1 (e.1 h)
    simp -implicitDefEqProofs [h1, h1']
def okCh (p : Option Int) (c : Int × Int) : Bool := offOk c.2 && decide (0 ≤ c.1) && decide (c.1 < 13569465600) && decide (c.1 % 60 = 0) && (match p with | none => true | some q => decide (q + 172800 ≤ c.1))
theorem mayL_okCh (p : Option Int) (c : Int × Int) (r : List (Int × Int)) : mayL p (c :: r) = (okCh p c && mayL (some c.1) r) := rfl
set_option maxHeartbeats 4000000 in
theorem c_rMay (z : Zn) (t : Rg.Tok) (hz : z.l.length ≤ 1000000) : AOk Tryz.prog 29 [zAV z t] H (.sc (.bool (mayZ z))) H := by
  refine ACalls.into Tryz.func29 rfl Tryz.ntmps29 Tryz.results29 (by simp) ?_
  simp -implicitDefEqProofs
  refine AAlloc.intro fun b1 h1 => ?_
  simp -implicitDefEqProofs
  generalize hK : Heap.set _ b1 _ = K1
  have k1 : K1 b1 = some (.cells (zC z t) 61) := by rw [← hK]; simp [Heap.set]
  have kW : HLe H K1 := by rw [← hK]; exact HLe.set_fresh h1
  clear hK
  refine ACall.eq (c_rOffset _) ?_
  have start : ∃ ok0, ok0 = (offOk z.first && decide (z.l.length ≤ 64)) ∧ mayZ z = (ok0 && mayL none z.l) := ⟨_, rfl, rfl⟩
  obtain ⟨ok0, hok0, hr⟩ := start
  rw [hr]
  generalize hrr : (ok0 && mayL none z.l) = r
  have l64 : ((z.l.length : Int) ≤ 64) ↔ z.l.length ≤ 64 := by omega
  cases hf : offOk z.first with
  | false =>
    obtain rfl : ok0 = false := by rw [hok0, hf]; rfl
    simp only [Bool.false_and] at hrr
    subst hrr
    simp -implicitDefEqProofs [k1]
    refine AGo.rounds (fun μ ρ K => ρ 1 = .sc (.pointer (some ⟨b1, 0, none⟩)) ∧ ρ 3 = .sc (.bool false) ∧ ρ 4 = .sc (.int .i64 0) ∧ K = K1) ?_ (m := 0) (HLe.refl _) ⟨by simp, by simp, by simp, rfl⟩
    rintro μ ρ K ih ⟨r1, r3, r4, rfl⟩
    by_cases hl : 0 < z.l.length
    · simp -implicitDefEqProofs [r1, r3, r4, k1, hl]
      exact kW.wk
    · simp -implicitDefEqProofs [r1, r3, r4, k1, hl]
      exact kW.wk
  | true =>
    rw [hf, Bool.true_and] at hok0
    simp -implicitDefEqProofs [k1, l64]
    refine AGo.rounds (fun μ ρ K => ∃ (i : Nat) (p : Option Int) (ok : Bool), μ = (if ok = true then z.l.length - i + 1 else 0) ∧ i ≤ z.l.length ∧ (ok = true → (mayL p (z.l.drop i) = r ∧ (i = 0 ∧ p = none ∨ ∃ (j : Nat) (d : Int × Int), i = j + 1 ∧ z.l[j]? = some d ∧ p = some d.1 ∧ 0 ≤ d.1 ∧ d.1 < 13569465600))) ∧ (ok = false → r = false) ∧
      ρ 1 = .sc (.pointer (some ⟨b1, 0, none⟩)) ∧ ρ 3 = .sc (.bool ok) ∧ ρ 4 = .sc (.int .i64 (i : Int)) ∧ K = K1) ?_ (m := if ok0 = true then z.l.length + 1 else 0) (HLe.refl _)
      ⟨0, none, ok0, rfl, by omega, fun h => ⟨by rw [← hrr, h]; rfl, .inl ⟨rfl, rfl⟩⟩, fun h => by rw [← hrr, h]; rfl, by simp, by simp [hok0], by simp, rfl⟩
    rintro μ ρ K ih ⟨i, p, ok, rfl, hi, hp, hno, r1, r3, r4, rfl⟩
    cases ok with
    | false =>
      obtain rfl := hno rfl
      by_cases hlt : i < z.l.length
      · simp -implicitDefEqProofs [r1, r3, r4, k1, hlt]
        exact kW.wk
      · simp -implicitDefEqProofs [r1, r3, r4, k1, hlt]
        exact kW.wk
    | true =>
      obtain ⟨hat, hp⟩ := hp rfl
      rcases Nat.lt_or_ge i z.l.length with hlt | hge
      · obtain ⟨c, hej, hc⟩ := getAt hlt
        have hw1 : IntKind.i64.wrap ((i : Int) + 1) = (i : Int) + 1 := wrap_i64 (by omega) (by omega)
        rw [List.drop_eq_getElem_cons hlt, hej, mayL_okCh] at hat
        simp -implicitDefEqProofs [r1, r3, r4, k1, hlt, hej]
        refine AAlloc.intro fun b5 h5 => ?_
        have n15 : b1 ≠ b5 := by intro e; subst e; rw [k1] at h5; cases h5
        simp -implicitDefEqProofs [r1, r3, r4]
        refine ACall.eq (c_rOffset _) ?_
        have hm60 := tmod60 c.1
        have five : offOk c.2 = false ∨ (offOk c.2 = true ∧ ¬ 0 ≤ c.1) ∨ (offOk c.2 = true ∧ 0 ≤ c.1 ∧ ¬ c.1 < 13569465600) ∨ (offOk c.2 = true ∧ 0 ≤ c.1 ∧ c.1 < 13569465600 ∧ ¬ c.1 % 60 = 0 ∧ ¬ c.1.tmod 60 = 0) ∨ (offOk c.2 = true ∧ 0 ≤ c.1 ∧ c.1 < 13569465600 ∧ c.1 % 60 = 0 ∧ c.1.tmod 60 = 0) := by
          rw [hm60]
          cases offOk c.2 with
          | false => exact .inl rfl
          | true => right; simp only [true_and]; omega
        rcases five with h | ⟨ho, h⟩ | ⟨ho, h0, h⟩ | ⟨ho, h0, hM, h, h'⟩ | ⟨ho, h0, hM, h, h'⟩
        · obtain rfl : r = false := by rw [← hat]; simp [okCh, h]
          by_cases hi0 : 0 < i
          · simp -implicitDefEqProofs [h, r1, r4, hw1, hi0, n15]
            exact AGo.again ih (m' := 0) (by simp) (HLe.set_fresh h5) ⟨i + 1, none, false, rfl, by omega, fun h => (by cases h), fun _ => rfl, by simp [r1], by simp, by simp, rfl⟩
          · simp -implicitDefEqProofs [h, r1, r4, hw1, hi0, n15]
            exact AGo.again ih (m' := 0) (by simp) (HLe.set_fresh h5) ⟨i + 1, none, false, rfl, by omega, fun h => (by cases h), fun _ => rfl, by simp [r1], by simp, by simp, rfl⟩
        · obtain rfl : r = false := by rw [← hat]; simp [okCh, ho, h]
          by_cases hi0 : 0 < i
          · simp -implicitDefEqProofs [ho, h, r1, r4, hw1, hi0, n15]
            exact AGo.again ih (m' := 0) (by simp) (HLe.set_fresh h5) ⟨i + 1, none, false, rfl, by omega, fun h => (by cases h), fun _ => rfl, by simp [r1], by simp, by simp, rfl⟩
          · simp -implicitDefEqProofs [ho, h, r1, r4, hw1, hi0, n15]
            exact AGo.again ih (m' := 0) (by simp) (HLe.set_fresh h5) ⟨i + 1, none, false, rfl, by omega, fun h => (by cases h), fun _ => rfl, by simp [r1], by simp, by simp, rfl⟩
        · obtain rfl : r = false := by rw [← hat]; simp [okCh, ho, h0, h]
          by_cases hi0 : 0 < i
          · simp -implicitDefEqProofs [ho, h0, h, r1, r4, hw1, hi0, n15]
            exact AGo.again ih (m' := 0) (by simp) (HLe.set_fresh h5) ⟨i + 1, none, false, rfl, by omega, fun h => (by cases h), fun _ => rfl, by simp [r1], by simp, by simp, rfl⟩
          · simp -implicitDefEqProofs [ho, h0, h, r1, r4, hw1, hi0, n15]
            exact AGo.again ih (m' := 0) (by simp) (HLe.set_fresh h5) ⟨i + 1, none, false, rfl, by omega, fun h => (by cases h), fun _ => rfl, by simp [r1], by simp, by simp, rfl⟩
        · obtain rfl : r = false := by rw [← hat]; simp [okCh, ho, h0, hM, h, h']
          by_cases hi0 : 0 < i
          · simp -implicitDefEqProofs [ho, h0, hM, h, h', r1, r4, hw1, hi0, n15]
            exact AGo.again ih (m' := 0) (by simp) (HLe.set_fresh h5) ⟨i + 1, none, false, rfl, by omega, fun h => (by cases h), fun _ => rfl, by simp [r1], by simp, by simp, rfl⟩
          · simp -implicitDefEqProofs [ho, h0, hM, h, h', r1, r4, hw1, hi0, n15]
            exact AGo.again ih (m' := 0) (by simp) (HLe.set_fresh h5) ⟨i + 1, none, false, rfl, by omega, fun h => (by cases h), fun _ => rfl, by simp [r1], by simp, by simp, rfl⟩
        · rcases hp with ⟨rfl, rfl⟩ | ⟨j, d, hij, hjd, rfl, hd0, hd1⟩
          · have hnx : mayL (some c.1) (z.l.drop (0 + 1)) = r := by rw [← hat]; simp [okCh, ho, h0, hM, h]
            have hw1' : IntKind.i64.wrap (0 + 1) = 1 := by decide
            simp -implicitDefEqProofs [ho, h0, hM, h, h', r1, r4, n15, wrap_i64]
            refine AGo.again ih (m' := z.l.length - (0 + 1) + 1) (by simp; omega) (HLe.set_fresh h5) ⟨0 + 1, some c.1, true, by simp, by omega, fun _ => ⟨hnx, .inr ⟨0, c, rfl, by rw [List.getElem?_eq_getElem hlt, hej], rfl, h0, hM⟩⟩, fun h => (by cases h), by simp [r1], by simp, by simp, rfl⟩
          · have hjl : j < z.l.length := by omega
            have hjd' : z.l[j] = d := by rw [List.getElem?_eq_getElem hjl] at hjd; exact Option.some.inj hjd
            have hw2 : IntKind.i64.wrap ((i : Int) - 1) = (j : Int) := by rw [wrap_i64 (by omega) (by omega)]; omega
            have hw3 : IntKind.i64.wrap (d.1 + 172800) = d.1 + 172800 := wrap_i64 (by omega) (by omega)
            have hi0 : 0 < i := by omega
            simp -implicitDefEqProofs [ho, h0, hM, h, h', r1, r4, n15, hi0]
            refine go_draw 12 f_mixed (by decide +kernel) ?_
            simp -implicitDefEqProofs [r1, r4, n15, k1, hw2, hjl, hjd', hw3, hw1]
            by_cases hap : d.1 + 172800 ≤ c.1
            · have hnx : mayL (some c.1) (z.l.drop (i + 1)) = r := by rw [← hat]; simp [okCh, ho, h0, hM, h, hap]
              refine AGo.again ih (m' := z.l.length - (i + 1) + 1) (by simp; omega) (HLe.set_fresh h5) ⟨i + 1, some c.1, true, by simp, by omega, fun _ => ⟨hnx, .inr ⟨i, c, rfl, by rw [List.getElem?_eq_getElem hlt, hej], rfl, h0, hM⟩⟩, fun h => (by cases h), by simp [r1], by simp [hap], by simp, rfl⟩
            · obtain rfl : r = false := by rw [← hat]; simp [okCh, hap]
              exact AGo.again ih (m' := 0) (by simp) (HLe.set_fresh h5) ⟨i + 1, none, false, rfl, by omega, fun h => (by cases h), fun _ => rfl, by simp [r1], by simp [hap], by simp, rfl⟩
      · have hn : ¬ i < z.l.length := by omega
        rw [List.drop_of_length_le hge] at hat
        simp only [mayL] at hat
        subst hat
        simp -implicitDefEqProofs [r1, r3, r4, k1, hn]
        exact kW.wk
end Go.Proofs.YtmoncokklkiikaaGreatDoor
namespace Go.Proofs.YtmoncokklkiikaaGreatDoor
open Rg Go
variable {H : Heap}
end Go.Proofs.YtmoncokklkiikaaGreatDoor
