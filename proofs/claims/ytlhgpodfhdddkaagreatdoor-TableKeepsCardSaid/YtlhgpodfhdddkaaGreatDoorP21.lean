/- The numbers of a row as an iterator; numbers told twice. The order of a row of nodes. The document's answer about graphs: May, Users; a row of jobs as a row of nodes. What is wrong with a row of nodes; who waits for one. As much of the order of a row of nodes as there is. What is wrong with a row of nodes; who waits for one. -/
import Derived.Test.YtlhgpodfhdddkaaGreatDoorP20
import Derived.Test.YtlhgpodfhdddkaaGreatDoorP16
import Derived.Test.YtlhgpodfhdddkaaGreatDoorP15
set_option linter.unusedSimpArgs false
set_option linter.unusedVariables false
set_option linter.unnecessarySimpa false
namespace Go.Proofs.YtlhgpodfhdddkaaGreatDoor
open Rg Go Go.RowKit
variable {H : Heap}
theorem c_values (l : List Nat) (t : Rg.Tok) : ACalls Tryz.prog 64 [.sl (nuK l) t] H (fun v K => ∃ b, v = .sc (.func (.func 78) #[] #[.pointer (some ⟨b, 0, none⟩)]) ∧ HLe H K ∧ K b = some (.cells [.sl (nuK l) t] 31)) := by
  refine ACalls.into Tryz.func64 rfl Tryz.ntmps64 Tryz.results64 (by simp) ?_
  simp -implicitDefEqProofs [AV.cells]
  refine AAlloc.intro fun b hb => ?_
  simp -implicitDefEqProofs
  exact ⟨_, _, wk_refl _, HWk.refl _, b, rfl, HLe.set_fresh hb, by simp [Heap.set]⟩
theorem iter_values {b1 : Nat} {T : TypeId} {l : List Nat} {t : Rg.Tok} (hl : l.length ≤ 1000000) (k1 : H b1 = some (.cells [.sl (nuK l) t] T)) :
    IterU 78 [.sc (.pointer (some ⟨b1, 0, none⟩))] l.length H (fun ks => ks = l) := by
  refine ⟨by simp, ?_⟩
  intro H' ly J Jx hle hJ hL hS hY h0
  have k1' := hle _ _ k1
  generalize hR : (fun (_ : AV) (K : Heap) => (∃ ks : List Nat, ks = l ∧ J ks K) ∨ Jx K) = R
  refine ACalls.into Tryz.func78 rfl Tryz.ntmps78 Tryz.results78 (by simp) ?_
  simp -implicitDefEqProofs [k1']
  refine AGo.rounds (fun m ρ K => ∃ i : Nat, m = l.length - i ∧ i ≤ l.length ∧ ρ 0 = .sc (.func (.yield ly) #[] #[]) ∧ ρ 5 = .sl (nuK l) t ∧ ρ 6 = .sc (.int .i64 (l.length : Int)) ∧ ρ 7 = .sc (.int .i64 (i : Int)) ∧ J (l.take i) K) ?_ (m := l.length) (HLe.refl _)
    ⟨0, rfl, by omega, by simp, by simp, by simp, by simp, by simpa using h0⟩
  rintro m ρ K ih ⟨i, rfl, hi, r0, r5, r6, r7, hJK⟩
  by_cases hlt : i < l.length
  · have hlt' : (i : Int) < (l.length : Int) := by omega
    obtain ⟨y, hyj, hy⟩ := getAt hlt
    have w1 : IntKind.i64.wrap ((i : Int) + 1) = ((i + 1 : Nat) : Int) := by rw [wrap_i64 (by omega) (by omega)]; omega
    have ht : l.take (i + 1) = l.take i ++ [y] := by rw [List.take_add_one, hy]; rfl
    simp -implicitDefEqProofs [r0, r5, r6, r7, hlt, hlt', hyj]
    refine ACall.intro (hY _ _ y (by rw [List.length_take]; omega) hJK) fun v K4 hv => ?_
    obtain ⟨_, hv⟩ := hv
    rcases hv with ⟨rfl, hJ4⟩ | ⟨rfl, hJx⟩
    · simp -implicitDefEqProofs [r7, w1]
      exact AGo.again ih (m' := l.length - (i + 1)) (by omega) (HLe.refl _) ⟨i + 1, rfl, by omega, by simp [r0], by simp [r5], by simp [r6], by simp, by rw [ht]; exact hJ4⟩
    · simp -implicitDefEqProofs
      subst hR
      exact AFin.intro _ _ (wk_refl _) (HWk.refl _) (.inr hJx)
  · have hlt' : ¬ (i : Int) < (l.length : Int) := by omega
    rw [List.take_of_length_le (by omega)] at hJK
    simp -implicitDefEqProofs [r0, r5, r6, r7, hlt, hlt']
    subst hR
    exact AFin.intro _ _ (wk_refl _) (HWk.refl _) (.inl ⟨_, rfl, hJK⟩)
theorem c_compactNil : AOk Tryz.prog 59 [.sc (.slice none 0 0)] H (.sc (.slice none 0 0)) H := by
  refine ACalls.into Tryz.func59 rfl Tryz.ntmps59 Tryz.results59 (by simp) ?_
  simp -implicitDefEqProofs
set_option maxHeartbeats 4000000 in
theorem c_compact {b n cap : Nat} {T : TypeId} {rest : List AV} {d : Array Nat} (hn : d.size = n) (hl : n ≤ 1000000) (hc : n ≤ cap) (h : H b = some (rowC T d rest)) :
    ACalls Tryz.prog 59 [slV b n cap] H (fun v K => ∃ (k : Nat) (cs : List AV), v = slV b k cap ∧ k ≤ n ∧ (0 < n → 0 < k) ∧ (k < n ↔ ∃ i : Nat, i + 1 < n ∧ d[i]! = d[i + 1]!) ∧ K = H.set b (.cells cs T)) := by
  generalize hR : (fun (v : AV) (K : Heap) => ∃ (k : Nat) (cs : List AV), v = slV b k cap ∧ k ≤ n ∧ (0 < n → 0 < k) ∧ (k < n ↔ ∃ i : Nat, i + 1 < n ∧ d[i]! = d[i + 1]!) ∧ K = H.set b (.cells cs T)) = R
  have hT : Tryz.prog.underlying 31 = some (.slice 28) := by kernel_rfl
  have htz : tzero Tryz.prog 28 = some (.int .u64 0) := by kernel_rfl
  refine ACalls.into Tryz.func59 rfl Tryz.ntmps59 Tryz.results59 (by simp) ?_
  by_cases h2 : n < 2
  · have h2' : (n : Int) < 2 := by omega
    simp -implicitDefEqProofs [h2']
    subst hR
    exact AFin.intro _ _ (wk_refl _) (HWk.refl _) ⟨n, _, rfl, Nat.le_refl _, id, ⟨fun h => by omega, fun ⟨i, h, _⟩ => by omega⟩, (set_same h).symm⟩
  have h2' : ¬ (n : Int) < 2 := by omega
  simp -implicitDefEqProofs [h2']
  refine AGo.rounds (fun m ρ K => ∃ k : Nat, m = n - k ∧ 1 ≤ k ∧ k ≤ n ∧ (∀ i : Nat, i + 1 < k → d[i]! ≠ d[i + 1]!) ∧ ρ 0 = slV b n cap ∧ ρ 3 = .sc (.int .i64 (k : Int)) ∧ K = H) ?_ (m := n - 1) (HLe.refl _)
    ⟨1, rfl, by omega, by omega, fun i hi => by omega, by simp, by simp, rfl⟩
  rintro m ρ K ih ⟨k, rfl, hk1, hk, hno, r0, r3, rfl⟩
  by_cases hlt : k < n
  · have hlt' : (k : Int) < (n : Int) := by omega
    obtain ⟨q, rfl⟩ : ∃ q, k = q + 1 := ⟨k - 1, by omega⟩
    have g1 := row_get (rest := rest) (show q + 1 < d.size by omega)
    have g0 := row_get (rest := rest) (show q < d.size by omega)
    have w0 : IntKind.i64.wrap (q : Int) = (q : Int) := wrap_i64 (by omega) (by omega)
    have w2 : IntKind.i64.wrap ((q : Int) + 1 + 1) = ((q + 1 + 1 : Nat) : Int) := by rw [wrap_i64 (by omega) (by omega)]; omega
    have tq : ((q : Int) + 1).toNat = q + 1 := by omega
    have nq : ¬ (q : Int) + 1 < 0 := by omega
    have hqn : q < n := by omega
    have hlt'' : (q : Int) + 1 < (n : Int) := by omega
    obtain ⟨x1, hx1⟩ : ∃ x, d[q + 1]! = x := ⟨_, rfl⟩
    obtain ⟨x0, hx0⟩ : ∃ x, d[q]! = x := ⟨_, rfl⟩
    rw [hx1] at g1
    rw [hx0] at g0
    simp -implicitDefEqProofs [r0, r3, hlt, hlt'']
    refine go_draw 10 f_mixed (by decide +kernel) ?_
    by_cases he : x1 = x0
    · have he' : (x1 : Int) = (x0 : Int) := by omega
      simp -implicitDefEqProofs [r0, r3, w0, tq, nq, h, rd_row, g1, g0, hlt, hlt'', hqn, he']
      have hfr := c_sliceFrom (H := K) (k := .i64) (T := 31) (sz := 1) hT (by kernel_rfl) (g := b) (o := 0) (len := n) (cap := cap) (lo := q + 1) (by omega) hc
      have hoff : (if cap = q + 1 then 0 else 0 + (q + 1) * 1) = q + 1 := by rw [if_neg (by omega), Nat.zero_add, Nat.mul_one]
      rw [hoff] at hfr
      obtain ⟨p, hp⟩ : ∃ p, n - (q + 1) = p := ⟨_, rfl⟩
      obtain ⟨pc, hpc⟩ : ∃ p, cap - (q + 1) = p := ⟨_, rfl⟩
      rw [hp, hpc] at hfr
      refine ACall.eq hfr ?_
      simp -implicitDefEqProofs
      clear ih hno g1 g0 he' hfr hoff
      refine AGo.rounds (fun m ρ K' => ∃ (j k' : Nat) (d' : Array Nat), m = p - j ∧ 1 ≤ j ∧ j ≤ p ∧ q + 1 ≤ k' ∧ k' < q + 1 + j ∧ d'.size = n ∧ ρ 0 = slV b n cap ∧ ρ 3 = .sc (.int .i64 (k' : Int)) ∧ ρ 4 = .sc (.slice (some ⟨b, q + 1, none⟩) p pc) ∧ ρ 5 = .sc (.int .i64 (j : Int)) ∧ K' = K.set b (rowC T d' rest)) ?_ (m := p - 1) (HLe.refl _)
        ⟨1, q + 1, d, rfl, by omega, by omega, by omega, by omega, hn, by simp [r0], by simp [r3], by simp, by simp, (set_same h).symm⟩
      clear r0 r3
      rintro m ρ K' ih ⟨j, k', d', rfl, hj1, hj, hk1, hk2, hdn, r0, r3, r4, r5, rfl⟩
      by_cases hjt : j < p
      · obtain ⟨r, rfl⟩ : ∃ r, j = r + 1 := ⟨j - 1, by omega⟩
        have g1 := row_get (rest := rest) (show q + 1 + (r + 1) < d'.size by omega)
        have g0 := row_get (rest := rest) (show q + 1 + r < d'.size by omega)
        have w0 : IntKind.i64.wrap (r : Int) = (r : Int) := wrap_i64 (by omega) (by omega)
        have w2 : IntKind.i64.wrap ((r : Int) + 1 + 1) = ((r + 1 + 1 : Nat) : Int) := by rw [wrap_i64 (by omega) (by omega)]; omega
        have w3 : IntKind.i64.wrap ((k' : Int) + 1) = ((k' + 1 : Nat) : Int) := by rw [wrap_i64 (by omega) (by omega)]; omega
        have tr : ((r : Int) + 1).toNat = r + 1 := by omega
        have nr : ¬ (r : Int) + 1 < 0 := by omega
        have hjt'' : (r : Int) + 1 < (p : Int) := by omega
        have hrp : r < p := by omega
        have hkn : k' < n := by omega
        obtain ⟨y1, hy1⟩ : ∃ x, d'[q + 1 + (r + 1)]! = x := ⟨_, rfl⟩
        obtain ⟨y0, hy0⟩ : ∃ x, d'[q + 1 + r]! = x := ⟨_, rfl⟩
        rw [hy1] at g1
        rw [hy0] at g0
        simp -implicitDefEqProofs [r0, r3, r4, r5, hjt'']
        refine go_draw 10 f_mixed (by decide +kernel) ?_
        by_cases hy : y1 = y0
        · have hy' : (y1 : Int) = (y0 : Int) := by omega
          simp -implicitDefEqProofs [r0, r3, r4, r5, w0, tr, nr, rd_row, g1, g0, hjt, hjt'', hrp, hy', w2]
          exact AGo.again ih (m' := p - (r + 1 + 1)) (by omega) (HLe.refl _) ⟨r + 1 + 1, k', d', rfl, by omega, by omega, by omega, by omega, hdn, by simp [r0], by simp [r3], by simp [r4], by simp, rfl⟩
        · have hy' : ¬ (y1 : Int) = (y0 : Int) := by omega
          have rs : (d'.toList.map uAV ++ rest).set k' (uAV y1) = (d'.setIfInBounds k' y1).toList.map uAV ++ rest := row_set (by omega)
          simp -implicitDefEqProofs [r0, r3, r4, r5, w0, tr, nr, rd_row, g1, g0, hjt, hjt'', hrp, hy', w2, w3, hkn]
          have hks : k' + 1 ≤ d'.size + rest.length := by omega
          simp -implicitDefEqProofs [st_row, hks]
          rw [rs, ← st_row]
          simp -implicitDefEqProofs [r3, w3, r5, w2]
          exact AGo.again ih (m' := p - (r + 1 + 1)) (by omega) (HLe.refl _) ⟨r + 1 + 1, k' + 1, d'.setIfInBounds k' y1, rfl, by omega, by omega, by omega, by omega, by simpa using hdn, by simp [r0], by simp, by simp [r4], by simp, rfl⟩
      · have hjp : j = p := by omega
        subst hjp
        have hlt' : ¬ (j : Int) < (j : Int) := by omega
        simp -implicitDefEqProofs [r0, r3, r4, r5]
        have hfr := fun K => c_sliceFrom (H := K) (k := .i64) (T := 31) (sz := 1) hT (by kernel_rfl) (g := b) (o := 0) (len := n) (cap := cap) (lo := k') (by omega) hc
        have hoff : (if cap = k' then 0 else 0 + k' * 1) = k' := by rw [if_neg (by omega), Nat.zero_add, Nat.mul_one]
        rw [hoff] at hfr
        have kg : (K.set b (rowC T d' rest)) b = some (.cells (d'.toList.map uAV ++ rest) T) := by simp [Heap.set, rowC]
        have hcl := c_clearBare (P := Tryz.prog) (n := n - k') (c := cap - k') (o := k') (sz := 1) hT htz (fun q hq => by simp [Value.cells] at hq; subst hq; rfl) rfl (by omega) kg (by simp; omega)
        have hto := fun K => c_sliceTo (H := K) (k := .i64) (T := 31) (sz := 1) hT (by kernel_rfl) (g := b) (o := 0) (len := n) (cap := cap) (hi := k') (by omega)
        refine ACall.eq (hfr _) ?_
        simp -implicitDefEqProofs
        refine ACall.eq hcl ?_
        simp -implicitDefEqProofs [r0, r3]
        refine ACall.eq (hto _) ?_
        simp -implicitDefEqProofs
        subst hR
        exact AFin.intro _ _ (wk_refl _) (HWk.refl _) ⟨k', _, rfl, by omega, fun _ => by omega, ⟨fun _ => ⟨q, by omega, by rw [hx0, hx1, he]⟩, fun _ => by omega⟩, rfl⟩
    · have he' : ¬ (x1 : Int) = (x0 : Int) := by omega
      simp -implicitDefEqProofs [r0, r3, w0, w2, tq, nq, h, rd_row, g1, g0, hlt, hlt'', hqn, he']
      exact AGo.again ih (m' := n - (q + 1 + 1)) (by omega) (HLe.refl _) ⟨q + 1 + 1, rfl, by omega, by omega, fun i hi => by
        by_cases hiq : i = q
        · subst hiq; rw [hx0, hx1]; exact fun e => he e.symm
        · exact hno i (by omega), by simp [r0], by simp, rfl⟩
  · have hlt' : ¬ (k : Int) < (n : Int) := by omega
    simp -implicitDefEqProofs [r0, r3, hlt, hlt']
    subst hR
    exact AFin.intro _ _ (wk_refl _) (HWk.refl _) ⟨n, _, rfl, Nat.le_refl _, id, ⟨fun h => by omega, fun ⟨i, h, e⟩ => absurd e (hno i (by omega))⟩, (set_same h).symm⟩
end Go.Proofs.YtlhgpodfhdddkaaGreatDoor
namespace Go.Proofs.YtlhgpodfhdddkaaGreatDoor
open Rg Go Go.RowKit
variable {H : Heap}
theorem st_lookup {P : Program} {T : TypeId} {x i : Operand} {ok : Bool} {ev : Operand → AV} : astepV P (.lookup T x i ok) ev H = .call P.funcs.size (pa (if ok then 2 else 1) T [ev x, ev i]) := rfl
theorem st_update {P : Program} {T : TypeId} {m k x : Operand} {ev : Operand → AV} : astepV P (.mapUpdate T m k x) ev H = .call P.funcs.size (pa 3 T [ev m, ev k, ev x]) := rfl
theorem st_make {P : Program} {T : TypeId} {ev : Operand → AV} : astepV P (.makeMap T none) ev H = .call P.funcs.size (pa 4 T []) := rfl
theorem nodup_idx {l : List Nat} (h : l.Nodup) {i j a : Nat} (hi : l[i]? = some a) (hj : l[j]? = some a) : i = j := by
  obtain ⟨h1, e1⟩ := List.getElem?_eq_some_iff.1 hi
  obtain ⟨h2, e2⟩ := List.getElem?_eq_some_iff.1 hj
  have hp := List.pairwise_iff_getElem.1 h
  rcases Nat.lt_trichotomy i j with hlt | e | hlt
  · exact absurd (e1.trans e2.symm) (hp i j h1 h2 hlt)
  · exact e
  · exact absurd (e2.trans e1.symm) (hp j i h2 h1 hlt)
theorem ty_of {P : Program} {T : TypeId} (h : (P.underlying T).isSome = true) : ∃ d, P.underlying T = some d := Option.isSome_iff_exists.1 h
theorem aeqv_n (k x : Nat) : aeqv Tryz.prog 5 28 (uAV k) (uAV x) = some (decide (k = x)) := by
  have e : decide (k = x) = decide ((k : Int) = (x : Int)) := by
    by_cases h : k = x
    · subst h; simp
    · have : ¬ (k : Int) = (x : Int) := by omega
      simp [h, this]
  rw [e]
  unfold aeqv
  simp [tkd_28]
  rfl
theorem acheck_n (k : Nat) : acheck Tryz.prog 3 28 (uAV k) = true := by kernel_rfl
theorem hit_me {L : List ME} (hk : (L.map fun e => e.1).Nodup) {i : Nat} {e : ME} (he : L[i]? = some e) : afind Tryz.prog 28 (uAV e.1) (L.map meAV) 0 = some (some (i, e.2.1)) := by
  have := afind_hit (P := Tryz.prog) (kt := 28) (k := uAV e.1) (fun p : ME => uAV p.1) (fun p => p.2.1) (fun p => p.2.2) (fun p => decide (e.1 = p.1)) L 0 i e (fun p _ => aeqv_n e.1 p.1) he (by simp) fun j p hj hp => by
    simp only [decide_eq_false_iff_not]
    intro h
    have h1 : (L.map fun e => e.1)[i]? = some e.1 := by rw [List.getElem?_map, he]; rfl
    have h2 : (L.map fun e => e.1)[j]? = some e.1 := by rw [List.getElem?_map, hp, h]; rfl
    have := nodup_idx hk h1 h2
    omega
  rw [Nat.zero_add] at this
  exact this
theorem miss_me {L : List ME} {k : Nat} (h : ∀ e ∈ L, e.1 ≠ k) : afind Tryz.prog 28 (uAV k) (L.map meAV) 0 = some none :=
  afind_miss (P := Tryz.prog) (kt := 28) (k := uAV k) (fun p : ME => uAV p.1) (fun p => p.2.1) (fun p => p.2.2) (fun p => decide (k = p.1)) L 0 (fun p _ => aeqv_n k p.1) fun p hp => by
    simp only [decide_eq_false_iff_not]
    exact fun e => h p hp e.symm
theorem c_order1 (out : List Nat) (t : Rg.Tok) (x b6 : Nat) (hl : out.length ≤ 1000000) (k6 : H b6 = some (.cells [.sl (nuK out) t] 31)) :
    AOk Tryz.prog 68 [uAV x, .sc (.pointer (some ⟨b6, 0, none⟩))] H (.sc (.bool (decide (x ∉ out)))) H := by
  refine ACalls.into Tryz.func68 rfl Tryz.ntmps68 Tryz.results68 (by simp) ?_
  simp -implicitDefEqProofs [k6]
  refine ACall.eq (c_containsU out t x hl) ?_
  by_cases h : x ∈ out
  · simp -implicitDefEqProofs [h]
  · simp -implicitDefEqProofs [h]
theorem c_indexF (l out : List Nat) (tl t : Rg.Tok) (b6 : Nat) (hll : l.length ≤ 1000000) (hl : out.length ≤ 1000000) (k6 : H b6 = some (.cells [.sl (nuK out) t] 31)) :
    ACalls Tryz.prog 80 [.sl (nuK l) tl, .sc (.func (.func 68) #[] #[.pointer (some ⟨b6, 0, none⟩)])] H (fun v K => ∃ i : Int, v = .sc (.int .i64 i) ∧ (0 ≤ i ↔ ∃ d ∈ l, d ∉ out) ∧ K = H) := by
  generalize hR : (fun (v : AV) (K : Heap) => ∃ i : Int, v = .sc (.int .i64 i) ∧ (0 ≤ i ↔ ∃ d ∈ l, d ∉ out) ∧ K = H) = R
  refine ACalls.into Tryz.func80 rfl Tryz.ntmps80 Tryz.results80 (by simp) ?_
  simp -implicitDefEqProofs
  refine AGo.rounds (fun m ρ K => ∃ i : Nat, m = l.length - i ∧ i ≤ l.length ∧ (∀ y ∈ l.take i, y ∈ out) ∧ ρ 0 = .sl (nuK l) tl ∧ ρ 1 = .sc (.func (.func 68) #[] #[.pointer (some ⟨b6, 0, none⟩)]) ∧ ρ 7 = .sc (.int .i64 (l.length : Int)) ∧ ρ 8 = .sc (.int .i64 (i : Int)) ∧ K = H) ?_ (m := l.length) (HLe.refl H)
    ⟨0, rfl, by omega, by simp, by simp, by simp, by simp, by simp, rfl⟩
  rintro m ρ K ih ⟨i, rfl, hi, hno, r0, r1, r7, r8, rfl⟩
  by_cases hlt : i < l.length
  · have hlt' : (i : Int) < (l.length : Int) := by omega
    obtain ⟨y, hyj, hy⟩ := getAt hlt
    have w1 : IntKind.i64.wrap ((i : Int) + 1) = ((i + 1 : Nat) : Int) := by rw [wrap_i64 (by omega) (by omega)]; omega
    simp -implicitDefEqProofs [r0, r1, r7, r8, hlt, hlt', hyj]
    refine ACall.eq (c_order1 out t y b6 hl k6) ?_
    by_cases h : y ∈ out
    · simp -implicitDefEqProofs [h, r8, w1]
      exact AGo.again ih (m' := l.length - (i + 1)) (by omega) (HLe.refl _) ⟨i + 1, rfl, by omega, fun z hz => by
        rw [List.take_add_one, hy] at hz
        rcases List.mem_append.1 hz with hz | hz
        · exact hno z hz
        · simp at hz; rw [hz]; exact h, by simp [r0], by simp [r1], by simp [r7], by simp, rfl⟩
    · simp -implicitDefEqProofs [h]
      subst hR
      exact AFin.intro _ _ (wk_refl _) (HWk.refl _) ⟨i, rfl, ⟨fun _ => ⟨y, List.mem_of_getElem? hy, h⟩, fun _ => by omega⟩, rfl⟩
  · have hlt' : ¬ (i : Int) < (l.length : Int) := by omega
    rw [List.take_of_length_le (by omega)] at hno
    simp -implicitDefEqProofs [r0, r1, r7, r8, hlt, hlt']
    subst hR
    exact AFin.intro _ _ (wk_refl _) (HWk.refl _) ⟨-1, rfl, ⟨fun h => by omega, fun ⟨d, h1, h2⟩ => absurd (hno d h1) h2⟩, rfl⟩
theorem c_containsF (l out : List Nat) (tl t : Rg.Tok) (b6 : Nat) (hll : l.length ≤ 1000000) (hl : out.length ≤ 1000000) (k6 : H b6 = some (.cells [.sl (nuK out) t] 31)) :
    ACalls Tryz.prog 67 [.sl (nuK l) tl, .sc (.func (.func 68) #[] #[.pointer (some ⟨b6, 0, none⟩)])] H (fun v K => ∃ r : Bool, v = .sc (.bool r) ∧ (r = true ↔ ∃ d ∈ l, d ∉ out) ∧ K = H) := by
  generalize hR : (fun (v : AV) (K : Heap) => ∃ r : Bool, v = .sc (.bool r) ∧ (r = true ↔ ∃ d ∈ l, d ∉ out) ∧ K = H) = R
  refine ACalls.into Tryz.func67 rfl Tryz.ntmps67 Tryz.results67 (by simp) ?_
  simp -implicitDefEqProofs
  refine ACall.intro (c_indexF l out tl t b6 hll hl k6) fun v K hv => ?_
  obtain ⟨i, rfl, hi, rfl⟩ := hv
  simp -implicitDefEqProofs
  subst hR
  exact AFin.intro _ _ (wk_refl _) (HWk.refl _) ⟨decide (0 ≤ i), rfl, by simpa using hi, rfl⟩
structure OrdOk (l : List Nd) (out : List Nat) : Prop where
  nd : out.Nodup
  sub : ∀ a ∈ out, a ∈ idsN l
  ord : ∀ (i a : Nat), out[i]? = some a → ∃ ds, (a, ds) ∈ l ∧ ∀ d ∈ ds, d ∈ out.take i
theorem OrdOk.app {l : List Nd} {out : List Nat} (h : OrdOk l out) {y : Nd} (hy : y ∈ l) (hn : y.1 ∉ out) (hd : ∀ d ∈ y.2, d ∈ out) : OrdOk l (out ++ [y.1]) := by
  refine ⟨?_, fun a ha => ?_, fun i a ha => ?_⟩
  · rw [List.nodup_append]
    exact ⟨h.nd, by simp, fun p hp q hq => by rw [List.mem_singleton.1 hq]; rintro rfl; exact hn hp⟩
  · rcases List.mem_append.1 ha with ha | ha
    · exact h.sub a ha
    · rw [List.mem_singleton.1 ha]; exact List.mem_map_of_mem hy
  · by_cases hi : i < out.length
    · rw [List.getElem?_append_left hi] at ha
      obtain ⟨ds, h1, h2⟩ := h.ord i a ha
      refine ⟨ds, h1, fun d hd' => ?_⟩
      rw [List.take_append_of_le_length (by omega)]
      exact h2 d hd'
    · rw [List.getElem?_append_right (by omega)] at ha
      have hi0 : i - out.length = 0 := by
        have := (List.getElem?_eq_some_iff.1 ha).1
        simp at this
        omega
      rw [hi0] at ha
      simp at ha
      subst ha
      have : i = out.length := by omega
      subst this
      exact ⟨y.2, hy, fun d hd' => by rw [List.take_left']; exact hd d hd'; rfl⟩
theorem ord_circ {l : List Nd} {out : List Nat} (h : OrdOk l out) (hn : (idsN l).Nodup) (hd : ¬ noneN l) (hs : ∀ n ∈ l, n.1 ∉ out → ∃ d ∈ n.2, d ∉ out) : out.length < l.length ↔ Circ l := by
  constructor
  · intro hlt
    obtain ⟨S, hS⟩ : ∃ S, (idsN l).filter (fun a => decide (a ∉ out)) = S := ⟨_, rfl⟩
    have hmem : ∀ a, a ∈ S ↔ a ∈ idsN l ∧ a ∉ out := fun a => by rw [← hS, List.mem_filter, decide_eq_true_eq]
    have hne : S ≠ [] := fun e => by
      have : ∀ a ∈ idsN l, a ∈ out := fun a ha => Classical.byContradiction fun h2 => by
        have := (hmem a).2 ⟨ha, h2⟩
        rw [e] at this
        cases this
      have := nodup_len _ _ hn this
      rw [ids_len] at this
      omega
    obtain ⟨a, ha, hc⟩ := circle_of S.length S (Waits l) (Nat.le_refl _) hne fun a ha => by
      obtain ⟨h1, h2⟩ := (hmem a).1 ha
      obtain ⟨n, hnl, rfl⟩ := List.mem_map.1 h1
      obtain ⟨d, hd1, hd2⟩ := hs n hnl h2
      refine ⟨d, (hmem d).2 ⟨Classical.byContradiction fun h3 => hd ⟨n, hnl, d, hd1, h3⟩, hd2⟩, n.2, hnl, hd1⟩
    exact ⟨a, ((hmem a).1 ha).1, hc⟩
  · rintro ⟨a, ha, hc⟩
    refine Classical.byContradiction fun hlt => ?_
    have hall : a ∈ out := by
      refine Classical.byContradiction fun hao => ?_
      have := nodup_len (a :: out) (idsN l) (List.nodup_cons.2 ⟨hao, h.nd⟩) fun x hx => by
        rcases List.mem_cons.1 hx with rfl | hx
        · exact ha
        · exact h.sub x hx
      rw [ids_len] at this
      simp only [List.length_cons] at this
      omega
    obtain ⟨i, hi, hie⟩ := List.getElem_of_mem hall
    have h1 : out[i]? = some a := by rw [List.getElem?_eq_getElem hi, hie]
    obtain ⟨j, hji, hj⟩ := no_circle (R := Waits l) (out := out) (fun i a hia d hw => by
      obtain ⟨ds, h2, h3⟩ := h.ord i a hia
      obtain ⟨ds', h4, h5⟩ := hw
      have : (a, ds) = (a, ds') := map_inj (f := fun n : Nd => n.1) hn h2 h4 rfl
      cases this
      exact h3 d h5) hc i h1
    have := nodup_idx h.nd h1 hj
    omega
end Go.Proofs.YtlhgpodfhdddkaaGreatDoor
namespace Go.Proofs.YtlhgpodfhdddkaaGreatDoor
open Rg Go Go.RowKit
variable {H : Heap}
theorem szs_nds (l : List Nd) : szs 2 (ndsAV l) = true := by simp [szs, AV.cells]
theorem place_pre {l : List Nd} {i : Nat} {y : Nd} (hn : (idsN (l.take i)).Nodup) (hy : l[i]? = some y) : (idsN (l.take (i + 1))).Nodup ↔ y.1 ∉ idsN (l.take i) := by
  unfold idsN at *
  rw [List.take_add_one, hy, Option.toList_some, List.map_append, List.nodup_append]
  constructor
  · rintro ⟨_, _, h3⟩ hm
    exact h3 y.1 hm y.1 (by simp) rfl
  · intro hm
    exact ⟨hn, by simp, fun a ha b hb => by simp at hb; subst hb; rintro rfl; exact hm ha⟩
end Go.Proofs.YtlhgpodfhdddkaaGreatDoor
namespace Go.Proofs.YtlhgpodfhdddkaaGreatDoor
open Rg Go Go.RowKit
variable {H : Heap}
theorem sorted_nodup {ks : List Nat} (h : ks.Pairwise (· ≤ ·)) : ¬ ks.Nodup ↔ ∃ i : Nat, i + 1 < ks.length ∧ ks.toArray[i]! = ks.toArray[i + 1]! := by
  have hg : ∀ i, i < ks.length → ks.toArray[i]! = ks[i]! := fun i hi => by simp
  constructor
  · intro hn
    refine Classical.byContradiction fun hno => hn ?_
    have hlt : ks.Pairwise (· < ·) := by
      clear hn
      induction ks with
      | nil => exact .nil
      | cons a l ih =>
        rw [List.pairwise_cons] at h ⊢
        refine ⟨fun b hb => ?_, ih h.2 (fun i hi => by simp) fun ⟨i, hi, e⟩ => hno ⟨i + 1, by simpa using hi, by simpa using e⟩⟩
        cases l with
        | nil => cases hb
        | cons c l =>
          have hac := h.1 c (by simp)
          have hne : a ≠ c := fun e => hno ⟨0, by simp, by simpa using e⟩
          have hcb : c ≤ b := by
            rcases List.mem_cons.1 hb with rfl | hb
            · exact Nat.le_refl _
            · exact (List.pairwise_cons.1 h.2).1 b hb
          omega
    exact hlt.imp fun h => Nat.ne_of_lt h
  · rintro ⟨i, hi, e⟩ hn
    have h1 : i < ks.length := by omega
    have e1 : ks.toArray[i]! = ks[i] := by simp [h1]
    have e2 : ks.toArray[i + 1]! = ks[i + 1] := by simp [hi]
    have := nodup_idx hn (a := ks[i]) (List.getElem?_eq_getElem h1) (by rw [List.getElem?_eq_getElem hi, ← e2, ← e, e1])
    omega
theorem c_twice (l : List Nat) (t : Rg.Tok) (hl : l.length < 50) : ACalls Tryz.prog 47 [.sl (nuK l) t] H (fun v K => v = .sc (.bool (decide (¬ l.Nodup))) ∧ HLe H K) := by
  generalize hR : (fun (v : AV) (K : Heap) => v = .sc (.bool (decide (¬ l.Nodup))) ∧ HLe H K) = R
  refine ACalls.into Tryz.func47 rfl Tryz.ntmps47 Tryz.results47 (by simp) ?_
  simp -implicitDefEqProofs
  refine ACall.intro (c_values l t) fun v K hv => ?_
  obtain ⟨b, rfl, hK, kb⟩ := hv
  simp -implicitDefEqProofs
  refine ACall.intro (c_sorted (lb := #[.pointer (some ⟨b, 0, none⟩)]) (by omega) (iter_values (by omega) kb) (fun ks e => by rw [e]; exact hl)) fun v K2 hv => ?_
  obtain ⟨ks, ⟨k0, rfl, hp⟩, hs, hK2, hc⟩ := hv
  have hlen := hp.length_eq
  have hnd := hp.nodup_iff
  rcases hc with ⟨hn, rfl⟩ | ⟨g, zs, h1, rfl, h2, h3⟩
  · have hks : ks = [] := by simpa using hn
    subst hks
    have hl0 : k0 = [] := List.length_eq_zero_iff.1 (by simpa using hlen.symm)
    subst hl0
    simp -implicitDefEqProofs
    refine ACall.eq c_compactNil ?_
    simp -implicitDefEqProofs
    subst hR
    exact AFin.intro _ _ (wk_refl _) (HWk.refl _) ⟨by simp, hK.trans hK2⟩
  · have e1 : (nuK ks).length = ks.length := by simp
    rw [e1] at h3 ⊢
    have h2' : K2 g = some (rowC 28 ks.toArray zs) := by rw [st_row, h2, nuK_arr]
    simp -implicitDefEqProofs
    refine ACall.intro (c_compact (n := ks.length) (cap := ks.length + zs.length) (by simp) (by omega) (by omega) h2') fun v K3 hv => ?_
    obtain ⟨k, cs, rfl, hk, _, hkn, rfl⟩ := hv
    rw [← sorted_nodup hs, hnd] at hkn
    simp -implicitDefEqProofs
    subst hR
    refine AFin.intro _ _ (wk_refl _) (HWk.refl _) ⟨?_, HLe.set_new (hK.trans hK2) (hK.none h1)⟩
    rw [← hlen]
    by_cases hk2 : k < ks.length
    · simp [hk2, hkn.1 hk2]
    · have : k0.Nodup := Classical.byContradiction fun h => hk2 (hkn.2 h)
      simp [hk2, this]
end Go.Proofs.YtlhgpodfhdddkaaGreatDoor
namespace Go.Proofs.YtlhgpodfhdddkaaGreatDoor
open Rg Go Go.RowKit
variable {H : Heap}
abbrev rME (r : Nd × Nat) : ME := (r.1.1, .sl (nuAV r.1.2) .no, r.2)
structure MapR (m : Nat) (R : List (Nd × Nat)) (ck : Nat) (K : Heap) : Prop where
  at_ : K m = some (.map ((R.map rME).map meAV) ck)
  lt : ∀ r ∈ R, r.2 < ck
  nb : (R.map fun r => r.2).Nodup
  nk : (R.map fun r => r.1.1).Nodup
theorem MapR.born {m ck : Nat} {R : List (Nd × Nat)} {K : Heap} (h : MapR m R ck K) : (∀ e ∈ R.map rME, e.2.2 < ck) ∧ ((R.map rME).map fun e => e.2.2).Nodup ∧ ((R.map rME).map fun e => e.1).Nodup := by
  refine ⟨fun e he => ?_, ?_, ?_⟩
  · obtain ⟨r, hr, rfl⟩ := List.mem_map.1 he
    exact h.lt r hr
  · rw [List.map_map]; exact h.nb
  · rw [List.map_map]; exact h.nk
theorem erase_split {α : Type} {R : List α} {j : Nat} {r : α} (h : R[j]? = some r) : R = R.take j ++ r :: R.drop (j + 1) := by
  obtain ⟨h1, h2⟩ := List.getElem?_eq_some_iff.1 h
  conv => lhs; rw [← List.take_append_drop j R, List.drop_eq_getElem_cons h1, h2]
theorem map_erase {α β : Type} (f : α → β) : ∀ (l : List α) (j : Nat), (l.map f).eraseIdx j = (l.eraseIdx j).map f
  | [], _ => rfl
  | a :: l, 0 => rfl
  | a :: l, j + 1 => by simp [map_erase f l j]
theorem MapR.erase {m ck j : Nat} {R : List (Nd × Nat)} {K K' : Heap} (h : MapR m R ck K) (hk : K' m = some (.map (((R.map rME).map meAV).eraseIdx j) ck)) : MapR m (R.eraseIdx j) ck K' := by
  have hs : (R.eraseIdx j).Sublist R := List.eraseIdx_sublist _ _
  refine ⟨?_, fun r hr => h.lt r (hs.subset hr), h.nb.sublist (hs.map _), h.nk.sublist (hs.map _)⟩
  rw [hk, map_erase, map_erase]
set_option maxHeartbeats 4000000 in
theorem c_order (l : List Nd) (t : Rg.Tok) (hn : (idsN l).Nodup) (hl : l.length < 50) (h8 : ∀ n ∈ l, n.2.length ≤ 8) :
    ACalls Tryz.prog 49 [.sl (ndsAV l) t] H (fun v K => ∃ out, v = .sl (nuK out) .no ∧ OrdOk l out ∧ (∀ n ∈ l, n.1 ∉ out → ∃ d ∈ n.2, d ∉ out) ∧ HLe H K) := by
  generalize hR : (fun (v : AV) (K : Heap) => ∃ out, v = .sl (nuK out) .no ∧ OrdOk l out ∧ (∀ n ∈ l, n.1 ∉ out → ∃ d ∈ n.2, d ∉ out) ∧ HLe H K) = R0
  obtain ⟨dk, hdk⟩ := ty_of (P := Tryz.prog) (T := 28) (by kernel_rfl)
  refine ACalls.into Tryz.func49 rfl Tryz.ntmps49 Tryz.results49 (by simp) ?_
  simp -implicitDefEqProofs [st_make]
  refine ACall.intro (c_makeMap 94) fun v K hv => ?_
  obtain ⟨m, hm0, rfl, rfl⟩ := hv
  simp -implicitDefEqProofs
  refine AGo.rounds (fun μ ρ K => ∃ (i : Nat) (R : List (Nd × Nat)) (ck : Nat), μ = l.length - i ∧ i ≤ l.length ∧ R.map (fun r => r.1) = l.take i ∧ MapR m R ck K ∧ HLe H K ∧ ρ 3 = .sc (.map (some m)) ∧ ρ 10 = .sl (ndsAV l) t ∧ ρ 11 = .sc (.int .i64 (l.length : Int)) ∧ ρ 12 = .sc (.int .i64 (i : Int))) ?_ (m := l.length) (HLe.refl _)
    ⟨0, [], 0, rfl, by omega, by simp, ⟨by simp [Heap.set], by simp, by simp, by simp⟩, HLe.set_fresh hm0, by simp, by simp, by simp, by simp⟩
  rintro μ ρ K ih ⟨i, R, ck, rfl, hi, hRl, hMR, hK, r3, r10, r11, r12⟩
  by_cases hlt : i < l.length
  · have hlt' : (i : Int) < (l.length : Int) := by omega
    obtain ⟨y, hyj, hy⟩ := getAt hlt
    have w1 : IntKind.i64.wrap ((i : Int) + 1) = ((i + 1 : Nat) : Int) := by rw [wrap_i64 (by omega) (by omega)]; omega
    have hpp := place_pre (hn.sublist ((List.take_sublist i l).map _)) hy
    have hyn : y.1 ∉ idsN (l.take i) := hpp.1 (hn.sublist ((List.take_sublist (i + 1) l).map _))
    have hmiss : ∀ e ∈ R.map rME, e.1 ≠ y.1 := fun e he h => by
      obtain ⟨r, hr, rfl⟩ := List.mem_map.1 he
      refine hyn (List.mem_map.2 ⟨r.1, ?_, h⟩)
      rw [← hRl]
      exact List.mem_map_of_mem hr
    simp -implicitDefEqProofs [r3, r10, r11, r12, hlt, hlt', hyj, AV.cells]
    refine AAlloc.intro fun b5 h5 => ?_
    have hmb : m ≠ b5 := by rintro rfl; rw [hMR.at_] at h5; cases h5
    simp -implicitDefEqProofs [r3, st_update]
    have hm1 : (K.set b5 (.cells [.sc (.int .u64 (y.1 : Int)), .sl (nuAV y.2) .no] 76)) m = some (.map ((R.map rME).map meAV) ck) := by simp [Heap.set, hmb, hMR.at_]
    refine ACall.eq (c_insert m_deps hdk hm1 (acheck_n y.1) (miss_me hmiss) (.sl (nuAV y.2) .no)) ?_
    simp -implicitDefEqProofs [r12, w1]
    refine AGo.again ih (m' := l.length - (i + 1)) (by omega) (HLe.refl _) ⟨i + 1, R ++ [(y, ck)], ck + 1, rfl, by omega, by rw [List.map_append, hRl, List.take_add_one, hy]; rfl, ⟨by simp [Heap.set], fun r hr => ?_, ?_, ?_⟩, HLe.set_new (HLe.set_new hK (hK.none h5)) hm0, by simp [r3], by simp [r10], by simp [r11], by simp⟩
    · rcases List.mem_append.1 hr with hr | hr
      · have := hMR.lt r hr; omega
      · rw [List.mem_singleton.1 hr]; simp
    · rw [List.map_append, List.nodup_append]
      refine ⟨hMR.nb, by simp, fun a ha b hb => ?_⟩
      simp at hb
      subst hb
      obtain ⟨r, hr, rfl⟩ := List.mem_map.1 ha
      have := hMR.lt r hr
      omega
    · rw [List.map_append, List.nodup_append]
      refine ⟨hMR.nk, by simp, fun a ha b hb => ?_⟩
      simp at hb
      subst hb
      obtain ⟨r, hr, rfl⟩ := List.mem_map.1 ha
      exact hmiss (rME r) (List.mem_map_of_mem hr)
  · have hlt' : ¬ (i : Int) < (l.length : Int) := by omega
    rw [List.take_of_length_le (by omega)] at hRl
    simp -implicitDefEqProofs [r3, r10, r11, r12, hlt, hlt']
    refine AAlloc.intro fun b6 h6 => ?_
    have hmb : m ≠ b6 := by rintro rfl; rw [hMR.at_] at h6; cases h6
    simp -implicitDefEqProofs
    generalize hK6 : Heap.set K b6 _ = K6
    have row6 : RowZ 1 28 31 H b6 (nuK []).length (fun t => [.sl (nuK []) t]) K6 := by
      rw [← hK6]
      exact ⟨HLe.set_new hK (hK.none h6), hK.none h6, .nil, by simp [Heap.set], .inl ⟨rfl, rfl⟩⟩
    have hMR6 : MapR m R ck K6 := by rw [← hK6]; exact ⟨by simp [Heap.set, hmb, hMR.at_], hMR.lt, hMR.nb, hMR.nk⟩
    have hRlen : R.length ≤ l.length := by rw [← hRl, List.length_map]; exact Nat.le_refl _
    clear hK6 h6 hMR hK ih hlt hlt'
    refine AGo.rounds (fun μ ρ K => ∃ (R : List (Nd × Nat)) (ck : Nat) (out : List Nat), μ = R.length ∧ R.length ≤ l.length ∧ MapR m R ck K ∧ OrdOk l out ∧ (∀ r ∈ R, r.1 ∈ l ∧ r.1.1 ∉ out) ∧ (∀ n ∈ l, n.1 ∈ out ∨ ∃ r ∈ R, r.1 = n) ∧ RowZ 1 28 31 H b6 (nuK out).length (fun t => [.sl (nuK out) t]) K ∧ ρ 3 = .sc (.map (some m)) ∧ ρ 6 = ptr b6) ?_ (m := R.length) (HLe.refl _)
      ⟨R, ck, [], rfl, hRlen, hMR6, ⟨by simp, by simp, by simp⟩, fun r hr => ⟨by rw [← hRl]; exact List.mem_map_of_mem hr, by simp⟩, fun n hn' => .inr (by rw [← hRl] at hn'; obtain ⟨r, hr, e⟩ := List.mem_map.1 hn'; exact ⟨r, hr, e⟩), row6, by simp [r3], by simp⟩
    clear row6 hMR6 hRlen r3 r10 r11 r12 hRl
    rintro μ ρ K ih ⟨R, ck, out, rfl, hRlen, hMR, hO, hR1, hR2, row, r3, r6⟩
    have hol : out.length ≤ l.length := by
      have := nodup_len _ _ hO.nd hO.sub
      rwa [ids_len] at this
    simp -implicitDefEqProofs [r3, r6]
    refine ACall.intro (c_keys2 (m := m)) fun v K1 hv => ?_
    obtain ⟨c1, rfl, hK1, kc1⟩ := hv
    simp -implicitDefEqProofs
    obtain ⟨hb1, hb2, hb3⟩ := hMR.born
    refine ACall.intro (c_sortedF (lb := #[.pointer (some ⟨c1, 0, none⟩)]) (by simp; omega) (iter_keys2 hb1 hb2 (hK1 _ _ hMR.at_) kc1) (fun ks e => by rw [e.length_eq]; simp; omega)) fun v K2 hv => ?_
    obtain ⟨ks, ⟨k0, hp0, hp⟩, _, rfl, hK2⟩ := hv
    have hks : ks.Perm (R.map fun r => r.1.1) := by
      have := hp.trans hp0
      rwa [List.map_map] at this
    have hMR2 : MapR m R ck K2 := ⟨hK2 _ _ (hK1 _ _ hMR.at_), hMR.lt, hMR.nb, hMR.nk⟩
    have row2 := (row.up hK1).up hK2
    clear hMR row hp hp0 hK1 hK2 kc1
    have hkl : ks.length = R.length := by rw [hks.length_eq, List.length_map]
    simp -implicitDefEqProofs
    refine AGo.rounds (fun μ ρ K' => ∃ i : Nat, μ = ks.length - i ∧ i ≤ ks.length ∧ (∀ a ∈ ks.take i, ∃ r ∈ R, r.1.1 = a ∧ ∃ d ∈ r.1.2, d ∉ out) ∧ ρ 3 = .sc (.map (some m)) ∧ ρ 6 = ptr b6 ∧ ρ 24 = .sl (nuK ks) .no ∧ ρ 25 = .sc (.int .i64 (ks.length : Int)) ∧ ρ 26 = .sc (.int .i64 (i : Int)) ∧ K' = K2) ?_ (m := ks.length) (HLe.refl _)
      ⟨0, rfl, by omega, by simp, by simp [r3], by simp [r6], by simp, by simp, by simp, rfl⟩
    clear r3 r6
    rintro μ ρ K' ih2 ⟨i, rfl, hi2, hdone, r3, r6, r24, r25, r26, rfl⟩
    obtain ⟨tk, kb6, _⟩ := row2.row
    by_cases hlt : i < ks.length
    · have hlt' : (i : Int) < (ks.length : Int) := by omega
      obtain ⟨y, hyj, hy⟩ := getAt hlt
      have w1 : IntKind.i64.wrap ((i : Int) + 1) = ((i + 1 : Nat) : Int) := by rw [wrap_i64 (by omega) (by omega)]; omega
      obtain ⟨r, hr, hry⟩ := List.mem_map.1 (hks.subset (List.mem_of_getElem? hy))
      obtain ⟨j, hj, hje⟩ := List.getElem_of_mem hr
      have hj' : R[j]? = some r := by rw [List.getElem?_eq_getElem hj, hje]
      have hj2 : (R.map rME)[j]? = some (rME r) := by rw [List.getElem?_map, hj']; rfl
      have hhit := hit_me hb3 hj2
      have hkey : uAV (rME r).1 = uAV y := by rw [← hry]
      rw [hkey] at hhit
      have hr8 := h8 _ (hR1 r hr).1
      simp -implicitDefEqProofs [r3, r6, r24, r25, r26, hlt, hlt', hyj, st_lookup]
      refine ACall.eq (c_lookup1 m_deps hdk hMR2.at_ (acheck_n y) hhit) ?_
      simp -implicitDefEqProofs [r6]
      refine ACall.intro (c_containsF r.1.2 out .no tk b6 (by omega) (by omega) kb6) fun v K3 hv => ?_
      obtain ⟨res, rfl, hres, rfl⟩ := hv
      cases res with
      | true =>
        simp -implicitDefEqProofs [r26, w1]
        exact AGo.again ih2 (m' := ks.length - (i + 1)) (by omega) (HLe.refl _) ⟨i + 1, rfl, by omega, fun a ha => by
          rw [List.take_add_one, hy] at ha
          rcases List.mem_append.1 ha with ha | ha
          · exact hdone a ha
          · simp at ha; subst ha; exact ⟨r, hr, hry, hres.1 rfl⟩, by simp [r3], by simp [r6], by simp [r24], by simp [r25], by simp, rfl⟩
      | false =>
        have hall : ∀ d ∈ r.1.2, d ∈ out := fun d hd => Classical.byContradiction fun h => by
          have := hres.2 ⟨d, hd, h⟩
          cases this
        simp -implicitDefEqProofs [r3, r6]
        refine ACall.eq (c_delete m_deps hdk hMR2.at_ (acheck_n y) hhit) ?_
        have hmb' : m ≠ b6 := hmb
        have row3 := row2.setO (o' := .map (((R.map rME).map meAV).eraseIdx j) ck) hm0 hmb hMR2.at_ (fun _ _ _ _ h => by cases h)
        have hMR3 : MapR m (R.eraseIdx j) ck (K3.set m (.map (((R.map rME).map meAV).eraseIdx j) ck)) := hMR2.erase (by simp [Heap.set])
        generalize K3.set m _ = K4 at *
        obtain ⟨tk4, kb4, _⟩ := row3.row
        have hd : nuK out ++ [(.sc (.int .u64 (y : Int)) : AV)] = nuK (out ++ [y]) := by simp
        have hxl : (nuK out).length = out.length := by simp
        have hsz : szs 1 (nuK out) = true := by simp [szs, AV.cells]
        obtain ⟨tk', G0, G', g1, g2, g3, g4, g5, g6⟩ := row3.grows'
        obtain rfl : tk4 = tk' := by rw [kb4] at g1; simpa using g1
        simp -implicitDefEqProofs [r3, r6, kb4]
        refine AApp.grows el_31 g2 g3 (by simp) hsz (by simp [szs, AV.cells]) (by simp; omega) (by simp [maxLen]; omega) fun t' K5 Hn hg' hl' => ?_
        obtain ⟨ys, hys⟩ : ∃ ys, nuK (out ++ [y]) = ys := ⟨_, rfl⟩
        rw [hd, hys] at hg' ⊢
        have hn5 := hl' _ _ (hg'.le _ _ g5)
        have kp : ∀ {p : Nat} {o : AObj}, K4 p = some o → (∀ n cap sz e, o ≠ .open n cap sz e) → Hn p = some o := fun {p o} hp ho => hl' _ _ (hg'.le _ _ (g6 p o hp ho))
        have hsd := RowZ.stored (T := 31) (F := fun t' => [.sl ys t']) g4 row3.no g5 hg' hl'
        simp -implicitDefEqProofs [r6, hn5]
        have hsp := erase_split hj'
        have hR' : R.eraseIdx j = R.take j ++ R.drop (j + 1) := List.eraseIdx_eq_take_drop_succ _ _
        have hnk := hMR2.nk
        have hsub : ∀ r' ∈ R.eraseIdx j, r' ∈ R ∧ r'.1.1 ≠ y := fun r' hr' => by
          refine ⟨(List.eraseIdx_sublist R j).subset hr', fun e => ?_⟩
          rw [hsp, List.map_append, List.map_cons, List.nodup_append, List.nodup_cons] at hnk
          rw [hR'] at hr'
          rcases List.mem_append.1 hr' with h | h
          · exact hnk.2.2 _ (List.mem_map_of_mem h) _ (List.mem_cons_self) (by rw [e, hry])
          · exact hnk.2.1.1 (by rw [hry, ← e]; exact List.mem_map_of_mem h)
        have hlen2 : (R.eraseIdx j).length < R.length := by rw [List.length_eraseIdx_of_lt hj]; omega
        refine AGo.again ih (m' := (R.eraseIdx j).length) hlen2 (HLe.refl _) ⟨R.eraseIdx j, ck, out ++ [y], rfl, by omega, ⟨by simp only [Heap.set, if_neg hmb]; exact kp hMR3.at_ (fun _ _ _ _ h => by cases h), hMR3.lt, hMR3.nb, hMR3.nk⟩, ?_, fun r' hr' => ?_, fun n hn' => ?_, by rw [hys]; exact hsd, by simp [r3], by simp [r6]⟩
        · rw [← hry]
          exact hO.app (hR1 r hr).1 (hR1 r hr).2 hall
        · obtain ⟨h1, h2⟩ := hsub r' hr'
          refine ⟨(hR1 r' h1).1, fun h => ?_⟩
          rcases List.mem_append.1 h with h | h
          · exact (hR1 r' h1).2 h
          · exact h2 (List.mem_singleton.1 h)
        · rcases hR2 n hn' with h | ⟨r', hr', e⟩
          · exact .inl (List.mem_append.2 (.inl h))
          · rw [hsp] at hr'
            rw [hR']
            rcases List.mem_append.1 hr' with h | h
            · exact .inr ⟨r', List.mem_append.2 (.inl h), e⟩
            · rcases List.mem_cons.1 h with rfl | h
              · exact .inl (List.mem_append.2 (.inr (by rw [← e, hry]; simp)))
              · exact .inr ⟨r', List.mem_append.2 (.inr h), e⟩
    · have hlt' : ¬ (i : Int) < (ks.length : Int) := by omega
      rw [List.take_of_length_le (by omega)] at hdone
      simp -implicitDefEqProofs [r3, r6, r24, r25, r26, hlt, hlt', kb6]
      subst hR
      refine AFin.intro (.sl (nuK out) .no) _ (by simp [wk]) (HWk.refl _) ⟨out, rfl, hO, fun n hn' hno => ?_, row2.le⟩
      rcases hR2 n hn' with h | ⟨r, hr, e⟩
      · exact absurd h hno
      · obtain ⟨r', hr', e2, d, hd1, hd2⟩ := hdone n.1 (hks.symm.subset (List.mem_map.2 ⟨r, hr, by rw [e]⟩))
        have : r'.1 = n := map_inj (f := fun n : Nd => n.1) hn (hR1 r' hr').1 hn' e2
        rw [this] at hd1
        exact ⟨d, hd1, hd2⟩
end Go.Proofs.YtlhgpodfhdddkaaGreatDoor
namespace Go.Proofs.YtlhgpodfhdddkaaGreatDoor
open Rg Go Go.RowKit
variable {H : Heap}
theorem raw_up {H0 K K' : Heap} {e : TypeId} {xs : List AV} {v : AV} (h : RawRow H0 e xs v K) (hl : HLe K K') : RawRow H0 e xs v K' :=
  ⟨h.1.trans hl, h.2.imp id fun ⟨g, zs, h1, h2, h3, h4⟩ => ⟨g, zs, h1, h2, hl _ _ h3, h4⟩⟩
set_option maxHeartbeats 4000000 in
theorem c_graphMay (l : List Nd) (t : Rg.Tok) (hl : l.length < 50) (hdl : ∀ n ∈ l, n.2.length ≤ 1000000) :
    ACalls Tryz.prog 24 [.sl (ndsAV l) t] H (fun v K => v = .sc (.int .i64 (mayN l)) ∧ HLe H K) := by
  obtain ⟨res, hres⟩ : ∃ r, mayN l = r := ⟨_, rfl⟩
  rw [hres]
  generalize hR : (fun (v : AV) (K : Heap) => v = .sc (.int .i64 res) ∧ HLe H K) = R
  unfold mayN at hres
  have h64' : ¬ 64 < (l.length : Int) := by omega
  refine ACalls.into Tryz.func24 rfl Tryz.ntmps24 Tryz.results24 (by simp) ?_
  simp -implicitDefEqProofs [h64']
  refine AGo.rounds (fun μ ρ K => ∃ (i : Nat) (tk : Rg.Tok) (xs : List AV), μ = l.length - i ∧ i ≤ l.length ∧ (∀ n ∈ l.take i, n.2.length ≤ 8) ∧ HLe H K ∧ xs = nuK (idsN (l.take i)) ∧ GrowsK H xs.length 1 28 tk K ∧ ρ 0 = .sl (ndsAV l) t ∧ ρ 3 = .sl xs tk ∧ ρ 15 = .sl (ndsAV l) t ∧ ρ 16 = .sc (.int .i64 (l.length : Int)) ∧ ρ 17 = .sc (.int .i64 (i : Int))) ?_ (m := l.length) (HLe.refl _)
    ⟨0, .nil, [], rfl, by omega, by simp, HLe.refl _, by simp, .inl ⟨rfl, rfl⟩, by simp, by simp, by simp, by simp, by simp⟩
  rintro μ ρ K ih ⟨i, tk, xs, rfl, hi, hno, hK, hxs, hg, r0, r3, r15, r16, r17⟩
  by_cases hlt : i < l.length
  · have hlt' : (i : Int) < (l.length : Int) := by omega
    obtain ⟨y, hyj, hy⟩ := getAt hlt
    have w1 : IntKind.i64.wrap ((i : Int) + 1) = ((i + 1 : Nat) : Int) := by rw [wrap_i64 (by omega) (by omega)]; omega
    have hd : nuK (idsN (l.take i)) ++ [(.sc (.int .u64 (y.1 : Int)) : AV)] = nuK (idsN (l.take (i + 1))) := by rw [List.take_add_one, hy]; simp
    have hxl : (nuK (idsN (l.take i))).length = i := by simp; omega
    have hsz : szs 1 (nuK (idsN (l.take i))) = true := szs_map (f := fun n : Nat => (.sc (.int .u64 (n : Int)) : AV)) (fun _ => rfl) _
    obtain ⟨ys, hys⟩ : ∃ ys, nuK (idsN (l.take (i + 1))) = ys := ⟨_, rfl⟩
    rw [hys] at hd
    rw [← hxs] at hd hxl hsz
    simp -implicitDefEqProofs [r0, r3, r15, r16, r17, hlt, hlt', hyj, AV.cells]
    refine AAlloc.intro fun b5 h5 => ?_
    by_cases h8 : 8 < y.2.length
    · have h8' : 8 < (y.2.length : Int) := by omega
      rw [if_pos (.inr ⟨y, List.mem_of_getElem? hy, h8⟩)] at hres
      simp -implicitDefEqProofs [h8']
      subst hR
      exact AFin.intro _ _ (wk_refl _) (HWk.refl _) ⟨by rw [hres], hK.trans (HLe.set_fresh h5)⟩
    · have h8' : ¬ 8 < (y.2.length : Int) := by omega
      obtain ⟨G0, G, g1, g2, g3, _⟩ := hg.grows hK
      simp -implicitDefEqProofs [h8', r3]
      refine AApp.grows el_31 g1 (g2.trans (HLe.set_fresh h5)) (by simp) hsz (by simp [szs, AV.cells]) (by simp; omega) (by simp [maxLen]; omega) fun t' K4 Hn hg' hl' => ?_
      rw [hd] at hg' ⊢
      obtain ⟨c1, c2⟩ := GrowsK.of g3 hg' hl'
      simp -implicitDefEqProofs [r17, w1]
      exact AGo.again ih (m' := l.length - (i + 1)) (by omega) (HLe.refl _) ⟨i + 1, t', ys, rfl, by omega, fun n hn => by
        rw [List.take_add_one, hy] at hn
        rcases List.mem_append.1 hn with hn | hn
        · exact hno n hn
        · simp at hn; rw [hn]; omega, c2, hys.symm, c1, by simp [r0], by simp, by simp [r15], by simp [r16], by simp⟩
  have hlt' : ¬ (i : Int) < (l.length : Int) := by omega
  rw [List.take_of_length_le (by omega)] at hno hxs
  subst hxs
  have hIl := ids_len l
  have hNI : noneN l ↔ ∃ n ∈ l, ∃ d ∈ n.2, d ∉ idsN l := .rfl
  obtain ⟨I, hI⟩ : ∃ I, idsN l = I := ⟨_, rfl⟩
  rw [hI] at r3 hg hIl hNI
  have hL : ¬ longN l := by
    rintro (h | ⟨n, hn, h⟩)
    · omega
    · have := hno n hn; omega
  rw [if_neg hL] at hres
  simp -implicitDefEqProofs [r0, r3, r15, r16, r17, hlt, hlt']
  clear ih hlt hlt' hg r15 r16 r17
  refine ACall.intro (c_twice I tk (by omega)) fun v K1 hv => ?_
  obtain ⟨rfl, hK1⟩ := hv
  have hK := hK.trans hK1
  by_cases hnd : I.Nodup
  case neg =>
    rw [if_pos (.inl (by rw [hI]; exact hnd))] at hres
    simp -implicitDefEqProofs [hnd]
    subst hR
    exact AFin.intro _ _ (wk_refl _) (HWk.refl _) ⟨by rw [hres], hK⟩
  simp -implicitDefEqProofs [hnd, r0]
  refine AGo.rounds (fun μ ρ K => ∃ i : Nat, μ = l.length - i ∧ i ≤ l.length ∧ (∀ n ∈ l.take i, n.2.Nodup) ∧ HLe H K ∧ ρ 0 = .sl (ndsAV l) t ∧ ρ 3 = .sl (nuK I) tk ∧ ρ 33 = .sl (ndsAV l) t ∧ ρ 34 = .sc (.int .i64 (l.length : Int)) ∧ ρ 35 = .sc (.int .i64 (i : Int))) ?_ (m := l.length) (HLe.refl _)
    ⟨0, rfl, by omega, by simp, hK, by simp [r0], by simp [r3], by simp [r0], by simp, by simp⟩
  clear r0 r3 hK hK1
  rintro μ ρ K ih ⟨i, rfl, hi, hnn, hK, r0, r3, r33, r34, r35⟩
  by_cases hlt : i < l.length
  · have hlt' : (i : Int) < (l.length : Int) := by omega
    obtain ⟨y, hyj, hy⟩ := getAt hlt
    have hyl := List.mem_of_getElem? hy
    have hy8 := hno y hyl
    have w1 : IntKind.i64.wrap ((i : Int) + 1) = ((i + 1 : Nat) : Int) := by rw [wrap_i64 (by omega) (by omega)]; omega
    simp -implicitDefEqProofs [r0, r3, r33, r34, r35, hlt, hlt', hyj, AV.cells]
    refine AAlloc.intro fun b5 h5 => ?_
    simp -implicitDefEqProofs
    refine ACall.intro (c_twice y.2 .no (by omega)) fun v K1 hv => ?_
    obtain ⟨rfl, hK1⟩ := hv
    have hK2 := (hK.trans (HLe.set_fresh h5)).trans hK1
    by_cases hyn : y.2.Nodup
    · simp -implicitDefEqProofs [hyn, r35, w1]
      exact AGo.again ih (m' := l.length - (i + 1)) (by omega) (HLe.refl _) ⟨i + 1, rfl, by omega, fun z hz => by
        rw [List.take_add_one, hy] at hz
        rcases List.mem_append.1 hz with hz | hz
        · exact hnn z hz
        · simp at hz; rw [hz]; exact hyn, hK2, by simp [r0], by simp [r3], by simp [r33], by simp [r34], by simp⟩
    · rw [if_pos (.inr ⟨y, hyl, hyn⟩)] at hres
      simp -implicitDefEqProofs [hyn]
      subst hR
      exact AFin.intro _ _ (wk_refl _) (HWk.refl _) ⟨by rw [hres], hK2⟩
  have hlt' : ¬ (i : Int) < (l.length : Int) := by omega
  rw [List.take_of_length_le (by omega)] at hnn
  have hT : ¬ twiceN l := by
    rintro (h | ⟨n, hn, h⟩)
    · rw [hI] at h; exact h hnd
    · exact h (hnn n hn)
  rw [if_neg hT] at hres
  simp -implicitDefEqProofs [r0, r3, r33, r34, r35, hlt, hlt']
  clear ih hlt hlt' r33 r34 r35
  refine AGo.rounds (fun μ ρ K => ∃ i : Nat, μ = l.length - i ∧ i ≤ l.length ∧ (∀ n ∈ l.take i, ∀ d ∈ n.2, d ∈ I) ∧ HLe H K ∧ ρ 0 = .sl (ndsAV l) t ∧ ρ 3 = .sl (nuK I) tk ∧ ρ 43 = .sl (ndsAV l) t ∧ ρ 44 = .sc (.int .i64 (l.length : Int)) ∧ ρ 45 = .sc (.int .i64 (i : Int))) ?_ (m := l.length) (HLe.refl _)
    ⟨0, rfl, by omega, by simp, hK, by simp [r0], by simp [r3], by simp [r0], by simp, by simp⟩
  clear r0 r3 hK
  rintro μ ρ K ih ⟨i, rfl, hi, hds, hK, r0, r3, r43, r44, r45⟩
  by_cases hlt : i < l.length
  · have hlt' : (i : Int) < (l.length : Int) := by omega
    obtain ⟨y, hyj, hy⟩ := getAt hlt
    have hyl := List.mem_of_getElem? hy
    have hy8 := hno y hyl
    have w1 : IntKind.i64.wrap ((i : Int) + 1) = ((i + 1 : Nat) : Int) := by rw [wrap_i64 (by omega) (by omega)]; omega
    simp -implicitDefEqProofs [r0, r3, r43, r44, r45, hlt, hlt', hyj, AV.cells]
    refine AAlloc.intro fun b5 h5 => ?_
    simp -implicitDefEqProofs
    refine AGo.rounds (fun μ ρ K' => ∃ k : Nat, μ = y.2.length - k ∧ k ≤ y.2.length ∧ (∀ d ∈ y.2.take k, d ∈ I) ∧ HLe H K' ∧ ρ 0 = .sl (ndsAV l) t ∧ ρ 3 = .sl (nuK I) tk ∧ ρ 43 = .sl (ndsAV l) t ∧ ρ 44 = .sc (.int .i64 (l.length : Int)) ∧ ρ 45 = .sc (.int .i64 (i : Int)) ∧ ρ 50 = .sl (nuAV y.2) .no ∧ ρ 51 = .sc (.int .i64 (y.2.length : Int)) ∧ ρ 52 = .sc (.int .i64 (k : Int))) ?_ (m := y.2.length) (HLe.refl _)
      ⟨0, rfl, by omega, by simp, hK.trans (HLe.set_fresh h5), by simp [r0], by simp [r3], by simp [r43], by simp [r44], by simp [r45], by simp, by simp, by simp⟩
    clear r0 r3 r43 r44 r45
    rintro μ ρ K' ih2 ⟨k, rfl, hk, hdk, hK', r0, r3, r43, r44, r45, r50, r51, r52⟩
    by_cases hkt : k < y.2.length
    · have hkt' : (k : Int) < (y.2.length : Int) := by omega
      obtain ⟨z, hzj, hz⟩ := getAt hkt
      have w2 : IntKind.i64.wrap ((k : Int) + 1) = ((k + 1 : Nat) : Int) := by rw [wrap_i64 (by omega) (by omega)]; omega
      simp -implicitDefEqProofs [r0, r3, r43, r44, r45, r50, r51, r52, hkt, hkt', hzj]
      refine ACall.eq (c_containsU I tk z (by omega)) ?_
      by_cases hpm : z ∈ I
      · simp -implicitDefEqProofs [hpm, r52, w2]
        exact AGo.again ih2 (m' := y.2.length - (k + 1)) (by omega) (HLe.refl _) ⟨k + 1, rfl, by omega, fun d hd => by
          rw [List.take_add_one, hz] at hd
          rcases List.mem_append.1 hd with hd | hd
          · exact hdk d hd
          · simp at hd; rw [hd]; exact hpm, hK', by simp [r0], by simp [r3], by simp [r43], by simp [r44], by simp [r45], by simp [r50], by simp [r51], by simp⟩
      · rw [if_pos (hNI.2 ⟨y, hyl, z, List.mem_of_getElem? hz, hpm⟩)] at hres
        simp -implicitDefEqProofs [hpm]
        subst hR
        exact AFin.intro _ _ (wk_refl _) (HWk.refl _) ⟨by rw [hres], hK'⟩
    · have hkt' : ¬ (k : Int) < (y.2.length : Int) := by omega
      rw [List.take_of_length_le (by omega)] at hdk
      simp -implicitDefEqProofs [r0, r3, r43, r44, r45, r50, r51, r52, hkt, hkt', w1]
      exact AGo.again ih (m' := l.length - (i + 1)) (by omega) (HLe.refl _) ⟨i + 1, rfl, by omega, fun n hn => by
        rw [List.take_add_one, hy] at hn
        rcases List.mem_append.1 hn with hn | hn
        · exact hds n hn
        · simp at hn; rw [hn]; exact hdk, hK', by simp [r0], by simp [r3], by simp [r43], by simp [r44], by simp⟩
  have hlt' : ¬ (i : Int) < (l.length : Int) := by omega
  rw [List.take_of_length_le (by omega)] at hds
  have hN : ¬ noneN l := by
    rw [hNI]
    rintro ⟨n, hn, d, hd, h⟩
    exact h (hds n hn d hd)
  rw [if_neg hN] at hres
  simp -implicitDefEqProofs [r0, r3, r43, r44, r45, hlt, hlt']
  rw [← hI] at hnd
  refine ACall.intro (c_order l t hnd hl hno) fun v K1 hv => ?_
  obtain ⟨out, rfl, hO, hs, hK1⟩ := hv
  have hcirc := ord_circ hO hnd hN hs
  by_cases hlo : out.length < l.length
  · have hlo' : (out.length : Int) < (l.length : Int) := by omega
    rw [if_pos (hcirc.1 hlo)] at hres
    simp -implicitDefEqProofs [r0, hlo, hlo']
    subst hR
    exact AFin.intro _ _ (wk_refl _) (HWk.refl _) ⟨by rw [hres], hK.trans hK1⟩
  · have hlo' : ¬ (out.length : Int) < (l.length : Int) := by omega
    rw [if_neg (fun h => hlo (hcirc.2 h))] at hres
    simp -implicitDefEqProofs [r0, hlo, hlo']
    subst hR
    exact AFin.intro _ _ (wk_refl _) (HWk.refl _) ⟨by rw [hres], hK.trans hK1⟩
set_option maxHeartbeats 2000000 in
theorem c_users (l : List Nd) (t : Rg.Tok) (x : Nat) (hl : l.length < 50) (hdl : ∀ n ∈ l, n.2.length ≤ 1000000) :
    ACalls Tryz.prog 39 [.sl (ndsAV l) t, .sc (.int .u64 (x : Int))] H (fun v K => ∃ (A : Option Addr) (k cap : Nat), v = .sc (.slice A k cap) ∧ (0 < k ↔ ∃ n ∈ l, x ∈ n.2) ∧ HLe H K) := by
  generalize hR : (fun (v : AV) (K : Heap) => ∃ (A : Option Addr) (k cap : Nat), v = .sc (.slice A k cap) ∧ (0 < k ↔ ∃ n ∈ l, x ∈ n.2) ∧ HLe H K) = R
  have h64' : ¬ 64 < (l.length : Int) := by omega
  refine ACalls.into Tryz.func39 rfl Tryz.ntmps39 Tryz.results39 (by simp) ?_
  simp -implicitDefEqProofs [h64']
  refine AGo.roundsB 5 (fun μ ρ K => ∃ (i : Nat) (us : List Nat) (v : AV), μ = l.length - i ∧ i ≤ l.length ∧ us.length ≤ i ∧ (us ≠ [] ↔ ∃ n ∈ l.take i, x ∈ n.2) ∧ RawRow H 28 (nuK us) v K ∧ ρ 1 = .sc (.int .u64 (x : Int)) ∧ ρ 5 = v ∧ ρ 11 = .sl (ndsAV l) t ∧ ρ 12 = .sc (.int .i64 (l.length : Int)) ∧ ρ 13 = .sc (.int .i64 (i : Int))) ?_ (m := l.length) (by simp)
    ⟨0, [], _, rfl, by omega, by simp, by simp, .none, by simp, by simp, by simp, by simp, by simp⟩
  rintro μ ρ K ih ⟨i, us, v, rfl, hi, hul, hus, hraw, r1, r5, r11, r12, r13⟩
  by_cases hlt : i < l.length
  · have hlt' : (i : Int) < (l.length : Int) := by omega
    obtain ⟨y, hyj, hy⟩ := getAt hlt
    have hyl := List.mem_of_getElem? hy
    have hy8 := hdl y hyl
    have w1 : IntKind.i64.wrap ((i : Int) + 1) = ((i + 1 : Nat) : Int) := by rw [wrap_i64 (by omega) (by omega)]; omega
    have htk : ∀ n, n ∈ l.take (i + 1) ↔ n ∈ l.take i ∨ n = y := fun n => by rw [List.take_add_one, hy]; simp
    simp -implicitDefEqProofs [r1, r5, r11, r12, r13, hlt, hlt', hyj, AV.cells]
    refine AAlloc.intro fun b7 h7 => ?_
    simp -implicitDefEqProofs [r1]
    refine ACall.eq (c_containsU y.2 .no x hy8) ?_
    have hraw2 := raw_up hraw (HLe.set_fresh (o := .cells [.sc (.int .u64 (y.1 : Int)), .sl (nuAV y.2) .no] 76) h7)
    by_cases hx : x ∈ y.2
    · have hd : nuK us ++ [uAV y.1] = nuK (us ++ [y.1]) := by simp
      obtain ⟨A, cap, rfl⟩ := hraw2.form
      have hul' : (nuK us).length = us.length := by simp
      have hul2 : (nuK (us ++ [y.1])).length = us.length + 1 := by simp
      generalize nuK us = xs at *
      obtain ⟨ys, hys⟩ : ∃ ys, nuK (us ++ [y.1]) = ys := ⟨_, rfl⟩
      rw [hys] at hd hul2
      simp -implicitDefEqProofs [hx, r5]
      refine ACall.intro (app_rawF hraw2 rfl (by omega)) fun v' K' hv' => ?_
      rw [hd] at hv'
      obtain ⟨A', cap', rfl⟩ := hv'.form
      simp -implicitDefEqProofs [r13, w1]
      exact AGo.again ih (m' := l.length - (i + 1)) (by omega) (HLe.refl _) ⟨i + 1, us ++ [y.1], _, rfl, by omega, by simp; omega, ⟨fun _ => ⟨y, (htk y).2 (.inr rfl), hx⟩, fun _ => by simp⟩, by rw [hys]; exact hv', by simp [r1], by simp, by simp [r11], by simp [r12], by simp⟩
    · simp -implicitDefEqProofs [hx, r13, w1]
      exact AGo.again ih (m' := l.length - (i + 1)) (by omega) (HLe.refl _) ⟨i + 1, us, v, rfl, by omega, by omega, by
        rw [hus]
        exact ⟨fun ⟨n, hn, h⟩ => ⟨n, (htk n).2 (.inl hn), h⟩, fun ⟨n, hn, h⟩ => by
          rcases (htk n).1 hn with hn | rfl
          · exact ⟨n, hn, h⟩
          · exact absurd h hx⟩, hraw2, by simp [r1], by simp [r5], by simp [r11], by simp [r12], by simp⟩
  · have hlt' : ¬ (i : Int) < (l.length : Int) := by omega
    rw [List.take_of_length_le (by omega)] at hus
    simp -implicitDefEqProofs [r1, r5, r11, r12, r13, hlt, hlt']
    obtain ⟨hK, hc⟩ := hraw
    rcases hc with ⟨hn, rfl⟩ | ⟨g, zs, h1, rfl, h2, h3⟩
    · have hus0 : us = [] := by simpa using hn
      subst hus0
      refine ACall.intro (ACalls.bareNil c_sortNil) fun v K2 hv => ?_
      obtain ⟨rfl, rfl⟩ := hv
      simp -implicitDefEqProofs [r5]
      refine ACall.eq c_compactNil ?_
      simp -implicitDefEqProofs
      subst hR
      exact AFin.intro _ _ (wk_refl _) (HWk.refl _) ⟨none, 0, 0, rfl, ⟨fun h => by omega, fun h => absurd rfl (hus.2 h)⟩, hK⟩
    · have e1 : (nuK us).length = us.length := by simp
      rw [e1] at h3 r5
      have h2' : K g = some (rowC 28 us.toArray zs) := by rw [st_row, h2, nuK_arr]
      rw [e1]
      refine ACall.intro (c_sort (n := us.length) (cap := us.length + zs.length) (by simp) (by omega) h2') fun v K2 hv => ?_
      obtain ⟨rfl, d, d1, d2, d3, d4⟩ := hv
      have kd : K2 g = some (rowC 28 d zs) := d4 _ _ (by simp [Heap.set])
      simp -implicitDefEqProofs [r5]
      refine ACall.intro (c_compact (n := us.length) (cap := us.length + zs.length) d1 (by omega) (by omega) kd) fun v K3 hv => ?_
      obtain ⟨k, cs, rfl, hk, hk0, _, rfl⟩ := hv
      simp -implicitDefEqProofs
      subst hR
      refine AFin.intro _ _ (wk_refl _) (HWk.refl _) ⟨_, k, _, rfl, ?_, HLe.set_new ((HLe.set_new hK h1).trans d4) h1⟩
      rw [← hus]
      constructor
      · intro h e
        rw [e] at hk
        simp at hk
        omega
      · intro h
        exact hk0 (List.length_pos_iff.2 h)
end Go.Proofs.YtlhgpodfhdddkaaGreatDoor
