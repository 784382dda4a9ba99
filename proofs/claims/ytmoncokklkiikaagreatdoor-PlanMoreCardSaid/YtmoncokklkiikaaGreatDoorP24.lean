/- slices.DeleteFunc over items, in place. What clashes, as a row of one's own. PlanMore: what its law's walk uses. The firings of a time, gone over, each told. -/
import Derived.Test.YtmoncokklkiikaaGreatDoorP23
set_option linter.unusedSimpArgs false
set_option linter.unusedVariables false
set_option linter.unnecessarySimpa false
namespace Go.Proofs.YtmoncokklkiikaaGreatDoor
open Rg Go
variable {H : Heap}
abbrev delF (b : Nat) : AV := .sc (.func (.func 68) #[] #[.pointer (some ⟨b, 0, none⟩)])
def isOwn (more : Jb) (x : Nat × Nat) : Bool := decide (x.2 = more.id)
theorem c_moreSame {b : Nat} {more : Jb} {t : Rg.Tok} {x : Nat × Nat} (hb : H b = some (.cells (jbC more t) 25)) : AOk Tryz.prog 68 [itAV x, ptr b] H (.sc (.bool (isOwn more x))) H := by
  unfold isOwn
  refine ACalls.into Tryz.func68 rfl Tryz.ntmps68 Tryz.results68 (by simp) ?_
  simp -implicitDefEqProofs
  refine AAlloc.intro fun b2 h2 => ?_
  have n : b ≠ b2 := by rintro rfl; rw [hb] at h2; cases h2
  have e : (x.2 : Int) = (more.id : Int) ↔ x.2 = more.id := by omega
  simp -implicitDefEqProofs [n, hb, e]
  repeat (first | exact HWk.refl _ | refine HWk.new (by assumption) ?_)
abbrev flatI (xs : List (Nat × Nat)) (zs : List AV) : List AV := (itsAV xs).flatMap AV.cells ++ zs
theorem flatI_row {xs : List (Nat × Nat)} {zs : List AV} {i : Nat} {x : Nat × Nat} (hx : xs[i]? = some x) : ((flatI xs zs).drop (i * 2)).take 2 = [.sc (.int .i64 (x.1 : Int)), .sc (.int .u64 (x.2 : Int))] :=
  flat_row (zs := zs) (szs_its xs) (c := itAV x) (by rw [List.getElem?_map, hx]; rfl)
theorem flatI_fit {xs : List (Nat × Nat)} {zs : List AV} {i : Nat} (hi : i < xs.length) : i * 2 + 2 ≤ (flatI xs zs).length := flat_fits (szs_its xs) (by simpa using hi)
theorem flatI_set {xs : List (Nat × Nat)} {zs : List AV} {i : Nat} (hi : i < xs.length) (v : Nat × Nat) : ((flatI xs zs).set (i * 2) (.sc (.int .i64 (v.1 : Int)))).set (i * 2 + 1) (.sc (.int .u64 (v.2 : Int))) = flatI (xs.set i v) zs := by
  have hx : (itsAV xs)[i]? = some (itAV xs[i]) := by rw [List.getElem?_map, List.getElem?_eq_getElem hi]; rfl
  have h1 := flat_setZ (zs := zs) (k := 0) (v := .sc (.int .i64 (v.1 : Int))) (szs_its xs) hx (by omega)
  have hs : szs 2 ((itsAV xs).set i (.agg [.sc (.int .i64 (v.1 : Int)), .sc (.int .u64 (xs[i].2 : Int))])) = true := by
    have := szs_its (xs.set i (v.1, xs[i].2))
    rw [itsAV, List.map_set] at this
    exact this
  have hx2 : ((itsAV xs).set i (.agg [.sc (.int .i64 (v.1 : Int)), .sc (.int .u64 (xs[i].2 : Int))]))[i]? = some (.agg [.sc (.int .i64 (v.1 : Int)), .sc (.int .u64 (xs[i].2 : Int))]) := by
    rw [List.getElem?_set_self (by simpa using hi)]
  have h2 := flat_setZ (zs := zs) (k := 1) (v := .sc (.int .u64 (v.2 : Int))) hs hx2 (by omega)
  show ((flatI xs zs).set (i * 2 + 0) _).set (i * 2 + 1) _ = _
  rw [h1]
  show (List.flatMap AV.cells ((itsAV xs).set i (.agg [.sc (.int .i64 (v.1 : Int)), .sc (.int .u64 (xs[i].2 : Int))])) ++ zs).set (i * 2 + 1) _ = _
  rw [h2, List.set_set]
  show _ = List.flatMap AV.cells (itsAV (xs.set i v)) ++ zs
  rw [itsAV, itsAV, List.map_set]
  rfl
theorem first_of {p : Nat × Nat → Bool} : ∀ xs : List (Nat × Nat), (∃ (i : Nat) (x : Nat × Nat), xs[i]? = some x ∧ p x = true ∧ ∀ (k : Nat) (y : Nat × Nat), k < i → xs[k]? = some y → p y = false) ∨ ∀ x ∈ xs, p x = false
  | [] => .inr (by simp)
  | x :: xs => by
    cases hp : p x with
    | true => exact .inl ⟨0, x, rfl, hp, fun k y hk => absurd hk (Nat.not_lt_zero k)⟩
    | false =>
      rcases first_of (p := p) xs with ⟨i, y, h1, h2, h3⟩ | h
      · refine .inl ⟨i + 1, y, by simpa using h1, h2, fun k w hk hw => ?_⟩
        cases k with
        | zero => simp at hw; rw [← hw]; exact hp
        | succ k => exact h3 k w (by omega) (by simpa using hw)
      · exact .inr fun y hy => by
          rcases List.mem_cons.1 hy with e | hy
          · rw [e]; exact hp
          · exact h y hy
set_option maxHeartbeats 4000000 in
theorem c_indexDel {b g cap : Nat} {more : Jb} {t : Rg.Tok} {xs : List (Nat × Nat)} {zs : List AV} (hxs : xs.length ≤ 1000000) (hb : H b = some (.cells (jbC more t) 25)) (hg : H g = some (.cells (flatI xs zs) 111)) {r : Int}
    (hr : (∃ (i : Nat) (x : Nat × Nat), xs[i]? = some x ∧ isOwn more x = true ∧ (∀ (k : Nat) (y : Nat × Nat), k < i → xs[k]? = some y → isOwn more y = false) ∧ r = (i : Int)) ∨ (∀ x ∈ xs, isOwn more x = false) ∧ r = -1) :
    AOk Tryz.prog 134 [.sc (.slice (some ⟨g, 0, none⟩) xs.length cap), delF b] H (.sc (.int .i64 r)) H := by
  refine ACalls.into Tryz.func134 rfl Tryz.ntmps134 Tryz.results134 (by simp) ?_
  simp -implicitDefEqProofs
  refine AGo.rounds (fun μ ρ K => ∃ k : Nat, μ = xs.length - k ∧ k ≤ xs.length ∧ (∀ q y, q < k → xs[q]? = some y → isOwn more y = false) ∧ ρ 0 = .sc (.slice (some ⟨g, 0, none⟩) xs.length cap) ∧ ρ 1 = delF b ∧ ρ 7 = .sc (.int .i64 (xs.length : Int)) ∧ ρ 8 = .sc (.int .i64 (k : Int)) ∧ K = H) ?_ (m := xs.length) (HLe.refl _)
    ⟨0, by omega, by omega, fun q y hq => absurd hq (Nat.not_lt_zero q), by simp, by simp, by simp, by simp, rfl⟩
  rintro μ ρ K ih ⟨k, rfl, hk, hno, r0, r1, r7, r8, rfl⟩
  rcases Nat.lt_or_ge k xs.length with hlt | hge
  · obtain ⟨x, hx, hx'⟩ := getAt hlt
    have hrow := flatI_row (zs := zs) hx'
    have hfit := flatI_fit (zs := zs) hlt
    have hw : IntKind.i64.wrap ((k : Int) + 1) = ((k + 1 : Nat) : Int) := wadd (b := 1) rfl (by omega)
    generalize flatI xs zs = F at *
    simp -implicitDefEqProofs [r0, r1, r7, r8, hlt, hg, hrow, hfit]
    refine ACall.eq (c_moreSame hb) ?_
    cases hp : isOwn more x with
    | true =>
      have e : r = (k : Int) := by
        rcases hr with ⟨i, y, h1, h2, h3, h4⟩ | ⟨h1, _⟩
        · rcases Nat.lt_trichotomy i k with h | h | h
          · have := hno i y h h1; rw [h2] at this; cases this
          · rw [h4, h]
          · have := h3 k x h hx'; rw [hp] at this; cases this
        · have := h1 x (List.mem_of_getElem? hx'); rw [hp] at this; cases this
      subst e
      simp -implicitDefEqProofs
    | false =>
      simp -implicitDefEqProofs [r8, hw]
      refine AGo.again ih (m' := xs.length - (k + 1)) (by omega) (HLe.refl _) ⟨k + 1, rfl, by omega, fun q y hq hy => ?_, by simp [r0], by simp [r1], by simp [r7], by simp, rfl⟩
      rcases Nat.lt_or_ge q k with h | h
      · exact hno q y h hy
      · obtain rfl : q = k := by omega
        rw [hx'] at hy
        rw [← Option.some.inj hy]; exact hp
  · have hn : ¬ k < xs.length := by omega
    have e : r = -1 := by
      rcases hr with ⟨i, y, h1, h2, _, _⟩ | ⟨_, h⟩
      · have hi := (List.getElem?_eq_some_iff.1 h1).1
        have := hno i y (by omega) h1; rw [h2] at this; cases this
      · exact h
    subst e
    simp -implicitDefEqProofs [r7, r8, hn]
theorem c_deleteNil {b : Nat} {more : Jb} {t : Rg.Tok} (hb : H b = some (.cells (jbC more t) 25)) : AOk Tryz.prog 67 [.sc (.slice none 0 0), delF b] H (.sc (.slice none 0 0)) H := by
  have hi : AOk Tryz.prog 134 [.sc (.slice none 0 0), delF b] H (.sc (.int .i64 (-1))) H := by
    refine ACalls.into Tryz.func134 rfl Tryz.ntmps134 Tryz.results134 (by simp) ?_
    simp -implicitDefEqProofs
    refine AGo.rounds (fun μ ρ K => ρ 7 = .sc (.int .i64 0) ∧ ρ 8 = .sc (.int .i64 0) ∧ K = H) ?_ (m := 0) (HLe.refl _) ⟨by simp, by simp, rfl⟩
    rintro μ ρ K ih ⟨r7, r8, rfl⟩
    simp -implicitDefEqProofs [r7, r8]
  refine ACalls.into Tryz.func67 rfl Tryz.ntmps67 Tryz.results67 (by simp) ?_
  simp -implicitDefEqProofs
  refine ACall.eq hi ?_
  simp -implicitDefEqProofs
def keepI (more : Jb) (x : Nat × Nat) : Bool := !isOwn more x
set_option maxRecDepth 100000 in
set_option maxHeartbeats 8000000 in
theorem c_deleteRaw {b g cap : Nat} {more : Jb} {t : Rg.Tok} {xs : List (Nat × Nat)} {zs : List AV} (hxs : xs.length ≤ 1000000) (hb : H b = some (.cells (jbC more t) 25)) (hg : H g = some (.cells (flatI xs zs) 111)) (hlen : (flatI xs zs).length = cap * 2) (hcap : xs.length ≤ cap) :
    ACalls Tryz.prog 67 [.sc (.slice (some ⟨g, 0, none⟩) xs.length cap), delF b] H (fun v K => ∃ zs', v = .sc (.slice (some ⟨g, 0, none⟩) (xs.filter (keepI more)).length cap) ∧ K g = some (.cells (flatI (xs.filter (keepI more)) zs') 111) ∧ (flatI (xs.filter (keepI more)) zs').length = cap * 2 ∧ ∀ p ob, p ≠ g → H p = some ob → K p = some ob) := by
  have hbg : b ≠ g := by rintro rfl; rw [hb] at hg; simp at hg
  generalize hR : (fun (v : AV) (K : Heap) => ∃ zs', v = .sc (.slice (some ⟨g, 0, none⟩) (xs.filter (keepI more)).length cap) ∧ K g = some (.cells (flatI (xs.filter (keepI more)) zs') 111) ∧ (flatI (xs.filter (keepI more)) zs').length = cap * 2 ∧ ∀ p ob, p ≠ g → H p = some ob → K p = some ob) = R
  refine ACalls.into Tryz.func67 rfl Tryz.ntmps67 Tryz.results67 (by simp) ?_
  simp -implicitDefEqProofs
  rcases first_of (p := isOwn more) xs with ⟨i, x, h1, h2, h3⟩ | hno
  · have hi := (List.getElem?_eq_some_iff.1 h1).1
    have hidx := c_indexDel (cap := cap) hxs hb hg (r := (i : Int)) (.inl ⟨i, x, h1, h2, h3, rfl⟩)
    have hne : ¬ (i : Int) = -1 := by omega
    have hwi : IntKind.i64.wrap ((i : Int) + 1) = ((i + 1 : Nat) : Int) := wadd (b := 1) rfl (by omega)
    have hpre : xs.take i = (xs.take (i + 1)).filter (keepI more) := by
      rw [List.take_succ_eq_append_getElem hi, List.filter_append]
      have e : xs[i] = x := (List.getElem?_eq_some_iff.1 h1).2
      rw [e, List.filter_eq_self.2 fun y hy => by
        obtain ⟨k, hk, e⟩ := List.mem_take_iff_getElem.1 hy
        have := h3 k y (by omega) (by rw [List.getElem?_eq_getElem (by omega), e])
        unfold keepI; rw [this]; rfl]
      simp [keepI, h2]
    refine ACall.eq hidx ?_
    simp -implicitDefEqProofs [hne, hwi]
    refine AGo.rounds (fun μ ρ K => ∃ (i j : Nat) (ys : List (Nat × Nat)), μ = xs.length - j ∧ i < j ∧ j ≤ xs.length ∧ ys.length = xs.length ∧ ys.take i = (xs.take j).filter (keepI more) ∧ (∀ q, j ≤ q → ys[q]? = xs[q]?) ∧ ρ 0 = .sc (.slice (some ⟨g, 0, none⟩) xs.length cap) ∧ ρ 1 = delF b ∧ ρ 5 = .sc (.int .i64 (i : Int)) ∧ ρ 6 = .sc (.int .i64 (j : Int)) ∧ K g = some (.cells (flatI ys zs) 111) ∧ ∀ p ob, p ≠ g → H p = some ob → K p = some ob) ?_ (m := xs.length - (i + 1)) (HLe.refl _)
      ⟨i, i + 1, xs, rfl, by omega, hi, rfl, hpre, fun _ _ => rfl, by simp, by simp, by simp, by simp, hg, fun p ob _ h => h⟩
    clear hidx hne hwi hpre h1 h2 h3 hi
    rintro μ ρ K ih ⟨i, j, ys, rfl, hij, hj, hyl, hpre, hrest, r0, r1, r5, r6, kg, hk⟩
    have kb := hk b _ hbg hb
    rcases Nat.lt_or_ge j xs.length with hlt | hge
    · obtain ⟨x, hx, hx'⟩ := getAt hlt
      have hyx : ys[j]? = some x := by rw [hrest j (Nat.le_refl _)]; exact hx'
      have hjl : j < ys.length := by omega
      have hil : i < ys.length := by omega
      have hrow := flatI_row (zs := zs) hyx
      have hfit := flatI_fit (zs := zs) hjl
      have hfit2 := flatI_fit (zs := zs) hil
      have hset := flatI_set (zs := zs) hil x
      have hwj : IntKind.i64.wrap ((j : Int) + 1) = ((j + 1 : Nat) : Int) := wadd (b := 1) rfl (by omega)
      have hwi : IntKind.i64.wrap ((i : Int) + 1) = ((i + 1 : Nat) : Int) := wadd (b := 1) rfl (by omega)
      have hilx : i < xs.length := by omega
      obtain ⟨F, hF⟩ : ∃ F, flatI ys zs = F := ⟨_, rfl⟩
      rw [hF] at hrow hfit hfit2 hset kg
      simp -implicitDefEqProofs [r0, r6, hlt, kg, hrow, hfit]
      refine AAlloc.intro fun b7 h7 => ?_
      have ng7 : g ≠ b7 := by rintro rfl; rw [kg] at h7; cases h7
      have nb7 : b ≠ b7 := by rintro rfl; rw [kb] at h7; cases h7
      simp -implicitDefEqProofs [r1]
      generalize hK1 : Heap.set K b7 _ = K1
      have k7 : K1 b7 = some (.cells [.sc (.int .i64 (x.1 : Int)), .sc (.int .u64 (x.2 : Int))] 111) := by rw [← hK1]; simp [Heap.set]
      have kg1 : K1 g = some (.cells F 111) := by rw [← hK1]; simp [Heap.set, ng7, kg]
      have kb1 : K1 b = some (.cells (jbC more t) 25) := by rw [← hK1]; simp [Heap.set, nb7, kb]
      have hk1 : ∀ p ob, p ≠ g → H p = some ob → K1 p = some ob := fun p ob hp h => by
        have h2 := hk p ob hp h
        have : p ≠ b7 := by rintro rfl; rw [h2] at h7; cases h7
        rw [← hK1]; simp [Heap.set, this, h2]
      clear hK1 h7 hk kb kg
      refine ACall.eq (c_moreSame kb1) ?_
      cases hp : isOwn more x with
      | true =>
        have hpre' : ys.take i = (xs.take (j + 1)).filter (keepI more) := by
          rw [List.take_succ_eq_append_getElem hlt, List.filter_append, hx, hpre]
          simp [keepI, hp]
        simp -implicitDefEqProofs [r6, hwj]
        exact AGo.again ih (m' := xs.length - (j + 1)) (by omega) (HLe.refl _) ⟨i, j + 1, ys, rfl, by omega, by omega, hyl, hpre', fun q hq => hrest q (by omega), by simp [r0], by simp [r1], by simp [r5], by simp, by rw [hF]; exact kg1, hk1⟩
      | false =>
        have hpre' : (ys.set i x).take (i + 1) = (xs.take (j + 1)).filter (keepI more) := by
          rw [List.take_succ_eq_append_getElem hlt, List.filter_append, hx, ← hpre, List.take_succ_eq_append_getElem (by simpa using hil), List.getElem_set_self, List.take_set_of_le (Nat.le_refl i)]
          simp [keepI, hp]
        have hfi1 : i * 2 + 2 ≤ F.length := hfit2
        obtain ⟨F2, hF2⟩ : ∃ F2, (F.set (i * 2) (AV.sc (.int .i64 (x.1 : Int)))).set (i * 2 + 1) (.sc (.int .u64 (x.2 : Int))) = F2 := ⟨_, rfl⟩
        rw [hF2] at hset
        simp -implicitDefEqProofs [r0, r5, r6, k7, kg1, hilx, hfi1, hF2, hwi, hwj]
        refine AGo.again ih (m' := xs.length - (j + 1)) (by omega) (HLe.refl _) ⟨i + 1, j + 1, ys.set i x, rfl, by omega, by omega, by rw [List.length_set]; exact hyl, hpre', fun q hq => by rw [List.getElem?_set_ne (by omega)]; exact hrest q (by omega), by simp [r0], by simp [r1], by simp, by simp, by rw [← hset]; simp [Heap.set], fun p ob hp h => ?_⟩
        simp only [Heap.set, if_neg hp]
        exact hk1 p ob hp h
    · obtain rfl : j = xs.length := by omega
      have hn : ¬ xs.length < xs.length := Nat.lt_irrefl _
      rw [List.take_length] at hpre
      have hDl : (xs.filter (keepI more)).length = i := by rw [← hpre, List.length_take]; omega
      have hT : Tryz.prog.underlying 105 = some (.slice 111) := by kernel_rfl
      have hfr := c_sliceFrom (H := K) (k := .i64) (T := 105) (sz := 2) hT (by kernel_rfl) (g := g) (o := 0) (len := xs.length) (cap := cap) (lo := i) (by omega) hcap
      have hoff : (if cap = i then 0 else 0 + i * 2) = i * 2 := by rw [if_neg (by omega), Nat.zero_add]
      rw [hoff] at hfr
      have hfl : ∀ l : List (Nat × Nat), ((itsAV l).flatMap AV.cells).length = l.length * 2 := fun l => by rw [flat_length (szs_spec (szs_its l)), List.length_map]
      have hFl : (flatI ys zs).length = cap * 2 := by
        rw [← hlen, List.length_append, List.length_append, hfl, hfl, hyl]
      have htk : (flatI ys zs).take (i * 2) = (itsAV (xs.filter (keepI more))).flatMap AV.cells := by
        have e : flatI ys zs = (itsAV (ys.take i)).flatMap AV.cells ++ ((itsAV (ys.drop i)).flatMap AV.cells ++ zs) := by
          unfold flatI itsAV
          rw [← List.append_assoc, ← List.flatMap_append, ← List.map_append, List.take_append_drop]
        rw [e, hpre]
        exact List.take_left' (by rw [hfl, hDl])
      have htz : tzero Tryz.prog 111 = some (.agg #[.int .i64 0, .int .u64 0]) := by kernel_rfl
      have hcl := c_clearBare (P := Tryz.prog) (n := xs.length - i) (c := cap - i) (o := i * 2) (sz := 2) hT htz (fun q hq => by simp [Value.cells] at hq; rcases hq with rfl | rfl <;> rfl) rfl (by omega) kg (by rw [hFl]; omega)
      rw [htk] at hcl
      have hto := fun K => c_sliceTo (H := K) (k := .i64) (T := 105) (sz := 2) hT (by kernel_rfl) (g := g) (o := 0) (len := xs.length) (cap := cap) (hi := i) (by omega)
      simp -implicitDefEqProofs [r0, r5, r6, hn]
      refine ACall.eq hfr ?_
      simp -implicitDefEqProofs
      refine ACall.eq hcl ?_
      simp -implicitDefEqProofs [r0, r5]
      refine ACall.eq (hto _) ?_
      simp -implicitDefEqProofs
      subst hR
      refine AFin.intro _ _ (wk_refl _) (HWk.refl _) ⟨(Builtin.zeroCells (Value.agg #[.int .i64 0, .int .u64 0]).cells (xs.length - i)).toList.map .sc ++ (flatI ys zs).drop (i * 2 + (xs.length - i) * 2), by rw [hDl], ?_, ?_, fun p ob hp h => ?_⟩
      · simp only [Heap.set, if_true]
        rfl
      · rw [List.length_append, hfl, hDl, List.length_append, List.length_map, Array.length_toList, size_zeroCells, List.length_drop, hFl]
        have : (Value.agg #[.int .i64 0, .int .u64 0]).cells.size = 2 := rfl
        rw [this]
        omega
      · simp only [Heap.set, if_neg hp]
        exact hk p ob hp h
  · have hidx := c_indexDel (cap := cap) hxs hb hg (r := -1) (.inr ⟨hno, rfl⟩)
    have hD : xs.filter (keepI more) = xs := List.filter_eq_self.2 fun y hy => by unfold keepI; rw [hno y hy]; rfl
    refine ACall.eq hidx ?_
    simp -implicitDefEqProofs
    subst hR
    rw [hD]
    exact AFin.intro _ _ (wk_refl _) (HWk.refl _) ⟨zs, rfl, hg, hlen, fun p ob _ h => h⟩
end Go.Proofs.YtmoncokklkiikaaGreatDoor
namespace Go.Proofs.YtmoncokklkiikaaGreatDoor
open Rg Go
variable {H : Heap}
theorem itZero : ∀ z, tzero Tryz.prog 111 = some z → ∀ q ∈ z.cells.toList, q.oneCell' = true := by
  intro z hz q hq
  have : tzero Tryz.prog 111 = some (.agg #[.int .i64 0, .int .u64 0]) := by kernel_rfl
  rw [this] at hz
  cases hz
  simp [Value.cells] at hq
  rcases hq with rfl | rfl <;> rfl
theorem raw_mono {sz : Nat} {H0 H1 K : Heap} {e : TypeId} {xs : List AV} {v : AV} (hl : HLe H0 H1) (h : RawRowZ sz H1 e xs v K) : RawRowZ sz H0 e xs v K :=
  ⟨hl.trans h.1, h.2.imp id fun ⟨g, zs, cap, h1, h2⟩ => ⟨g, zs, cap, hl.none h1, h2⟩⟩
theorem raw_base {sz : Nat} {H0 K : Heap} {e : TypeId} {xs : List AV} {v : AV} (h : RawRowZ sz H0 e xs v K) : ∃ H1, RawRowZ sz H1 e xs v K ∧ HLe H0 H1 ∧ ∀ p o, K p = some o → (∀ cs T, o ≠ .cells cs T) → H1 p = some o := by
  obtain ⟨hl, ⟨h1, h2⟩ | ⟨g, zs, cap, h1, h2, h3, h4⟩⟩ := h
  · exact ⟨K, ⟨HLe.refl _, .inl ⟨h1, h2⟩⟩, hl, fun _ _ h _ => h⟩
  · refine ⟨K.del g, ⟨fun b ob hb => ?_, .inr ⟨g, zs, cap, by simp [Heap.del], h2, h3, h4⟩⟩, HLe.del_new hl h1, fun p o hp ho => ?_⟩
    · unfold Heap.del at hb
      split at hb
      · cases hb
      · exact hb
    · have : p ≠ g := by rintro rfl; rw [h3] at hp; cases hp; exact ho _ _ rfl
      simp [Heap.del, this, hp]
theorem raw_other {sz sz' : Nat} {H0 K G0 K4 Hn : Heap} {e e' : TypeId} {xs ys : List AV} {v : AV} {t' : Rg.Tok} (h : RawRowZ sz H0 e xs v K) (hl : HLe H0 Hn) (hg : ∀ p o, K p = some o → (∀ n cap, o ≠ .open n cap sz' e') → G0 p = some o) (h4 : Grows G0 ys sz' e' t' K4) (h5 : HLe K4 Hn) : RawRowZ sz H0 e xs v Hn :=
  ⟨hl, h.2.imp id fun ⟨g, zs, cap, h1, h2, h3, h6⟩ => ⟨g, zs, cap, h1, h2, h5 _ _ (h4.le _ _ (hg _ _ h3 (fun _ _ h => by cases h))), h6⟩⟩
set_option maxHeartbeats 8000000 in
theorem c_pClashesR (hG : Glob H) (hT : GlobT H) {js : List Jb} (hj : JobsOk js) (fr tt most : Int) (hmost : most ≤ 1000000) :
    ACalls Tryz.prog 59 [.sl (jobsAV js) .no, .sc (.int .i64 fr), .sc (.int .i64 tt), .sc (.int .i64 most)] H (fun v K => RawRowZ 2 H 111 ((clashP (planI js fr tt most)).map pitAV) v K) := by
  have hr := c_runsI hG hT hj fr tt most hmost
  have hLm := planI_len js fr tt most
  have hok := planI_ok (js := js) (fr := fr) (tt := tt) (most := most)
  have hjb := fun {x y} => planI_job (js := js) (fr := fr) (tt := tt) (most := most) (x := x) (y := y)
  generalize planI js fr tt most = L at *
  obtain ⟨R, hR⟩ : ∃ R, clashP L = R := ⟨_, rfl⟩
  rw [hR]
  refine ACalls.into Tryz.func59 rfl Tryz.ntmps59 Tryz.results59 (by simp) ?_
  simp -implicitDefEqProofs
  refine ACall.eq hr ?_
  simp -implicitDefEqProofs
  clear hr
  refine AGo.roundsB 9 (fun μ ρ K => ∃ (i : Nat) (s : List PI × List PI) (A : Option Addr) (cap : Nat) (t2 : Rg.Tok), μ = L.length - i ∧ i ≤ L.length ∧ (clashGo (L.drop i) s).1 = R ∧ s.1.length ≤ i ∧ s.2.length ≤ i ∧ (∀ y ∈ s.2, y ∈ L) ∧ ρ 9 = .sc (.slice A s.1.length cap) ∧ ρ 10 = .sl (s.2.map runAV) t2 ∧ ρ 20 = .sl (L.map runAV) .no ∧ ρ 21 = .sc (.int .i64 (L.length : Int)) ∧ ρ 22 = .sc (.int .i64 (i : Int)) ∧ HLe H K ∧
    RawRowZ 2 H 111 (s.1.map pitAV) (.sc (.slice A s.1.length cap)) K ∧ GrowsK H (s.2.map runAV).length 5 189 t2 K) ?_ (m := L.length) (by simp)
    ⟨0, ([], []), none, 0, .nil, by omega, by omega, hR, by simp, by simp, by simp, by simp, by simp, by simp, by simp, by simp, HLe.refl _, RawRowZ.none, .inl ⟨rfl, rfl⟩⟩
  rintro μ ρ K ih ⟨i, s, A, cap, t2, rfl, hi, hgo, hs1, hs2, hsL, r9, r10, r20, r21, r22, hle, hg1, hg2⟩
  obtain ⟨out, kept⟩ := s
  simp only at hs1 hs2 hsL r9 r10 hg1 hg2
  rcases Nat.lt_or_ge i L.length with hlt | hge
  · obtain ⟨x, hx, hx'⟩ := getAt hlt
    have hxL := List.mem_of_getElem? hx'
    have hxok : x.ok := hok x hxL
    rw [List.drop_eq_getElem_cons hlt, clashGo, hx] at hgo
    simp only at hgo
    have hwi : IntKind.i64.wrap ((i : Int) + 1) = ((i + 1 : Nat) : Int) := wadd (b := 1) rfl (by omega)
    simp -implicitDefEqProofs [r20, r21, r22, hlt, hx]
    refine AAlloc.intro fun b12 h12 => ?_
    simp -implicitDefEqProofs
    generalize hK1 : Heap.set K b12 _ = K1
    have l1 : HLe K K1 := by rw [← hK1]; exact HLe.set_fresh h12
    have k12 : K1 b12 = some (.cells (runC x) 189) := by rw [← hK1]; simp [Heap.set]
    clear hK1 h12
    have hle := hle.trans l1
    have hg1 := up_raw hg1 l1
    have hg2 := hg2.up l1
    simp -implicitDefEqProofs [r10]
    refine AGo.joinLoop (fun ρ' K' => ρ' 9 = .sc (.slice A out.length cap) ∧ ρ' 10 = .sl (kept.map runAV) t2 ∧ ρ' 12 = ptr b12 ∧ ρ' 20 = .sl (L.map runAV) .no ∧ ρ' 21 = .sc (.int .i64 (L.length : Int)) ∧ ρ' 22 = .sc (.int .i64 (i : Int)) ∧ ρ' 13 = .sc (.int .i64 (hits kept x : Int)) ∧ HLe K1 K') (fun k' hk' => ?_) ?_
    · refine AGo.rounds (fun μ ρ' K' => ∃ k : Nat, μ = kept.length - k ∧ k ≤ kept.length ∧ ρ' 9 = .sc (.slice A out.length cap) ∧ ρ' 10 = .sl (kept.map runAV) t2 ∧ ρ' 12 = ptr b12 ∧ ρ' 20 = .sl (L.map runAV) .no ∧ ρ' 21 = .sc (.int .i64 (L.length : Int)) ∧ ρ' 22 = .sc (.int .i64 (i : Int)) ∧ ρ' 26 = .sl (kept.map runAV) t2 ∧ ρ' 27 = .sc (.int .i64 (kept.length : Int)) ∧ ρ' 13 = .sc (.int .i64 (hits (kept.take k) x : Int)) ∧ ρ' 28 = .sc (.int .i64 (k : Int)) ∧ HLe K1 K') ?_ (m := kept.length) (HLe.refl _)
        ⟨0, by omega, by omega, by simp [r9], by simp [r10], by simp, by simp [r20], by simp [r21], by simp [r22], by simp, by simp, by simp [hits], by simp, HLe.refl _⟩
      clear ih hgo r9 r10 r20 r21 r22
      rintro μ ρ' K' ih2 ⟨k, rfl, hk, r9, r10, r12, r20, r21, r22, r26, r27, r13, r28, hle2⟩
      rcases Nat.lt_or_ge k kept.length with hkl | hkl
      · obtain ⟨y, hy, hy'⟩ := getAt hkl
        have hyL := hsL y (List.mem_of_getElem? hy')
        have hyok : y.ok := hok y hyL
        have hjob := hjb hxL hyL
        unfold PI.ok at hxok hyok
        have hct := hits_take hkl x
        rw [hy] at hct
        have hcl := hits_le (kept.take k) x
        rw [List.length_take] at hcl
        generalize hits (kept.take k) x = c at *
        have hwk : IntKind.i64.wrap ((k : Int) + 1) = ((k + 1 : Nat) : Int) := wadd (b := 1) rfl (by omega)
        have hwc : IntKind.i64.wrap ((c : Int) + 1) = ((c + 1 : Nat) : Int) := wadd (b := 1) rfl (by omega)
        have i1 : (y.job : Int) = (x.job : Int) ↔ y.job = x.job := by omega
        have i3 : (y.place : Int) = (x.place : Int) ↔ y.place = x.place := by omega
        have i2 : (x.at_ : Int) < (y.at_ : Int) + (y.tmo : Int) ↔ x.at_ < y.at_ + y.tmo := by omega
        have q12 := hle2 _ _ k12
        simp -implicitDefEqProofs [r26, r27, r28, hkl, hy]
        refine AAlloc.intro fun b15 h15 => ?_
        have n12 : b12 ≠ b15 := by rintro rfl; rw [q12] at h15; cases h15
        have hl2 : ∀ o, HLe K1 (K'.set b15 o) := fun o => hle2.trans (HLe.set_fresh h15)
        by_cases h1 : y.place = x.place
        · have h0 := hjob h1
          by_cases h2 : x.at_ < y.at_ + y.tmo
          · have hr : hit x y = true := by unfold hit; simp [h1, h2]
            rw [hr, if_pos rfl] at hct
            simp -implicitDefEqProofs [r12, q12, n12, i1, i2, i3, h0, h1, h2, r13, r28, hwk, hwc]
            exact AGo.again ih2 (m' := kept.length - (k + 1)) (by omega) (HLe.refl _) ⟨k + 1, rfl, by omega, by simp [r9], by simp [r10], by simp [r12], by simp [r20], by simp [r21], by simp [r22], by simp [r26], by simp [r27], by simp [hct], by simp, hl2 _⟩
          · have hr : hit x y = false := by unfold hit; simp [h2]
            rw [hr, if_neg (by simp)] at hct
            simp -implicitDefEqProofs [r12, q12, n12, i1, i2, i3, h0, h1, h2, r13, r28, hwk, hwc]
            exact AGo.again ih2 (m' := kept.length - (k + 1)) (by omega) (HLe.refl _) ⟨k + 1, rfl, by omega, by simp [r9], by simp [r10], by simp [r12], by simp [r20], by simp [r21], by simp [r22], by simp [r26], by simp [r27], by simp [r13, hct], by simp, hl2 _⟩
        · have hr : hit x y = false := by unfold hit; simp [h1]
          rw [hr, if_neg (by simp)] at hct
          by_cases h0 : y.job = x.job
          · simp -implicitDefEqProofs [r12, q12, n12, i1, i3, h0, h1, r13, r28, hwk, hwc]
            exact AGo.again ih2 (m' := kept.length - (k + 1)) (by omega) (HLe.refl _) ⟨k + 1, rfl, by omega, by simp [r9], by simp [r10], by simp [r12], by simp [r20], by simp [r21], by simp [r22], by simp [r26], by simp [r27], by simp [r13, hct], by simp, hl2 _⟩
          · simp -implicitDefEqProofs [r12, q12, n12, i1, h0, r13, r28, hwk, hwc]
            exact AGo.again ih2 (m' := kept.length - (k + 1)) (by omega) (HLe.refl _) ⟨k + 1, rfl, by omega, by simp [r9], by simp [r10], by simp [r12], by simp [r20], by simp [r21], by simp [r22], by simp [r26], by simp [r27], by simp [r13, hct], by simp, hl2 _⟩
      · have hk2 : ¬ k < kept.length := by omega
        rw [List.take_of_length_le hkl] at r13
        simp -implicitDefEqProofs [r27, r28, hk2]
        exact hk' _ _ ⟨by simp [r9], by simp [r10], by simp [r12], by simp [r20], by simp [r21], by simp [r22], by simp [r13], hle2⟩
    · clear r9 r10 r20 r21 r22
      rintro ρ' K' ⟨r9, r10, r12, r20, r21, r22, r13, hle2⟩
      have q12 := hle2 _ _ k12
      have hg1 := up_raw hg1 hle2
      have hg2 := hg2.up hle2
      have hle := hle.trans hle2
      generalize hits kept x = c at *
      by_cases h1 : x.lim ≤ (c : Int)
      · rw [if_pos h1] at hgo
        obtain ⟨H1, b1, b2, b3⟩ := raw_base hg1
        have hsz : szs 2 (out.map pitAV) = true := szs_map (f := pitAV) (fun _ => rfl) _
        have hd : out.map pitAV ++ [pitAV x] = (out ++ [x]).map pitAV := by simp
        have hol : (out.map pitAV).length = out.length := by simp
        simp -implicitDefEqProofs [r13, r12, q12, h1, r9]
        refine ACall.intro (app_rawZ (by decide) (e := 111) el_105 itZero b1 hsz (y := pitAV x) rfl (by simp; omega) (by simp [maxLen]; omega)) fun v' K2 hR' => ?_
        rw [hd] at hR'
        obtain ⟨A', cap', rfl⟩ := form_raw hR'
        rw [List.length_map] at hR'
        have hg2' : GrowsK H (kept.map runAV).length 5 189 t2 K2 := hg2.imp id fun ⟨g, cap, c1, c2, c3⟩ => ⟨g, cap, c1, c2, hR'.1 _ _ (b3 _ _ c3 (fun _ _ h => by cases h))⟩
        simp -implicitDefEqProofs [r22, hwi]
        exact AGo.again ih (m' := L.length - (i + 1)) (by omega) (HLe.refl _) ⟨i + 1, (out ++ [x], kept), A', cap', t2, rfl, by omega, hgo, by simp; omega, by simp; omega, hsL, by simp, by simp [r10], by simp [r20], by simp [r21], by simp, b2.trans hR'.1, raw_mono b2 hR', hg2'⟩
      · rw [if_neg h1] at hgo
        obtain ⟨G0, G, a1, a2, a3, a4⟩ := hg2.grows hle
        have hsz : szs 5 (kept.map runAV) = true := szs_map (f := runAV) (fun _ => rfl) _
        have hd : kept.map runAV ++ [.agg [.sc (.int .i64 (x.at_ : Int)), .sc (.int .u64 (x.job : Int)), .sc (.int .i64 ((x.at_ : Int) + (x.tmo : Int))), .sc (.int .i64 x.lim), .sc (.int .i64 (x.place : Int))]] = (kept ++ [x]).map runAV := by simp
        have hol : (kept.map runAV).length = kept.length := by simp
        simp -implicitDefEqProofs [r13, r12, q12, h1, r10]
        refine AApp.grows el_186 a1 a2 (by simp) hsz (by simp [szs]) (by simp; omega) (by simp [maxLen]; omega) fun t' K4 Hn hg' hl' => ?_
        rw [hd] at hg' ⊢
        obtain ⟨b1, b2⟩ := GrowsK.of a3 hg' hl'
        simp -implicitDefEqProofs [r22, hwi]
        exact AGo.again ih (m' := L.length - (i + 1)) (by omega) (HLe.refl _) ⟨i + 1, (out, kept ++ [x]), A, cap, t', rfl, by omega, hgo, by simp; omega, by simp; omega, (fun y hy => by
          rcases List.mem_append.1 hy with h | h
          · exact hsL y h
          · rw [List.mem_singleton.1 h]; exact hxL), by simp [r9], by simp, by simp [r20], by simp [r21], by simp, b2, raw_other hg1 b2 a4 hg' hl', b1⟩
  · have hn : ¬ i < L.length := by omega
    rw [List.drop_of_length_le hge] at hgo
    unfold clashGo at hgo
    subst hgo
    simp -implicitDefEqProofs [r9, r21, r22, hn]
    exact ⟨_, _, wk_refl _, HWk.refl _, hg1⟩
end Go.Proofs.YtmoncokklkiikaaGreatDoor
namespace Go.Proofs.YtmoncokklkiikaaGreatDoor
open Rg Go
variable {H : Heap}
theorem clash_sub {L : List PI} : ∀ y ∈ clashP L, y ∈ L := fun y hy => by
  rw [← clashIx_map] at hy
  obtain ⟨k, hk, rfl⟩ := List.mem_map.1 hy
  have := clashIx_lt L k hk
  rw [List.getD_eq_getElem?_getD, List.getElem?_eq_getElem this]
  exact List.getElem_mem _
theorem filt_it {js : List Jb} {more : Jb} {a b : Nat} {W V : List PI} (h : MoreOk js more a b W) (hV : ∀ y ∈ V, y ∈ W) : (V.map PI.it).filter (isOwn more) = (V.filter fun y => !decide (y.place < js.length)).map PI.it ∧ (V.map PI.it).filter (keepI more) = (V.filter fun y => decide (y.place < js.length)).map PI.it := by
  have key : ∀ y ∈ V, isOwn more (PI.it y) = !decide (y.place < js.length) := fun y hy => by
    have := h.jobs y (hV y hy)
    unfold isOwn PI.it
    simp only
    by_cases hp : y.place < js.length
    · have : ¬ y.job = more.id := fun e => this.1 e hp
      simp [hp, this]
    · have : y.job = more.id := this.2 hp
      simp [hp, this]
  rw [List.filter_map, List.filter_map]
  constructor
  · congr 1
    exact List.filter_congr fun y hy => key y hy
  · congr 1
    refine List.filter_congr fun y hy => ?_
    show keepI more (PI.it y) = _
    unfold keepI
    rw [key y hy, Bool.not_not]
theorem mo_own {js : List Jb} {more : Jb} {a b : Nat} {W : List PI} (h : MoreOk js more a b W) : (W.map PI.it).filter (isOwn more) = (restJ a b more).map fun t => (t, more.id) := by
  rw [(filt_it h fun y hy => hy).1, h.own]
theorem mo_rest {js : List Jb} {more : Jb} {a b : Nat} {W : List PI} (h : MoreOk js more a b W) : (W.map PI.it).filter (keepI more) = (planI js a b 61).map PI.it := by
  rw [(filt_it h fun y hy => hy).2, h.rest]
theorem mo_clash {js : List Jb} {more : Jb} {a b : Nat} {W : List PI} (h : MoreOk js more a b W) : ((clashP W).map PI.it).filter (keepI more) = (clashP (planI js a b 61)).map PI.it := by
  rw [(filt_it h fun y hy => clash_sub y hy).2, clashP_filter (fun k => decide (k < js.length)), h.rest]
theorem mo_peak {js : List Jb} {more : Jb} {a b : Nat} {W : List PI} (h : MoreOk js more a b W) : (peakP (planI js a b 61)).1 ≤ (peakP W).1 ∧ (peakP (planI [more] a b 61)).1 ≤ (peakP W).1 ∧ (peakP W).1 ≤ (peakP (planI js a b 61)).1 + (peakP (planI [more] a b 61)).1 := by
  rw [← h.rest, ← peak_same h.same]
  exact peak_more W fun y => decide (y.place < js.length)
structure Two (H0 : Heap) (n1 n2 sz : Nat) (e : TypeId) (t1 t2 : Rg.Tok) (K : Heap) : Prop where
  r1 : GrowsK H0 n1 sz e t1 K
  r2 : GrowsK H0 n2 sz e t2 K
  ne : ∀ g1 c1 z1 e1 g2 c2 z2 e2, t1 = .own g1 c1 z1 e1 → t2 = .own g2 c2 z2 e2 → g1 ≠ g2
theorem Two.swap {H0 K : Heap} {n1 n2 sz : Nat} {e : TypeId} {t1 t2 : Rg.Tok} (h : Two H0 n1 n2 sz e t1 t2 K) : Two H0 n2 n1 sz e t2 t1 K := ⟨h.r2, h.r1, fun _ _ _ _ _ _ _ _ h1 h2 => (h.ne _ _ _ _ _ _ _ _ h2 h1).symm⟩
theorem Two.up {H0 K K' : Heap} {n1 n2 sz : Nat} {e : TypeId} {t1 t2 : Rg.Tok} (h : Two H0 n1 n2 sz e t1 t2 K) (hl : HLe K K') : Two H0 n1 n2 sz e t1 t2 K' := ⟨h.r1.up hl, h.r2.up hl, h.ne⟩
theorem Two.first {H0 K : Heap} {xs : List AV} {n2 sz : Nat} {e : TypeId} {t1 t2 : Rg.Tok} (h : Two H0 xs.length n2 sz e t1 t2 K) (hl : HLe H0 K) :
    ∃ G0 G, Grows G0 xs sz e t1 G ∧ HLe G K ∧ HLe H0 G0 ∧ ∀ t' K' Hn ys, Grows G0 ys sz e t' K' → HLe K' Hn → Two H0 ys.length n2 sz e t' t2 Hn ∧ HLe H0 Hn := by
  rcases h.r1 with ⟨ht, hn⟩ | ⟨g, cap, h3, ht, h4⟩
  · obtain rfl := List.length_eq_zero_iff.1 hn
    subst ht
    refine ⟨K, K, .zero, HLe.refl _, hl, fun t' K' Hn ys hg hl' => ?_⟩
    obtain ⟨b1, b2⟩ := GrowsK.of hl hg hl'
    refine ⟨⟨b1, h.r2.up (hg.le.trans hl'), fun g1 c1 z1 e1 g2 c2 z2 e2 q1 q2 => ?_⟩, b2⟩
    rcases hg with ⟨_, ht', _⟩ | ⟨g', cap', k1, k2, _⟩
    · rw [ht'] at q1; cases q1
    · rw [k2] at q1
      cases q1
      rcases h.r2 with ⟨q, _⟩ | ⟨g3, c3, _, q, k3⟩
      · rw [q] at q2; cases q2
      · rw [q] at q2
        cases q2
        rintro rfl
        rw [k1] at k3; cases k3
  · subst ht
    have hg2 : ∀ g2 c2, t2 = .own g2 c2 sz e → K g2 = some (.open n2 c2 sz e) → g2 ≠ g := fun g2 c2 q _ => (h.ne _ _ _ _ _ _ _ _ rfl q).symm
    refine ⟨K.del g, (K.del g).set g (.open xs.length cap sz e), .inr ⟨g, cap, by simp [Heap.del], rfl, rfl⟩, fun b ob hb => ?_, HLe.del_new hl h3, fun t' K' Hn ys hg hl' => ?_⟩
    · by_cases hbg : b = g
      · subst hbg
        simp only [Heap.set, if_true] at hb
        rw [← hb]; exact h4
      · simpa [Heap.set, Heap.del, hbg] using hb
    · obtain ⟨b1, b2⟩ := GrowsK.of (HLe.del_new hl h3) hg hl'
      have hr2 : GrowsK H0 n2 sz e t2 Hn := h.r2.imp id fun ⟨g2, c2, k1, k2, k3⟩ => ⟨g2, c2, k1, k2, hl' _ _ (hg.le _ _ (by simp [Heap.del, hg2 g2 c2 k2 k3, k3]))⟩
      refine ⟨⟨b1, hr2, fun g1 c1 z1 e1 g2 c2 z2 e2 q1 q2 => ?_⟩, b2⟩
      rcases hg with ⟨_, ht', _⟩ | ⟨g', cap', k1, k2, _⟩
      · rw [ht'] at q1; cases q1
      · rw [k2] at q1
        cases q1
        rcases h.r2 with ⟨q, _⟩ | ⟨g3, c3, _, q, k3⟩
        · rw [q] at q2; cases q2
        · rw [q] at q2
          cases q2
          rintro rfl
          have := hg2 _ _ q k3
          simp [Heap.del, this, k3] at k1
theorem c_cloneOwn {js : List Jb} (hjs : js.length ≤ 1099511627744) : ACalls Tryz.prog 63 [.sl (jobsAV js) .no] H (fun v K => ∃ t, v = .sl (jobsAV js) t ∧ GrowsF H (jobsAV js) 12 25 t K) := by
  refine ACalls.nilCase (pre := []) (post := []) (fun h => ?_) ?_
  · obtain rfl := List.map_eq_nil_iff.1 h
    simp only [List.nil_append]
    refine ACalls.into Tryz.func63 rfl Tryz.ntmps63 Tryz.results63 (by simp) ?_
    simp -implicitDefEqProofs [Tok.isNil]
    exact ⟨_, _, wk_refl _, HWk.refl _, .nil, rfl, .inl ⟨rfl, .inl rfl, rfl⟩⟩
  · simp only [List.nil_append]
    have hsz := szs_jobs js
    have hxl : (jobsAV js).length = js.length := List.length_map _
    generalize jobsAV js = xs at *
    refine ACalls.into Tryz.func63 rfl Tryz.ntmps63 Tryz.results63 (by simp) ?_
    simp -implicitDefEqProofs [Tok.isNil]
    refine AApp.growsF el_95 GrowsF.zero (HLe.refl _) (by simp) hsz (by simp; omega) (by simp [maxLen]; omega) fun t' K' Hn hg hl => ?_
    rw [List.nil_append] at hg ⊢
    simp -implicitDefEqProofs
    exact ⟨_, _, wk_refl _, hl.wk, t', rfl, hg⟩
end Go.Proofs.YtmoncokklkiikaaGreatDoor
namespace Go.Proofs.YtmoncokklkiikaaGreatDoor
open Rg Go
variable {H : Heap}
theorem c_allIt2 {l b3 b4 b5 : Nat} {x : Ex} (hx : x.ok) (hm : mayX x = true) {a b : Nat} (ha : a < 13569465600) (hb : b < 13569465600) {L : List Nat} (hL : IsRun x b a L) (J : Nat → Heap → Prop) (Jx : Heap → Prop)
    (hJ : ∀ j K, J j K → K b3 = some (.cells (exC x) 42) ∧ K b4 = some (.cells [.sc (.int .i64 a)] 2) ∧ K b5 = some (.cells [.sc (.int .i64 b)] 2) ∧ GlobT K)
    (hY : ∀ (j : Nat) (K : Heap) (t : Nat), L[j]? = some t → J j K → ACalls Tryz.prog (Tryz.prog.funcs.size + 1 + l) [.sc (.int .i64 (t : Int))] K (fun v K' => (v = .sc (.bool true) ∧ J (j + 1) K') ∨ (v = .sc (.bool false) ∧ Jx K')))
    (h0 : J 0 H) : ACalls Tryz.prog 133 [.sc (.func (.yield l) #[] #[]), ptr b3, ptr b4, ptr b5] H (fun _ K => J L.length K ∨ Jx K) := by
  obtain ⟨k3, k4, k5, kG⟩ := hJ 0 H h0
  refine ACalls.into Tryz.func133 rfl Tryz.ntmps133 Tryz.results133 (by simp) ?_
  simp -implicitDefEqProofs [k3, k4]
  refine ACall.eq (c_nmay x hx a) ?_
  rw [badE_ok hm ha]
  simp -implicitDefEqProofs [k3, k5]
  refine ACall.eq (c_nmay x hx b) ?_
  rw [badE_ok hm hb]
  simp -implicitDefEqProofs [k3, k4]
  obtain ⟨r, hr⟩ := next_ex x a
  refine ACall.eq (c_after kG hx hm ha hr) ?_
  simp -implicitDefEqProofs [outAV]
  refine AGo.rounds (fun m ρ K => ∃ (j prev : Nat) (L2 : List Nat) (r : Option Nat), m = L2.length ∧ L.drop j = L2 ∧ j + L2.length = L.length ∧ prev < 13569465600 ∧ IsRun x b prev L2 ∧ IsNext x prev r ∧ ρ 0 = .sc (.func (.yield l) #[] #[]) ∧ ρ 1 = ptr b3 ∧ ρ 3 = ptr b5 ∧ ρ 5 = .sc (.int .i64 (optN r : Int)) ∧ ρ 6 = .sc (.int .i64 (errN r : Int)) ∧ J j K) ?_ (m := L.length) (HLe.refl _)
    ⟨0, a, L, r, rfl, rfl, by omega, ha, hL, hr, by simp, by simp, by simp, by simp, by simp, h0⟩
  clear hr hL h0 k3 k4 k5 kG
  rintro m ρ K ih ⟨j, prev, L2, r, rfl, hdr, hlen, hprev, hL, hr, r0, r1, r3, r5, r6, hJK⟩
  obtain ⟨k3, k4, k5, kG⟩ := hJ j K hJK
  cases L2 with
  | nil =>
    obtain ⟨r', hr', hbt⟩ := hL
    obtain rfl := next_one hr hr'
    have hj : j = L.length := by simpa using hlen
    subst hj
    cases r with
    | none =>
      simp -implicitDefEqProofs [r6, errN]
      exact ⟨_, _, wk_refl _, HWk.refl _, .inl hJK⟩
    | some t =>
      have hb1 := hbt t rfl
      have hb2 : ¬ (t : Int) ≤ (b : Int) := by omega
      have hb3 : ¬ t ≤ b := by omega
      simp -implicitDefEqProofs [r6, errN, r5, optN, r3, k5, hb2, hb3]
      exact ⟨_, _, wk_refl _, HWk.refl _, .inl hJK⟩
  | cons t L2 =>
    obtain ⟨ht, htb, hL⟩ := hL
    obtain rfl := next_one hr ht
    have hb2 : (t : Int) ≤ (b : Int) := by omega
    have htm : t < 13569465600 := ht.2.1
    simp only [List.length_cons] at hlen
    simp -implicitDefEqProofs [r6, errN, r5, optN, r3, k5, hb2, htb, r0]
    have hjt : L[j]? = some t := by
      have := congrArg (fun l => l[0]?) hdr
      simpa using this
    have hdr2 : L.drop (j + 1) = L2 := by
      rw [← List.drop_drop, hdr]; rfl
    refine ACall.intro (hY j K t hjt hJK) fun v K' hv => ?_
    rcases hv with ⟨rfl, hJ'⟩ | ⟨rfl, hJx⟩
    · obtain ⟨k3', k4', k5', kG'⟩ := hJ _ _ hJ'
      obtain ⟨r2, hr2⟩ := next_ex x t
      simp -implicitDefEqProofs [r1, r5, optN, k3']
      refine ACall.eq (c_after kG' hx hm htm hr2) ?_
      simp -implicitDefEqProofs [outAV]
      exact AGo.again ih (m' := L2.length) (by simp) (HLe.refl _) ⟨j + 1, t, L2, r2, rfl, hdr2, by omega, htm, hL, hr2, by simp [r0], by simp [r1], by simp [r3], by simp, by simp, hJ'⟩
    · simp -implicitDefEqProofs
      exact ⟨_, _, wk_refl _, HWk.refl _, .inr hJx⟩
theorem run_fires {x : Ex} {b : Nat} (hb : b < 13569465600) : ∀ (m a : Nat), (firesL x a b).length = m → IsRun x b a (firesL x a b)
  | 0, a, h => by
    rw [List.length_eq_zero_iff.1 h]
    obtain ⟨r, hr⟩ := next_ex x a
    refine ⟨r, hr, fun t ht => ?_⟩
    subst ht
    refine Nat.lt_of_not_le fun hle => ?_
    have := fires_next (b := (b : Int)) hr (by omega)
    rw [List.length_eq_zero_iff.1 h] at this
    cases this
  | m + 1, a, h => by
    obtain ⟨r, hr⟩ := next_ex x a
    cases r with
    | none =>
      rw [fires_over (by omega) hr (fun t h => by cases h)] at h
      cases h
    | some t =>
      by_cases hle : t ≤ b
      · have hn := fires_next (b := (b : Int)) hr (by omega)
        rw [hn] at h ⊢
        exact ⟨hr, hle, run_fires hb m t (by simpa using h)⟩
      · rw [fires_over (by omega) hr (fun u hu => by cases hu; omega)] at h
        cases h
end Go.Proofs.YtmoncokklkiikaaGreatDoor
