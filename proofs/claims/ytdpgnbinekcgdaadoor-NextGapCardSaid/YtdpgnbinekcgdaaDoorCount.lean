/- The firings of a time, gone over by a loop: next.All, next.Count. -/
import Derived.Test.YtdpgnbinekcgdaaDoorNextA
namespace Go.Proofs.YtdpgnbinekcgdaaDoor
open Rg Go

variable {H : Heap}

abbrev ptr (b : Nat) : AV := .sc (.pointer (some ⟨b, 0, none⟩))
/-- What next.All hands over: the function, and where its arguments lie. -/
def AllR (x : Ex) (a b : Int) (H : Heap) (r : AV) (K : Heap) : Prop :=
  ∃ b3 b4 b5, r = .sc (.func (.func 68) #[] #[.pointer (some ⟨b3, 0, none⟩), .pointer (some ⟨b4, 0, none⟩), .pointer (some ⟨b5, 0, none⟩)]) ∧ HLe H K ∧
    K b3 = some (.cells (exC x) 26) ∧ K b4 = some (.cells [.sc (.int .i64 a)] 2) ∧ K b5 = some (.cells [.sc (.int .i64 b)] 2)
theorem c_nextAll (x : Ex) (a b : Int) : ACalls Tryd.prog 46 [exAV x, .sc (.int .i64 a), .sc (.int .i64 b)] H (AllR x a b H) := by
  refine ACalls.into Tryd.func46 rfl Tryd.ntmps46 Tryd.results46 (by simp) ?_
  simp -implicitDefEqProofs
  refine AAlloc.intro fun b3 h3 => ?_
  simp -implicitDefEqProofs
  refine AAlloc.intro fun b4 h4 => ?_
  simp -implicitDefEqProofs
  refine AAlloc.intro fun b5 h5 => ?_
  have n34 : b3 ≠ b4 := by intro e; subst e; simp [Heap.set] at h4
  have n35 : b3 ≠ b5 := by intro e; subst e; simp [Heap.set, n34] at h5
  have n45 : b4 ≠ b5 := by intro e; subst e; simp [Heap.set] at h5
  simp -implicitDefEqProofs
  refine ⟨_, _, wk_refl _, HWk.refl _, b3, b4, b5, rfl, ((HLe.set_fresh h3).trans (HLe.set_fresh h4)).trans (HLe.set_fresh h5), ?_, ?_, ?_⟩
  · simp [Heap.set, n34, n35]
  · simp [Heap.set, n45]
  · simp [Heap.set]

/-- The firings one behind the other, from one moment on up to another one. -/
def IsRun (x : Ex) (b : Nat) : Nat → List Nat → Prop
  | a, [] => ∃ r, IsNext x a r ∧ ∀ t, r = some t → b < t
  | a, t :: L => IsNext x a (some t) ∧ t ≤ b ∧ IsRun x b t L
/-- Going over them: what each round leaves, the next one finds. -/
theorem c_allIt {l b3 b4 b5 : Nat} {x : Ex} (hx : x.ok) (hm : mayX x = true) {a b : Nat} (ha : a < 13569465600) (hb : b < 13569465600) {L : List Nat} (hL : IsRun x b a L) (J : Nat → Heap → Prop) (Jx : Heap → Prop)
    (hJ : ∀ j K, J j K → K b3 = some (.cells (exC x) 26) ∧ K b4 = some (.cells [.sc (.int .i64 a)] 2) ∧ K b5 = some (.cells [.sc (.int .i64 b)] 2) ∧ GlobT K)
    (hY : ∀ (j : Nat) (K : Heap) (t : Nat), j < L.length → J j K → ACalls Tryd.prog (Tryd.prog.funcs.size + 1 + l) [.sc (.int .i64 (t : Int))] K (fun v K' => (v = .sc (.bool true) ∧ J (j + 1) K') ∨ (v = .sc (.bool false) ∧ Jx K')))
    (h0 : J 0 H) : ACalls Tryd.prog 68 [.sc (.func (.yield l) #[] #[]), ptr b3, ptr b4, ptr b5] H (fun _ K => J L.length K ∨ Jx K) := by
  obtain ⟨k3, k4, k5, kG⟩ := hJ 0 H h0
  refine ACalls.into Tryd.func68 rfl Tryd.ntmps68 Tryd.results68 (by simp) ?_
  simp -implicitDefEqProofs [k3, k4]
  refine ACall.eq (c_nmay x hx a) ?_
  rw [badE_ok hm ha]
  simp -implicitDefEqProofs [k3, k5]
  refine ACall.eq (c_nmay x hx b) ?_
  rw [badE_ok hm hb]
  simp -implicitDefEqProofs [k3, k4]
  obtain ⟨r, hr⟩ := next_ex x a
  refine ACall.eq (c_after kG hx hm ha hr) ?_
  simp -implicitDefEqProofs [outAV]
  refine AGo.rounds (fun m ρ K => ∃ (j prev : Nat) (L2 : List Nat) (r : Option Nat), m = L2.length ∧ j + L2.length = L.length ∧ prev < 13569465600 ∧ IsRun x b prev L2 ∧ IsNext x prev r ∧ ρ 0 = .sc (.func (.yield l) #[] #[]) ∧ ρ 1 = ptr b3 ∧ ρ 3 = ptr b5 ∧ ρ 5 = .sc (.int .i64 (optN r : Int)) ∧ ρ 6 = .sc (.int .i64 (errN r : Int)) ∧ J j K) ?_ (m := L.length) (HLe.refl _)
    ⟨0, a, L, r, rfl, by omega, ha, hL, hr, by simp, by simp, by simp, by simp, by simp, h0⟩
  clear hr hL h0 k3 k4 k5 kG
  rintro m ρ K ih ⟨j, prev, L2, r, rfl, hlen, hprev, hL, hr, r0, r1, r3, r5, r6, hJK⟩
  obtain ⟨k3, k4, k5, kG⟩ := hJ j K hJK
  cases L2 with
  | nil =>
    obtain ⟨r', hr', hbt⟩ := hL
    obtain rfl := next_one hr hr'
    have hj : j = L.length := by simpa using hlen
    subst hj
    cases r with
    | none =>
      simp -implicitDefEqProofs [r6, errN]
      exact ⟨_, _, wk_refl _, HWk.refl _, .inl hJK⟩
    | some t =>
      have hb1 := hbt t rfl
      have hb2 : ¬ (t : Int) ≤ (b : Int) := by omega
      have hb3 : ¬ t ≤ b := by omega
      simp -implicitDefEqProofs [r6, errN, r5, optN, r3, k5, hb2, hb3]
      exact ⟨_, _, wk_refl _, HWk.refl _, .inl hJK⟩
  | cons t L2 =>
    obtain ⟨ht, htb, hL⟩ := hL
    obtain rfl := next_one hr ht
    have hb2 : (t : Int) ≤ (b : Int) := by omega
    have htm : t < 13569465600 := ht.2.1
    simp only [List.length_cons] at hlen
    simp -implicitDefEqProofs [r6, errN, r5, optN, r3, k5, hb2, htb, r0]
    refine ACall.intro (hY j K t (by omega) hJK) fun v K' hv => ?_
    rcases hv with ⟨rfl, hJ'⟩ | ⟨rfl, hJx⟩
    · obtain ⟨k3', k4', k5', kG'⟩ := hJ _ _ hJ'
      obtain ⟨r2, hr2⟩ := next_ex x t
      simp -implicitDefEqProofs [r1, r5, optN, k3']
      refine ACall.eq (c_after kG' hx hm htm hr2) ?_
      simp -implicitDefEqProofs [outAV]
      exact AGo.again ih (m' := L2.length) (by simp) (HLe.refl _) ⟨j + 1, t, L2, r2, rfl, by omega, htm, hL, hr2, by simp [r0], by simp [r1], by simp [r3], by simp, by simp, hJ'⟩
    · simp -implicitDefEqProofs
      exact ⟨_, _, wk_refl _, HWk.refl _, .inr hJx⟩

theorem HWk.delNew {K H : Heap} {b : Nat} (hb : K b = none) (h : HWk K H) : HWk K (H.del b) := fun c ob e => by
  have hc : c ≠ b := by rintro rfl; rw [hb] at e; cases e
  obtain ⟨o, h1, h2⟩ := h c ob e
  exact ⟨o, by unfold Heap.del; rw [if_neg hc]; exact h1, h2⟩
theorem GlobT.set {H : Heap} {b : Nat} {o : AObj} (h : GlobT H) (hb : ∀ us, H b ≠ some (.ro us)) : GlobT (H.set b o) := by
  obtain ⟨us, h1, h2⟩ := h
  refine ⟨us, ?_, h2⟩
  unfold Heap.set
  split
  · rename_i hc; subst hc; exact absurd h1 (hb us)
  · exact h1
theorem del_apply {H : Heap} {b c : Nat} : Heap.del H b c = if c = b then none else H c := rfl
theorem mark_nrm {Q : Post} {D : Nat} : (Q.mark D).nrm = fun ρ H => H D = some .dfr ∧ Q.nrm ρ (H.del D) := rfl
theorem mark_ret {Q : Post} {D : Nat} : (Q.mark D).ret = fun ρ H => H D = some .dfr ∧ Q.ret ρ (H.del D) := rfl
set_option maxHeartbeats 1000000 in
theorem c_count (hG : GlobT H) {x : Ex} (hx : x.ok) (hm : mayX x = true) {a b most : Nat} (ha : a < 13569465600) (hb : b < 13569465600) (hmost : most ≤ 1000000) {L : List Nat} (hL : IsRun x b a L) :
    AOk Tryd.prog 22 [exAV x, .sc (.int .i64 a), .sc (.int .i64 b), .sc (.int .i64 most)] H (.tup [.sc (.int .i64 (min L.length most : Nat)), .sc (.int .i64 0)]) H := by
  refine ACalls.into Tryd.func22 rfl Tryd.ntmps22 Tryd.results22 (by simp) ?_
  simp -implicitDefEqProofs
  refine AAlloc.intro fun b4 h4 => ?_
  simp -implicitDefEqProofs
  refine AAlloc.intro fun b7 h7 => ?_
  have n47 : b4 ≠ b7 := by intro e; subst e; simp [Heap.set] at h7
  have n74 := n47.symm
  simp -implicitDefEqProofs [n47, n74]
  generalize hK : Heap.set _ b7 _ = K1
  have k4 : K1 b4 = some (.cells (exC x) 26) := by rw [← hK]; simp [Heap.set, n47]
  have k7 : K1 b7 = some (.cells [.sc (.int .i64 most)] 3) := by rw [← hK]; simp [Heap.set]
  have kG : GlobT K1 := by rw [← hK]; exact (hG.new h4).new h7
  have e7 : H b7 = none := (HLe.set_fresh h4).none h7
  have kW : HWk H K1 := by rw [← hK]; exact HWk.new e7 (HWk.new h4 (HWk.refl _))
  clear hK
  refine go_draw 8 f_mixed (by decide +kernel) ?_
  simp -implicitDefEqProofs [k4]
  refine AQS.eq (c_nmay x hx a) ?_
  rw [badE_ok hm ha]
  simp -implicitDefEqProofs [k4]
  refine AQS.eq (c_nmay x hx b) ?_
  rw [badE_ok hm hb]
  simp -implicitDefEqProofs [k7]
  refine AAlloc.intro fun b12 h12 => ?_
  have n412 : b4 ≠ b12 := by intro e; subst e; rw [k4] at h12; cases h12
  have n712 : b7 ≠ b12 := by intro e; subst e; rw [k7] at h12; cases h12
  have e12 : H b12 = none := kW.none h12
  simp -implicitDefEqProofs [k4, n412]
  generalize hK : Heap.set K1 b12 _ = K2
  have k42 : K2 b4 = some (.cells (exC x) 26) := by rw [← hK]; simp [Heap.set, n412, k4]
  have k72 : K2 b7 = some (.cells [.sc (.int .i64 most)] 3) := by rw [← hK]; simp [Heap.set, n712, k7]
  have k122 : K2 b12 = some (.cells [.sc (.int .i64 (0 : Nat))] 3) := by rw [← hK]; simp [Heap.set]
  have kG2 : GlobT K2 := by rw [← hK]; exact kG.new h12
  have kW2 : HWk H K2 := by rw [← hK]; exact HWk.new e12 kW
  clear hK h12 k4 k7 kG kW h7
  refine ACall.intro (c_nextAll x a b) fun v K3 hv => ?_
  obtain ⟨c3, c4, c5, rfl, hle, q3, q4, q5⟩ := hv
  have k73 := hle _ _ k72
  have k123 := hle _ _ k122
  have kG3 := kG2.wk hle
  have kW3 : HWk H K3 := kW2.trans hle.wk
  have m3 : c3 ≠ b12 := by intro e; subst e; rw [q3] at k123; simp at k123
  have m4 : c4 ≠ b12 := by
    intro e; subst e; rw [q4] at k123; simp at k123
  have m5 : c5 ≠ b12 := by
    intro e; subst e; rw [q5] at k123; simp at k123
  simp -implicitDefEqProofs
  refine AGo.rangeF (gf := 68) (lb := #[.pointer (some ⟨c3, 0, none⟩), .pointer (some ⟨c4, 0, none⟩), .pointer (some ⟨c5, 0, none⟩)])
    (fun D l _ K => K b12 = some (.cells [.sc (.int .i64 (min L.length most : Nat))] 3) ∧ K D = some .dfr ∧ (∃ r, K l = some (.lrec r) ∧ r.st ≠ .busy ∧ (r.pe = none ∨ r.pe = some (.exit 1))) ∧ HWk H K) rfl (by simp) (by simp) ?_ ?_ ?_
  · intro D l hD hl
    generalize hr : ARec.mk _ _ _ _ _ _ _ _ = r0
    have hst : r0.st = .ready := by rw [← hr]
    have hpe : r0.pe = none := by rw [← hr]
    have hps : r0.ps.size = 1 := by rw [← hr]; rfl
    have hDl : D ≠ l := by intro e; subst e; simp [Heap.set] at hl
    have hl3 : K3 l = none := by simpa [Heap.set, hDl.symm] using hl
    have ne1 : ∀ {c : Nat} {o : AObj}, K3 c = some o → c ≠ D := by
      intro c o hc e
      subst e
      rw [hc] at hD
      cases hD
    have ne2 : ∀ {c : Nat} {o : AObj}, K3 c = some o → c ≠ l := by
      intro c o hc e
      subst e
      rw [hc] at hl3
      cases hl3
    have n12l := ne2 k123
    have n12D := ne1 k123
    have n7l := ne2 k73
    have n7D := ne1 k73
    have n3l := ne2 q3
    have n3D := ne1 q3
    have n4l := ne2 q4
    have n4D := ne1 q4
    have n5l := ne2 q5
    have n5D := ne1 q5
    have eD : H D = none := kW3.none hD
    have el : H l = none := kW3.none hl3
    refine (c_allIt (l := l) (b3 := c3) (b4 := c4) (b5 := c5) hx hm ha hb hL
      (fun j K => j ≤ most ∧ K b12 = some (.cells [.sc (.int .i64 (j : Nat))] 3) ∧ K l = some (.lrec r0) ∧ K D = some .dfr ∧ K b7 = some (.cells [.sc (.int .i64 most)] 3) ∧ K c3 = some (.cells (exC x) 26) ∧
        K c4 = some (.cells [.sc (.int .i64 a)] 2) ∧ K c5 = some (.cells [.sc (.int .i64 b)] 2) ∧ GlobT K ∧ HWk H K)
      (fun K => most < L.length ∧ K b12 = some (.cells [.sc (.int .i64 (most : Nat))] 3) ∧ K D = some .dfr ∧ (∃ r, K l = some (.lrec r) ∧ r.st ≠ .busy ∧ (r.pe = none ∨ r.pe = some (.exit 1))) ∧ HWk H K)
      (fun j K h => ⟨h.2.2.2.2.2.1, h.2.2.2.2.2.2.1, h.2.2.2.2.2.2.2.1, h.2.2.2.2.2.2.2.2.1⟩) ?_ ?_).mono ?_
    · rintro j K t hj ⟨hjm, g12, gl, gD, g7, g3, g4, g5, gG, gW⟩
      refine ACalls.round gl (by simp [hps]) ?_
      subst hr
      simp -implicitDefEqProofs [aputs]
      refine AGo.bgn rfl gl rfl ?_
      by_cases hjm2 : j = most
      · subst hjm2
        simp -implicitDefEqProofs [g12, g7, n12l, n7l]
        exact ⟨_, by simp [Heap.set]; rfl, .inr ⟨rfl, hj, by simp [Heap.set, n12l, g12], by simp [Heap.set, hDl, gD], ⟨_, by simp [Heap.set]; rfl, by simp, .inr rfl⟩, HWk.new el (HWk.new el gW)⟩⟩
      · have hne : ¬ (j : Int) = (most : Int) := by omega
        obtain ⟨j2, hj2⟩ : ∃ q, j + 1 = q := ⟨_, rfl⟩
        have w1 : IntKind.i64.wrap ((j : Int) + 1) = (j2 : Int) := wadd (b := 1) hj2 (by omega)
        simp -implicitDefEqProofs [g12, g7, n12l, n7l, hjm2, hne, w1]
        rw [hj2]
        have hG1 : ∀ r, GlobT (K.set l (.lrec r)) := fun r => gG.set (by simp [gl])
        refine ⟨_, by simp [Heap.set, n12l.symm]; rfl,   .inl ⟨rfl, by omega, by simp [Heap.set, n12l]; omega, by simp [Heap.set], by simp [Heap.set, hDl, n12D.symm, gD], by simp [Heap.set, n7l, n712, g7], by simp [Heap.set, n3l, m3, g3], by simp [Heap.set, n4l, m4, g4], by simp [Heap.set, n5l, m5, g5], ?_, HWk.new el (HWk.new e12 (HWk.new el gW))⟩⟩
        exact (((hG1 _).set (by simp [Heap.set, n12l, g12])).set (by simp [Heap.set, n12l.symm]))
    · have hG1 : GlobT (K3.set D .dfr) := kG3.new hD
      exact ⟨by omega, by simp [Heap.set, n12l, n12D, k123], by simp [Heap.set], by simp [Heap.set, hDl], by simp [Heap.set, n7l, n7D, k73], by simp [Heap.set, n3l, n3D, q3], by simp [Heap.set, n4l, n4D, q4], by simp [Heap.set, n5l, n5D, q5], hG1.new hl, HWk.new el (HWk.new eD kW3)⟩
    · rintro v K (⟨h1, h2, h3, h4, _, _, _, _, _, h5⟩ | ⟨h1, h2, h3, h4, h5⟩)
      · refine ⟨?_, h4, ⟨r0, h3, by rw [hst]; simp, .inl hpe⟩, h5⟩
        rw [h2, Nat.min_eq_left h1]
      · refine ⟨?_, h3, h4, h5⟩
        rw [h2, Nat.min_eq_right (by omega)]
  · rintro D l v K hD hl ⟨_, _, ⟨r, h1, h2, _⟩, _⟩
    exact ⟨r, h1, h2⟩
  · rintro D l v K r hD hl ⟨g12, gD, ⟨r', gl, _, hpe⟩, gW⟩ hK
    rw [gl] at hK
    cases hK
    have hDl : D ≠ l := by intro e; subst e; simp [Heap.set] at hl
    have hl3 : K3 l = none := by simpa [Heap.set, hDl.symm] using hl
    have n12l : b12 ≠ l := by intro e; subst e; rw [k123] at hl3; cases hl3
    have eD : H D = none := kW3.none hD
    have el : H l = none := kW3.none hl3
    rcases hpe with hpe | hpe
    · simp -implicitDefEqProofs [hpe, del_apply, n12l, g12, mark_ret, mark_nrm, hDl, gD]
      exact HWk.delNew eD (HWk.delNew el gW)
    · simp -implicitDefEqProofs [hpe, del_apply, n12l, g12, mark_ret, mark_nrm, hDl, gD]
      exact HWk.delNew eD (HWk.delNew el gW)
end Go.Proofs.YtdpgnbinekcgdaaDoor
