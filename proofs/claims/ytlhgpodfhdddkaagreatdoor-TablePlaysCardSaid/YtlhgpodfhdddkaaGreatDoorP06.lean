/- The whole run: a call does what its run over abstract values says. -/
import Derived.Test.YtlhgpodfhdddkaaGreatDoorP05
import Derived.Scope
set_option linter.unusedSimpArgs false
set_option linter.unusedVariables false
set_option linter.unnecessarySimpa false
namespace Rg
open Go Go.RowKit
variable {dds : List Deferred} {P : Program} {W0 : World} {C : Com} {H : Heap} {w : World}
def IRel : AItem → Item → Prop
  | .code c, y => y = .code c
  | .blk id, y => y = .inBlock id
  | .lp c, y => y = .inLoop c
  | .scp c, y => y = .inScope c
  | .bgn _, y => y = .beginRound
  | .ops full l, y => ∃ s, y = .inRegion full (List.range' s l.length) ∧ ∀ j, l[j]? = full[s + j]?
def IRels : List AItem → List Item → Prop
  | [], [] => True
  | x :: xs, y :: ys => IRel x y ∧ IRels xs ys
  | _, _ => False
theorem irels_cons {x : AItem} {xs : List AItem} {ys : List Item} (h : IRels (x :: xs) ys) : ∃ y ys', ys = y :: ys' ∧ IRel x y ∧ IRels xs ys' := by
  cases ys with
  | nil => exact h.elim
  | cons y ys => exact ⟨y, ys, rfl, h.1, h.2⟩
theorem irels_nil {ys : List Item} (h : IRels [] ys) : ys = [] := by
  cases ys with
  | nil => rfl
  | cons y ys => exact h.elim
theorem aexit_spec {id : Nat} : ∀ {k k' : List AItem} {kc : List Item}, aexit id k = some k' → IRels k kc → ∃ kc', exitTo id kc = some kc' ∧ IRels k' kc' := by
  intro k
  induction k with
  | nil => intro k' kc h; cases h
  | cons x k ih =>
    intro k' kc h hr
    obtain ⟨y, ys, rfl, hy, hr2⟩ := irels_cons hr
    cases x with
    | blk id' =>
      simp only [aexit] at h
      cases hy
      simp only [exitTo]
      by_cases hid : (id' == id) = true
      · rw [if_pos hid] at h ⊢; cases h; exact ⟨_, rfl, hr2⟩
      · rw [if_neg hid] at h ⊢; exact ih h hr2
    | code c => cases hy; simp only [aexit] at h; simp only [exitTo]; exact ih h hr2
    | lp c => cases hy; simp only [aexit] at h; simp only [exitTo]; exact ih h hr2
    | scp c => cases hy; simp only [aexit] at h; simp only [exitTo]; exact ih h hr2
    | bgn l => cases hy; simp only [aexit] at h; simp only [exitTo]; exact ih h hr2
    | ops full l => obtain ⟨s, rfl, _⟩ := hy; simp only [aexit] at h; simp only [exitTo]; exact ih h hr2
theorem irel_ops_cons {full : Array Oper} {o : Oper} {r : List Oper} {y : Item} (h : IRel (.ops full (o :: r)) y) : ∃ s, y = .inRegion full (s :: List.range' (s + 1) r.length) ∧ full[s]? = some o ∧ IRel (.ops full r) (.inRegion full (List.range' (s + 1) r.length)) := by
  obtain ⟨s, rfl, hl⟩ := h
  refine ⟨s, by simp [List.range'_succ], by simpa using (hl 0).symm, s + 1, rfl, fun j => ?_⟩
  have := hl (j + 1)
  simpa [Nat.add_assoc, Nat.add_comm 1 j] using this
theorem irels_code {c : Code} {k : List AItem} {kc : List Item} (h : IRels (.code c :: k) kc) : ∃ kc', kc = .code c :: kc' ∧ IRels k kc' := by
  obtain ⟨y, ys, rfl, hy, hr⟩ := irels_cons h
  cases hy
  exact ⟨ys, rfl, hr⟩
theorem aexit_none {id : Nat} : ∀ {k : List AItem} {kc : List Item}, aexit id k = none → IRels k kc → exitTo id kc = none := by
  intro k
  induction k with
  | nil => intro kc h hr; rw [irels_nil hr]; rfl
  | cons x k ih =>
    intro kc h hr
    obtain ⟨y, ys, rfl, hy, hr2⟩ := irels_cons hr
    cases x with
    | blk id' =>
      simp only [aexit] at h
      cases hy
      simp only [exitTo]
      by_cases hid : (id' == id) = true
      · rw [if_pos hid] at h; cases h
      · rw [if_neg hid] at h ⊢; exact ih h hr2
    | code c => cases hy; simp only [aexit] at h; simp only [exitTo]; exact ih h hr2
    | lp c => cases hy; simp only [aexit] at h; simp only [exitTo]; exact ih h hr2
    | scp c => cases hy; simp only [aexit] at h; simp only [exitTo]; exact ih h hr2
    | bgn l => cases hy; simp only [aexit] at h; simp only [exitTo]; exact ih h hr2
    | ops full l => obtain ⟨s, rfl, _⟩ := hy; simp only [aexit] at h; simp only [exitTo]; exact ih h hr2
def mkD (D : Nat) : Deferred := { target := .collected D, args := #[] }
def marks (Q : Post) (Ds : List Nat) : Post := Ds.foldr (fun D q => q.mark D) Q
def Ended (Q : Post) (ρ : Nat → AV) (H : Heap) (todo : List Item) : Prop :=
  (Q.nrm ρ H ∧ todo = []) ∨ (Q.ret ρ H ∧ ∃ t, todo = .code .ret :: t) ∨ ∃ id t, todo = .code (.exit id) :: t ∧ exitTo id t = none ∧ Q.out id ρ H
theorem grownBy_putObj2 (W : World) (l : Nat) (o : Obj) : W.grownBy (W.putObj l o) (some l) :=
  ⟨rfl, rfl, rfl, by simp, fun k _ hk => World.putObj_heap_other (fun e => hk (by rw [e]))⟩
theorem cell_putObj {w : World} {r : Nat} {o : Obj} {b i : Nat} (h : b ≠ r) : (w.putObj r o).cell? ⟨b, i, none⟩ = w.cell? ⟨b, i, none⟩ :=
  World.cell?_of_block (World.putObj_heap_other h)
theorem Inv.del {W0 w : World} {C : Com} {H : Heap} {r : Nat} (h : Inv W0 C H w) (o : Obj) (hr : W0.heap.size ≤ r) (hC : ∀ i, C r i = none) : Inv W0 C (H.del r) (w.putObj r o) := by
  refine ⟨?_, fun b i u e => ?_, fun b ob e => ?_⟩
  · exact h.below.grown (grownBy_putObj2 w r o) h.below.size (fun k e => by cases e; exact hr)
  · by_cases hb : b = r
    · subst hb; rw [hC] at e; cases e
    · rw [cell_putObj hb]; exact h.com b i u e
  · unfold Heap.del at e
    by_cases hb : b = r
    · rw [if_pos hb] at e; cases e
    · rw [if_neg hb] at e
      exact ⟨(h.obj b ob e).1, (h.obj b ob e).2.heap (World.putObj_heap_other hb)⟩
theorem Inv.putRec {W0 w : World} {C : Com} {H : Heap} {l : Nat} {r r' : ARec} {fn : FuncId} {tmps : Array Value} (h : Inv W0 C H w) (hl : H l = some (.lrec r))
    (ho : ObjOk C (w.putObj l (.loop { state := r'.st, pending := r'.pe, fn, tmps, params := r'.ps, assign := r'.asg, body := r'.bod, defers := r'.dfr })) l (.lrec r')) :
    Inv W0 C (H.set l (.lrec r')) (w.putObj l (.loop { state := r'.st, pending := r'.pe, fn, tmps, params := r'.ps, assign := r'.asg, body := r'.bod, defers := r'.dfr })) := by
  have hb := (h.obj l _ hl).1
  obtain ⟨fn0, tmps0, h1, _, _, hC⟩ := (h.obj l _ hl).2
  have hd := h.del (.loop { state := r'.st, pending := r'.pe, fn, tmps, params := r'.ps, assign := r'.asg, body := r'.bod, defers := r'.dfr }) hb hC
  refine ⟨hd.below, hd.com, fun b ob e => ?_⟩
  unfold Heap.set at e
  by_cases hbl : b = l
  · rw [if_pos hbl] at e; cases e; subst hbl; exact ⟨hb, ho⟩
  · rw [if_neg hbl] at e; exact hd.obj b ob (by unfold Heap.del; rw [if_neg hbl]; exact e)
theorem Inv.newObj {W0 w : World} {C : Com} {H : Heap} (h : Inv W0 C H w) (o : Obj) (ob : AObj) (ho : ObjOk C (w.alloc o) w.heap.size ob) (hb : ob.base W0 w.heap.size) : Inv W0 C (H.set w.heap.size ob) (w.alloc o) := by
  have ha := h.alloc o
  refine ⟨ha.below, ha.com, fun b ob' e => ?_⟩
  unfold Heap.set at e
  by_cases hbs : b = w.heap.size
  · rw [if_pos hbs] at e; cases e; subst hbs; exact ⟨hb, ho⟩
  · rw [if_neg hbs] at e; exact ha.obj b ob' e
theorem AGo.sound {n : Nat} {Q : Post} {k : List AItem} {ρ : Nat → AV} {H : Heap} (h : AGo P n Q k ρ H) :
    ∀ (dds : List Deferred) (W0 : World) (C : Com) (w : World) (a : Act) (kc : List Item) (b : Frame) (cs : List Frame), b.roundOf = Q.ro → IRels k kc → Inv W0 C H w → RelF dds C n ρ a →
      ∃ Ds ρ' H' C' a' w' todo, Ended (marks Q Ds) ρ' H' todo ∧ CLe C C' ∧ Inv W0 C' H' w' ∧ RelF (Ds.map mkD ++ dds) C' n ρ' a' ∧ Steps P (lone (b.atR a kc) cs w) (lone (b.atR a' todo) cs w') := by
  have pre : ∀ {Q : Post} {dds : List Deferred} {W0 : World} {C C1 : Com} {w w1 : World} {a a1 : Act} {kc kc1 : List Item} {b : Frame} {cs : List Frame} {n : Nat}, Steps P (lone (b.atR a kc) cs w) (lone (b.atR a1 kc1) cs w1) → CLe C C1 →
      (∃ Ds ρ' H' C' a' w' todo, Ended (marks Q Ds) ρ' H' todo ∧ CLe C1 C' ∧ Inv W0 C' H' w' ∧ RelF (Ds.map mkD ++ dds) C' n ρ' a' ∧ Steps P (lone (b.atR a1 kc1) cs w1) (lone (b.atR a' todo) cs w')) →
      ∃ Ds ρ' H' C' a' w' todo, Ended (marks Q Ds) ρ' H' todo ∧ CLe C C' ∧ Inv W0 C' H' w' ∧ RelF (Ds.map mkD ++ dds) C' n ρ' a' ∧ Steps P (lone (b.atR a kc) cs w) (lone (b.atR a' todo) cs w') := by
    intro _ _ _ _ _ _ _ _ _ _ _ _ _ _ hs hC ⟨Ds, ρ', H', C', a', w', todo, h1, h2, h3, h4, h5⟩
    exact ⟨Ds, ρ', H', C', a', w', todo, h1, hC.trans h2, h3, h4, hs.trans h5⟩
  induction h with
  | nil hq =>
    intro dds W0 C w a kc b cs hrb hk hi hf
    obtain rfl := irels_nil hk
    exact ⟨[], _, _, C, a, w, [], .inl ⟨hq, rfl⟩, CLe.refl C, hi, hf, .refl _ _⟩
  | ret hq =>
    intro dds W0 C w a kc b cs hrb hk hi hf
    obtain ⟨kc', rfl, hk2⟩ := irels_code hk
    exact ⟨[], _, _, C, a, w, _, .inr (.inl ⟨hq, _, rfl⟩), CLe.refl C, hi, hf, .refl _ _⟩
  | skip _ ih =>
    intro dds W0 C w a kc b cs hrb hk hi hf
    obtain ⟨kc', rfl, hk2⟩ := irels_code hk
    exact pre (.one stepR_skip) (CLe.refl C) (ih dds W0 C w a kc' b cs hrb hk2 hi hf)
  | label _ ih =>
    intro dds W0 C w a kc b cs hrb hk hi hf
    obtain ⟨kc', rfl, hk2⟩ := irels_code hk
    exact pre (.one stepR_label) (CLe.refl C) (ih dds W0 C w a kc' b cs hrb hk2 hi hf)
  | seq _ ih =>
    intro dds W0 C w a kc b cs hrb hk hi hf
    obtain ⟨kc', rfl, hk2⟩ := irels_code hk
    exact pre (.one stepR_seq) (CLe.refl C) (ih dds W0 C w a _ b cs hrb ⟨rfl, rfl, hk2⟩ hi hf)
  | cond hc _ ih =>
    intro dds W0 C w a kc b cs hrb hk hi hf
    obtain ⟨kc', rfl, hk2⟩ := irels_code hk
    exact pre (.one (stepR_cond (Rel.sc_inv (hc ▸ hf.ev _)))) (CLe.refl C) (ih dds W0 C w a _ b cs hrb ⟨rfl, hk2⟩ hi hf)
  | block _ ih =>
    intro dds W0 C w a kc b cs hrb hk hi hf
    obtain ⟨kc', rfl, hk2⟩ := irels_code hk
    exact pre (.one stepR_block) (CLe.refl C) (ih dds W0 C w a _ b cs hrb ⟨rfl, rfl, hk2⟩ hi hf)
  | blk _ ih =>
    intro dds W0 C w a kc b cs hrb hk hi hf
    obtain ⟨y, ys, rfl, hy, hk2⟩ := irels_cons hk
    cases hy
    exact pre (.one stepR_inBlock) (CLe.refl C) (ih dds W0 C w a _ b cs hrb hk2 hi hf)
  | loop hl hnf _ ih =>
    intro dds W0 C w a kc b cs hrb hk hi hf
    obtain ⟨kc', rfl, hk2⟩ := irels_code hk
    exact pre (.one stepR_loop) (CLe.refl C) (ih dds W0 C w a _ b cs hrb ⟨rfl, rfl, hk2⟩ (hi.weaken hl) (hf.nilF hnf))
  | lp hl hnf _ ih =>
    intro dds W0 C w a kc b cs hrb hk hi hf
    obtain ⟨y, ys, rfl, hy, hk2⟩ := irels_cons hk
    cases hy
    exact pre (.one stepR_inLoop) (CLe.refl C) (ih dds W0 C w a _ b cs hrb ⟨rfl, rfl, hk2⟩ (hi.weaken hl) (hf.nilF hnf))
  | scope _ ih =>
    intro dds W0 C w a kc b cs hrb hk hi hf
    obtain ⟨kc', rfl, hk2⟩ := irels_code hk
    exact pre (.one stepR_scope) (CLe.refl C) (ih dds W0 C w a _ b cs hrb ⟨rfl, rfl, hk2⟩ hi hf)
  | scp _ ih =>
    intro dds W0 C w a kc b cs hrb hk hi hf
    obtain ⟨y, ys, rfl, hy, hk2⟩ := irels_cons hk
    cases hy
    exact pre (.one stepR_inScope) (CLe.refl C) (ih dds W0 C w a _ b cs hrb hk2 hi hf)
  | exit he _ ih =>
    intro dds W0 C w a kc b cs hrb hk hi hf
    obtain ⟨kc', rfl, hk2⟩ := irels_code hk
    obtain ⟨kc'', h1, h2⟩ := aexit_spec he hk2
    exact pre (.one (stepR_exit h1)) (CLe.refl C) (ih dds W0 C w a _ b cs hrb h2 hi hf)
  | region _ ih =>
    intro dds W0 C w a kc b cs hrb hk hi hf
    obtain ⟨kc', rfl, hk2⟩ := irels_code hk
    refine pre (.one stepR_region) (CLe.refl C) (ih dds W0 C w a _ b cs hrb ⟨⟨0, ?_, fun j => by simp⟩, hk2⟩ hi hf)
    simp [List.range_eq_range']
  | draw m hmix hd hq _ ih =>
    intro dds W0 C w a kc b cs hrb hk hi hf
    obtain ⟨kc', rfl, hk2⟩ := irels_code hk
    obtain ⟨a', w', C', hs, hf', hC, hi'⟩ := draw_run hmix hd hq hi hf b kc' cs
    refine pre hs hC (ih dds W0 C' w' a' _ b cs hrb ⟨⟨m, ?_, fun j => by simp [List.getElem?_drop]⟩, hk2⟩ hi' hf')
    simp
  | draw2 m A B H0 R hmix hd hc hq _ ih =>
    intro dds W0 C w a kc b cs hrb hk hi hf
    obtain ⟨kc', rfl, hk2⟩ := irels_code hk
    obtain ⟨ρ', H', a', w', C', hR, hs, hf', hC, hi'⟩ := draw_run2 hmix hd hc hq hi hf b kc' cs
    refine pre hs hC (ih ρ' H' hR dds W0 C' w' a' _ b cs hrb ⟨⟨m, ?_, fun j => by simp [List.getElem?_drop]⟩, hk2⟩ hi' hf')
    simp
  | draw3 A lst H0 R hmix hA hlen hc hq _ ih =>
    intro dds W0 C w a kc b cs hrb hk hi hf
    obtain ⟨kc', rfl, hk2⟩ := irels_code hk
    obtain ⟨ρ', H', a', w', C', hR, hs, hf', hC, hi'⟩ := draw_run3 hmix hA hlen hc hq hi hf b kc' cs
    exact pre hs hC (ih ρ' H' hR dds W0 C' w' a' _ b cs hrb hk2 hi' hf')
  | opsNil _ ih =>
    intro dds W0 C w a kc b cs hrb hk hi hf
    obtain ⟨y, ys, rfl, hy, hk2⟩ := irels_cons hk
    obtain ⟨s, rfl, _⟩ := hy
    exact pre (.one stepR_region_end) (CLe.refl C) (ih dds W0 C w a _ b cs hrb hk2 hi hf)
  | opY hy' _ ih =>
    intro dds W0 C w a kc b cs hrb hk hi hf
    obtain ⟨y, ys, rfl, hy, hk2⟩ := irels_cons hk
    obtain ⟨s, rfl, ho, hr⟩ := irel_ops_cons hy
    obtain ⟨a', w', C', hs, hf', hC, hi'⟩ := ay_run hi hf hy' ho b ys cs _
    exact pre hs hC (ih dds W0 C' w' a' _ b cs hrb ⟨hr, hk2⟩ hi' hf')
  | opCall hg hv hc _ ih =>
    intro dds W0 C w a kc b cs hrb hk hi hf
    obtain ⟨y, ys, rfl, hy, hk2⟩ := irels_cons hk
    obtain ⟨s, rfl, ho, hr⟩ := irel_ops_cons hy
    have hw := guard_spec hf _ _ |>.trans hg
    obtain ⟨r, H', C', u, w'', hR, hC, hrel, hI, hs⟩ := steps_call (b := b) (k := ys) (cs := cs) (rest := _) hi hf hv hc ho hw
    exact pre hs hC (ih r H' hR dds W0 C' w'' _ _ b cs hrb ⟨hr, hk2⟩ hI ((hf.mono hC).put _ hrel))
  | opAlloc hg hv _ ih =>
    intro dds W0 C w a kc b cs hrb hk hi hf
    obtain ⟨y, ys, rfl, hy, hk2⟩ := irels_cons hk
    obtain ⟨s, rfl, ho, hr⟩ := irel_ops_cons hy
    have hw := guard_spec hf _ _ |>.trans hg
    obtain ⟨bk, w', hrun, hfresh, hI⟩ := exec_alloc (P := P) hi hf hv
    exact pre (.one (step_value ho hw hrun)) (CLe.refl C) (ih bk hfresh dds W0 C w' _ _ b cs hrb ⟨hr, hk2⟩ hI (hf.put _ (Rel.sc _)))
  | opStore hg hv hH _ ih =>
    intro dds W0 C w a kc b cs hrb hk hi hf
    obtain ⟨y, ys, rfl, hy, hk2⟩ := irels_cons hk
    obtain ⟨s, rfl, ho, hr⟩ := irel_ops_cons hy
    have hw := guard_spec hf _ _ |>.trans hg
    obtain ⟨cs', T', w', hH', hrun, hI⟩ := exec_store (P := P) hi hf hv
    rw [hH] at hH'
    cases hH'
    exact pre (.one (step_skip_op ho hw hrun)) (CLe.refl C) (ih dds W0 C w' _ _ b cs hrb ⟨hr, hk2⟩ hI (hf.put _ (Rel.sc _)))
  | opLits hg hv _ ih =>
    intro dds W0 C w a kc b cs hrb hk hi hf
    obtain ⟨y, ys, rfl, hy, hk2⟩ := irels_cons hk
    obtain ⟨s, rfl, ho, hr⟩ := irel_ops_cons hy
    have hw := guard_spec hf _ _ |>.trans hg
    obtain ⟨v', g, w', C', hrun, hfresh, hC, hrel, hI⟩ := exec_lits (P := P) hi hf hv
    exact pre (.one (step_value ho hw hrun)) hC (ih g hfresh dds W0 C' w' _ _ b cs hrb ⟨hr, hk2⟩ hI ((hf.mono hC).put _ hrel))
  | opFreeze hg hv hH _ ih =>
    intro dds W0 C w a kc b cs hrb hk hi hf
    obtain ⟨y, ys, rfl, hy, hk2⟩ := irels_cons hk
    obtain ⟨s, rfl, ho, hr⟩ := irel_ops_cons hy
    have hw := guard_spec hf _ _ |>.trans hg
    obtain ⟨u, w', hrun, hrel, hI⟩ := exec_freeze (P := P) hi hf hv hH
    exact pre (.one (step_value ho hw hrun)) (CLe.refl C) (ih dds W0 C w' _ _ b cs hrb ⟨hr, hk2⟩ hI (hf.put _ hrel))
  | opUnarr hg hv _ ih =>
    intro dds W0 C w a kc b cs hrb hk hi hf
    obtain ⟨y, ys, rfl, hy, hk2⟩ := irels_cons hk
    obtain ⟨s, rfl, ho, hr⟩ := irel_ops_cons hy
    have hw := guard_spec hf _ _ |>.trans hg
    obtain ⟨u, C', hrun, hrel, hC, hI⟩ := exec_unarr (P := P) hi hf hv
    exact pre (.one (step_value ho hw hrun)) hC (ih dds W0 C' w _ _ b cs hrb ⟨hr, hk2⟩ hI ((hf.mono hC).put _ hrel))
  | opNew hg hv he ht hx hys h0 hb hm _ ih =>
    intro dds W0 C w a kc b cs hrb hk hi hf
    obtain ⟨y, ys', rfl, hy, hk2⟩ := irels_cons hk
    obtain ⟨s, rfl, ho, hr⟩ := irel_ops_cons hy
    have hw := guard_spec hf _ _ |>.trans hg
    obtain ⟨ty, u, z, t', hrun, hu, hz⟩ := exec_app (P := P) hf hv
    obtain ⟨v', w', C', g, cap, h1, h2, h3, h4, h5⟩ := s_app_new (ty := ty) he hi hu hz ht hx hys h0 hb hm
    have hrun' := hrun w
    rw [h1, Result.andThen_ok] at hrun'
    exact pre (.one (step_value ho hw hrun')) h3 (ih g cap h2 dds W0 C' w' _ _ b cs hrb ⟨hr, hk2⟩ h5 ((hf.mono h3).put _ h4))
  | opOwn hg hv he hH hx hys hb hm _ ih =>
    intro dds W0 C w a kc b cs hrb hk hi hf
    obtain ⟨y, ys', rfl, hy, hk2⟩ := irels_cons hk
    obtain ⟨s, rfl, ho, hr⟩ := irel_ops_cons hy
    have hw := guard_spec hf _ _ |>.trans hg
    obtain ⟨ty, u, z, t', hrun, hu, hz⟩ := exec_app (P := P) hf hv
    obtain ⟨v', w', C', g, cap, h1, h2, h3, h4, h5⟩ := s_app_own (ty := ty) he hi hu hz hH hx hys hb hm
    have hrun' := hrun w
    rw [h1, Result.andThen_ok] at hrun'
    exact pre (.one (step_value ho hw hrun')) h3 (ih g cap h2 dds W0 C' w' _ _ b cs hrb ⟨hr, hk2⟩ h5 ((hf.mono h3).put _ h4))
  | opAppC R hg hv hc _ ih =>
    intro dds W0 C w a kc b cs hrb hk hi hf
    obtain ⟨y, ys', rfl, hy, hk2⟩ := irels_cons hk
    obtain ⟨s, rfl, ho, hr⟩ := irel_ops_cons hy
    have hw := guard_spec hf _ _ |>.trans hg
    obtain ⟨ty, u, z, t', hrun, hu, hz⟩ := exec_app (P := P) hf hv
    obtain ⟨v', w', r', H', C', h1, h2, h3, h4, h5⟩ := hc W0 C w ty u z t' hi hu hz
    have hrun' := hrun w
    rw [h1, Result.andThen_ok] at hrun'
    exact pre (.one (step_value ho hw hrun')) h3 (ih r' H' h2 dds W0 C' w' _ _ b cs hrb ⟨hr, hk2⟩ h5 ((hf.mono h3).put _ h4))
  | out he hq =>
    intro dds W0 C w a kc b cs hrb hk hi hf
    obtain ⟨kc', rfl, hk2⟩ := irels_code hk
    exact ⟨[], _, _, C, a, w, _, .inr (.inr ⟨_, _, rfl, aexit_none he hk2, hq⟩), CLe.refl C, hi, hf, .refl _ _⟩
  | bgn hro hl hst _ ih =>
    intro dds W0 C w a kc b cs hrb hk hi hf
    obtain ⟨y, ys, rfl, hy, hk2⟩ := irels_cons hk
    cases hy
    obtain ⟨fn, tmps, h1, h2, h3, h4⟩ := (hi.obj _ _ hl).2
    have hlt := (Array.getElem?_eq_some_iff.1 h1).1
    have hrun := run_beginRound (P := P) h1 hst
    refine pre (.one (stepR_beginRound (hrb.trans hro) hrun)) (CLe.refl C) (ih dds W0 C _ a _ b cs hrb hk2 (hi.putRec hl ?_) hf)
    exact ⟨fn, tmps, World.putObj_heap_same hlt, h2, h3, h4⟩
  | @rangeF Q g ps asg bod gf lb k ρ H R hro hg hcan hc hr _ ih =>
    intro dds W0 C w a kc b cs hrb hk hi hf
    obtain ⟨kc', rfl, hk2⟩ := irels_code hk
    have hro0 := hrb.trans hro
    have hgv := hf.ev g
    rw [hg] at hgv
    have hgv := hgv.sc_inv
    obtain ⟨fn, hfn, hn, hbd⟩ : ∃ fn, P.funcs[gf]? = some fn ∧ ¬ (fn.name = "runtime.NumGoroutine") ∧ ¬ (fn.body = none) := by
      unfold canCall at hcan
      split at hcan
      · rename_i fn hfn
        simp only [Bool.and_eq_true, Bool.not_eq_true'] at hcan
        obtain ⟨hbody, hname⟩ := hcan
        exact ⟨fn, hfn, fun hh => by rw [hh] at hname; simp at hname, fun hh => by rw [hh] at hbody; cases hbody⟩
      · cases hcan
    have i1 := hi.newObj (.deferred (some [])) .dfr ⟨World.alloc_heap_new w _, fun o => hi.fresh o⟩ hi.below.size
    have hD := hi.heap_fresh
    have hsz : (w.alloc (.deferred (some []))).heap.size = w.heap.size + 1 := World.size_alloc _ _
    have hl := i1.heap_fresh
    have i2 := i1.newObj (.loop { state := .ready, pending := none, fn := b.fn, tmps := a.tmps, params := ps, assign := asg, body := bod, defers := w.heap.size }) (.lrec ⟨.ready, none, ps, asg, bod, w.heap.size, n, _⟩)
      ⟨b.fn, a.tmps, World.alloc_heap_new _ _, hf.size, hf.slot, fun o => i1.fresh o⟩ i1.below.size
    rw [hsz] at hl i2
    have he := run_enterLoop_outer (P := P) (w := w) b.fn a.tmps ps asg bod
    rw [← hro0] at he
    generalize (w.alloc (.deferred (some []))).alloc (.loop { state := .ready, pending := none, fn := b.fn, tmps := a.tmps, params := ps, assign := asg, body := bod, defers := w.heap.size }) = W1 at i2 he
    have hscs : ∀ l : List Value, RelL C (l.map AV.sc) l := fun l => by
      induction l with
      | nil => exact .nil
      | cons x l ih => exact .sc x ih
    have hcall := (hc _ _ hD hl W0 C _ (.func (.yield (w.heap.size + 1)) #[] #[] :: lb.toList) i2 (.sc _ (hscs _))).calls (Array.getElem?_eq_some_iff.1 hfn).1
    have harr : (Value.func (.yield (w.heap.size + 1)) #[] #[] :: lb.toList).toArray = #[.func (.yield (w.heap.size + 1)) #[] #[]] ++ lb := by simp
    rw [harr] at hcall
    have henter := stepR_rangeFunc (P := P) (b := b) (a := a) (k := kc') (cs := cs) (w := w) (g := g) (d := { target := .fn (.func gf) lb, args := #[.func (.yield (w.heap.size + 1)) #[] #[]] }) (w₁' := W1) (w₂ := W1) (f := gf) (args := #[.func (.yield (w.heap.size + 1)) #[] #[]] ++ lb) he
      (by simp only [resolve, hgv]; simp [go_sem]) (by simp [invoke, callFunc, hfn, hn, hbd])
    obtain ⟨e, w3, fr, ⟨v, H', C', u, rfl, hR, hC, hrel, hI⟩, hsteps, _, hleave⟩ := hcall (b.atR { a with defers := [{ target := .collected w.heap.size, args := #[] }] ++ a.defers } (.inRangeFunc (w.heap.size + 1) :: kc') :: cs)
    obtain ⟨r, hHl, hst⟩ := hr _ _ v H' hD hl hR
    obtain ⟨fn1, tmps1, g1, g2, g3, g4⟩ := (hI.obj _ _ hHl).2
    have hend := run_endLoop (P := P) g1 hst
    have hI2 := hI.del (.loop { state := .exhausted, pending := r.pe, fn := fn1, tmps := tmps1, params := r.ps, assign := r.asg, body := r.bod, defers := r.dfr }) (hI.obj _ _ hHl).1 g4
    have hk3 : IRels (r.pe.toList.map .code ++ k) ((r.pe.map Item.code).toList ++ kc') := by
      cases r.pe with
      | none => exact hk2
      | some c => exact ⟨rfl, hk2⟩
    have hf2 : RelF (mkD w.heap.size :: dds) C' n _ { a with defers := [{ target := .collected w.heap.size, args := #[] }] ++ a.defers } := ⟨hf.size, by simp [hf.defers, mkD], fun i => (hf.slot i).mono hC⟩
    obtain ⟨Ds, ρ', H2, C2, a2, w5, todo, q1, q2, q3, q4, q5⟩ := ih _ _ v H' r hD hl hR hHl (mkD w.heap.size :: dds) W0 C' _ _ _ b cs hrb hk3 hI2 hf2
    refine ⟨Ds ++ [w.heap.size], ρ', H2, C2, a2, w5, todo, ?_, hC.trans q2, q3, ?_, ?_⟩
    · unfold marks at q1 ⊢
      rw [List.foldr_append]
      exact q1
    · simpa using q4
    · refine .head henter (Steps.trans hsteps (.head (step_leave_returned hleave) ?_))
      rw [finish_atR_inRangeFunc]
      exact .head (stepR_endRangeFunc hend) q5
theorem load_strong {T : TypeId} {x r : AV} {v : Value} (hi : Inv W0 C H w) (hv : Rel C x v) (h : aload P T x H = .val r) : ∃ u, (Instr.loadAt T v).run P w = .ok u w ∧ Rel C r u := by
  unfold aload at h
  split at h
  · rename_i cs o hc
    obtain ⟨b, k, us, rfl, h1, h2, h3⟩ := acells_spec hi hv hc
    split at h
    · rename_i ha
      split at h
      · rename_i sz hs
        split at h
        · rename_i hle
          cases h
          have hl := h1.length
          refine ⟨.agg ((us.drop o).take sz).toArray, ?_, ?_⟩
          · simp only [Instr.loadAt, Instr.sureAddr, Sem.run_bind, Sem.run_pure, Result.andThen_ok]
            refine run_loadVar_agg ha hs b (k + o) _ (by simp; omega) fun j u hu => ?_
            have hu' : us[o + j]? = some u := by
              rw [List.getElem?_take] at hu
              split at hu
              · simpa using hu
              · cases hu
            rw [Nat.add_assoc]
            exact h3 _ _ hu'
          · exact RelL.agg ((h1.drop o).take sz) (fun u hu => h2 u (List.mem_of_mem_drop (List.mem_of_mem_take hu))) .nil
        · cases h
      · cases h
    · rename_i ha
      split at h
      · rename_i c hcc
        cases h
        obtain ⟨u, hu, hr⟩ := h1.get hcc
        refine ⟨u, ?_, hr⟩
        simp only [Instr.loadAt, Instr.sureAddr, Sem.run_bind, Sem.run_pure, Result.andThen_ok]
        exact run_loadVar_one ha b (k + o) u (h3 _ _ hu)
      · cases h
    · cases h
  · cases h
def oneRes (tmps : Array Value) : ResultVar → Sem Value
  | .tmp t => pure (tmps.getD t undef)
  | .cell a t => do loadVar t (← asAddr (tmps.getD a undef))
theorem ares_spec {n : Nat} {ρ : Nat → AV} {a : Act} (hi : Inv W0 C H w) (hf : RelF dds C n ρ a) : ∀ (rs : List ResultVar) (vs : List AV), ares P ρ H rs = some vs →
    ∃ us, (rs.mapM (oneRes a.tmps)).run P w = .ok us w ∧ RelL C vs us
  | [], vs, h => by simp [ares] at h; subst h; exact ⟨[], by simp, .nil⟩
  | .tmp t :: rs, vs, h => by
    simp only [ares] at h
    obtain ⟨vs', h1, rfl⟩ := Option.map_eq_some_iff.1 h
    obtain ⟨us, h2, h3⟩ := ares_spec hi hf rs vs' h1
    exact ⟨a.tmps.getD t undef :: us, by simp [List.mapM_cons, oneRes, Sem.run_bind, h2], RelL.cons (hf.slot t) h3⟩
  | .cell x T :: rs, vs, h => by
    simp only [ares] at h
    split at h
    · rename_i v hv
      obtain ⟨vs', h1, rfl⟩ := Option.map_eq_some_iff.1 h
      obtain ⟨us, h2, h3⟩ := ares_spec hi hf rs vs' h1
      obtain ⟨u, hu, hr⟩ := load_strong (P := P) hi (hf.slot x) hv
      refine ⟨u :: us, ?_, RelL.cons hr h3⟩
      have hone : (oneRes a.tmps (.cell x T)).run P w = .ok u w := by
        have hp : ∃ p, a.tmps.getD x undef = .pointer (some p) := by
          generalize a.tmps.getD x undef = z at hu
          cases z with
          | pointer q =>
            cases q with
            | some p => exact ⟨p, rfl⟩
            | none => simp [Instr.loadAt, Instr.sureAddr, Sem.run_bind] at hu
          | _ => simp [Instr.loadAt, Instr.sureAddr, Sem.run_bind] at hu
        obtain ⟨p, hp⟩ := hp
        rw [hp] at hu
        simp only [oneRes, hp]
        simpa [Instr.loadAt, Instr.sureAddr, asAddr, Sem.run_bind] using hu
      simp [List.mapM_cons, Sem.run_bind, hone, h2]
    · cases h
theorem results_eq (fn : Func) (tmps : Array Value) : results fn tmps = (do let vs ← fn.results.mapM (oneRes tmps); pure (if h : vs.size = 1 then vs[0] else .tuple vs)) := by
  unfold results oneRes
  rfl
theorem rel_pack {vs : List AV} {us : List Value} (h : RelL C vs us) : Rel C (apack vs) (if hh : us.toArray.size = 1 then us.toArray[0] else .tuple us.toArray) := by
  have hl := h.length
  unfold apack
  split
  · obtain ⟨u, us', rfl, hu, hn⟩ := h.uncons
    obtain rfl := hn.nil_inv
    simpa using hu
  · rename_i hne
    have : ¬ us.toArray.size = 1 := by
      intro hh
      simp at hh
      rw [hh] at hl
      obtain ⟨x, hx⟩ := List.length_eq_one_iff.1 hl
      exact hne x hx
    rw [dif_neg this]
    exact .tup h .nil
def marksP (X : Heap → Prop) : List Nat → Heap → Prop
  | [], H => X H
  | D :: Ds, H => H D = some .dfr ∧ marksP X Ds (H.del D)
theorem marks_nrm {Q : Post} {ρ : Nat → AV} : ∀ {Ds : List Nat} {H : Heap}, (marks Q Ds).nrm ρ H → marksP (Q.nrm ρ) Ds H
  | [], _, h => h
  | _ :: _, _, h => ⟨h.1, marks_nrm h.2⟩
theorem marks_ret {Q : Post} {ρ : Nat → AV} : ∀ {Ds : List Nat} {H : Heap}, (marks Q Ds).ret ρ H → marksP (Q.ret ρ) Ds H
  | [], _, h => h
  | _ :: _, _, h => ⟨h.1, marks_ret h.2⟩
theorem marks_out {Q : Post} {ρ : Nat → AV} {id : Nat} : ∀ {Ds : List Nat} {H : Heap}, (marks Q Ds).out id ρ H → marksP (Q.out id ρ) Ds H
  | [], _, h => h
  | _ :: _, _, h => ⟨h.1, marks_out h.2⟩
theorem marksP_le {X : Heap → Prop} : ∀ {Ds : List Nat} {H : Heap}, marksP X Ds H → ∃ K, HLe K H ∧ X K
  | [], H, h => ⟨H, HLe.refl H, h⟩
  | D :: Ds, H, h => by
    obtain ⟨K, h1, h2⟩ := marksP_le h.2
    refine ⟨K, h1.trans fun b ob e => ?_, h2⟩
    unfold Heap.del at e
    split at e
    · cases e
    · exact e
theorem unwindM {cs : List Frame} {X : Heap → Prop} : ∀ (Ds : List Nat) (H : Heap) (w : World) (fr : Frame), fr.mode = .returning → fr.defers = Ds.map mkD → Inv W0 C H w → marksP X Ds H →
    ∃ K w', X K ∧ Inv W0 C K w' ∧ Steps P (lone fr cs w) (lone { fr with defers := [] } cs w')
  | [], H, w, fr, hm, hd, hi, h => by
    refine ⟨H, w, h, hi, ?_⟩
    have : { fr with defers := [] } = fr := by
      cases fr
      simp at hd
      subst hd
      rfl
    rw [this]
    exact .refl _ _
  | D :: Ds, H, w, fr, hm, hd, hi, ⟨h1, h2⟩ => by
    obtain ⟨g1, g2⟩ := (hi.obj D _ h1).2
    have hs := step_collected (P := P) (fr := fr) (cs := cs) (w := w) (d := mkD D) (ds := Ds.map mkD) (by rw [hm]; simp) hd rfl (run_takeDeferred g1)
    obtain ⟨K, w', k1, k2, k3⟩ := unwindM (cs := cs) Ds (H.del D) _ { fr with defers := Ds.map mkD } hm rfl (hi.del (.deferred none) (hi.obj D _ h1).1 g2) h2
    exact ⟨K, w', k1, k2, .head hs k3⟩
theorem ACalls.of_go {f : FuncId} {fn : Func} {c : Code} {args : List AV} {R : AV → Heap → Prop} (hf : P.funcs[f]? = some fn) (hb : fn.body = some c) (hn : args.length ≤ fn.ntmps)
    (h : AGo P fn.ntmps (AEnd P fn.results.toList R) [.code c] (ainit args) H) : ACalls P f args H R := by
  intro W0 C w vs hi hargs
  refine .inl fun cs => ?_
  have hlen := hargs.length
  let b : Frame := { (default : Frame) with fn := f, kind := .normal }
  let a0 : Act := { tmps := vs.toArray ++ Array.replicate (fn.ntmps - vs.toArray.size) undef, defers := [] }
  have henter : Frame.enter P f vs.toArray .normal = b.atR a0 [.code c] := by
    simp [Frame.enter, Frame.atR, hf, hb, b, a0]
    rfl
  have hrf : RelF [] C fn.ntmps (ainit args) a0 := by
    refine ⟨by simp [a0]; omega, rfl, fun i => ?_⟩
    simp only [ainit, a0, Array.getD_eq_getD_getElem?]
    cases hx : args[i]? with
    | some x =>
      obtain ⟨v, hv, hr⟩ := hargs.get hx
      have hlt := (List.getElem?_eq_some_iff.1 hv).1
      rw [Array.getElem?_append_left (by simpa using hlt)]
      simp [hv, hr]
    | none =>
      have hge := List.getElem?_eq_none_iff.1 hx
      rw [Array.getElem?_append_right (by simp; omega)]
      simp only [Option.getD_none]
      have : ((Array.replicate (fn.ntmps - vs.toArray.size) undef)[i - vs.toArray.size]?).getD undef = undef := by
        rw [Array.getElem?_replicate]
        split <;> rfl
      rw [this]
      exact Rel.sc _
  obtain ⟨Ds, ρ', H', C', a', w', todo, hend, hC, hI, hF, hs⟩ := h.sound [] W0 C w a0 [.code c] b cs rfl ⟨rfl, trivial⟩ hi hrf
  rw [← henter] at hs
  have fin : marksP (AEndP P fn.results.toList R ρ') Ds H' → step P (lone (b.atR a' todo) cs w') = .next (lone { b.atR a' todo with mode := .returning } cs w') →
      ∃ e w' fr, (∃ r H' C' v, e = .returned v ∧ R r H' ∧ CLe C C' ∧ Rel C' r v ∧ Inv W0 C' H' w') ∧ Comes P (lone (Frame.enter P f vs.toArray .normal) cs w) (lone fr cs w') e ∧ fr.fn = f ∧ fr.leaving P w' e := by
    intro hX hstep
    obtain ⟨K, w2, ⟨rvs, H0, hres, hle, hR⟩, k2, k3⟩ := unwindM (P := P) (cs := cs) Ds H' w' { b.atR a' todo with mode := .returning } rfl (by simpa [Frame.atR] using hF.defers) hI hX
    obtain ⟨us, hus, hrl⟩ := ares_spec (P := P) k2 hF _ _ hres
    have hrun : (results fn a'.tmps).run P w2 = .ok (if hh : us.toArray.size = 1 then us.toArray[0] else .tuple us.toArray) w2 := by
      rw [results_eq, ← Array.toArray_toList (xs := fn.results), List.mapM_toArray]
      simp [Sem.run_bind, hus]
    exact ⟨.returned _, w2, _, ⟨_, H0, C', _, rfl, hR, hC, rel_pack hrl, k2.weaken hle⟩, hs.trans (.head hstep k3), rfl, rfl, rfl, rfl, fn, hf, hrun⟩
  rcases hend with ⟨hq, rfl⟩ | ⟨hq, t, rfl⟩ | ⟨id, t, rfl, _, hq⟩
  · exact fin (marks_nrm hq) (stepR_end rfl)
  · exact fin (marks_ret hq) (stepR_ret rfl)
  · obtain ⟨K, _, hK⟩ := marksP_le (marks_out hq)
    exact hK.elim
def aputs (n : Nat) : List Tmp → List AV → (Nat → AV) → Nat → AV
  | p :: ps, x :: xs, ρ => aputs n ps xs (aput n (some p) x ρ)
  | _, _, ρ => ρ
theorem aputs_rel {n : Nat} : ∀ (ps : List Tmp) (xs : List AV) (vs : List Value) (ρ : Nat → AV) (tmps : Array Value), RelL C xs vs → tmps.size = n → (∀ i, Rel C (ρ i) (tmps.getD i undef)) →
    ((ps.zip vs).foldl (fun t (p : Tmp × Value) => t.setIfInBounds p.1 p.2) tmps).size = n ∧ ∀ i, Rel C (aputs n ps xs ρ i) (((ps.zip vs).foldl (fun t (p : Tmp × Value) => t.setIfInBounds p.1 p.2) tmps).getD i undef)
  | [], xs, vs, ρ, tmps, _, hs, h => by
    cases xs <;> exact ⟨hs, h⟩
  | p :: ps, [], vs, ρ, tmps, hr, hs, h => by
    rw [hr.nil_inv]
    exact ⟨hs, h⟩
  | p :: ps, x :: xs, vs, ρ, tmps, hr, hs, h => by
    obtain ⟨v, vs', rfl, hv, hr⟩ := hr.uncons
    have hp := RelF.put (dds := []) (C := C) (n := n) (ρ := ρ) (a := { tmps, defers := [] }) ⟨hs, rfl, h⟩ (some p) hv
    exact aputs_rel ps xs vs' _ _ hr hp.size hp.slot
def roundPost (l : Nat) (R : AV → Heap → Prop) : Post :=
  ⟨fun _ H => ∃ r, H l = some (.lrec r) ∧ R (.sc (.bool true)) (H.set l (.lrec { r with st := .ready, pe := none })),
   fun _ H => ∃ r, H l = some (.lrec r) ∧ R (.sc (.bool false)) (H.set l (.lrec { r with st := .done, pe := some .ret })),
   fun id _ H => ∃ r, H l = some (.lrec r) ∧ R (.sc (.bool false)) (H.set l (.lrec { r with st := .done, pe := some (.exit id) })), some l⟩
theorem ACalls.round {l : Nat} {r : ARec} {xs : List AV} {R : AV → Heap → Prop} (hl : H l = some (.lrec r)) (hlen : xs.length = r.ps.size)
    (h : AGo P r.n (roundPost l R) [.code r.asg, .bgn l, .code r.bod] (aputs r.n r.ps.toList xs r.ρ) H) : ACalls P (P.funcs.size + 1 + l) xs H R := by
  intro W0 C w vs hi hargs
  obtain ⟨fn, tmps, h1, h2, h3, h4⟩ := (hi.obj _ _ hl).2
  have hsz : vs.toArray.size = r.ps.size := by rw [← hlen, hargs.length]; simp
  refine .inr <| .inr <| .inl ⟨l, rfl, fn, _, r.asg, r.bod, run_yield (P := P) h1 hsz, fun c cs => ?_⟩
  let b : Frame := { (default : Frame) with fn := fn, kind := .normal, roundOf := some l }
  obtain ⟨z1, z2⟩ := aputs_rel (n := r.n) r.ps.toList xs vs r.ρ tmps hargs h2 h3
  obtain ⟨T, hT⟩ : ∃ T, (r.ps.zip vs.toArray).foldl (fun t (p : Tmp × Value) => t.setIfInBounds p.1 p.2) tmps = T := ⟨_, rfl⟩
  have hT2 : (r.ps.toList.zip vs).foldl (fun t (p : Tmp × Value) => t.setIfInBounds p.1 p.2) tmps = T := by
    rw [← hT, ← Array.foldl_toList, Array.toList_zip]
  rw [hT2] at z1 z2
  show ∃ v w', _ ∧ Steps P (lone (Frame.round l fn ((r.ps.zip vs.toArray).foldl (fun t (p : Tmp × Value) => t.setIfInBounds p.1 p.2) tmps) r.asg r.bod .normal) (c :: cs) w) _
  rw [hT]
  have hb0 : Frame.round l fn T r.asg r.bod .normal = b.atR { tmps := T, defers := [] } [.code r.asg, .beginRound, .code r.bod] := by
    simp [Frame.round, Frame.atR, b]
  obtain ⟨Ds, ρ', H', C', a', w', todo, hend, hC, hI, hF, hs⟩ := h.sound [] W0 C w { tmps := T, defers := [] } [.code r.asg, .beginRound, .code r.bod] b (c :: cs) rfl ⟨rfl, rfl, rfl, trivial⟩ hi ⟨z1, rfl, z2⟩
  rw [← hb0] at hs
  have fin : ∀ (jump : Option Code) (K : Heap) (r' : ARec), HLe K H' → K l = some (.lrec r') → R (.sc (.bool jump.isNone)) (K.set l (.lrec { r' with st := if jump.isNone then .ready else .done, pe := jump })) →
      (∀ v w2, (Instr.endRound l jump).run P w' = .ok v w2 → step P (lone (b.atR a' todo) (c :: cs) w') = .next (lone (c.finish v) cs w2)) →
      ∃ v w', (∃ r H' C' u, Ending.returned v = .returned u ∧ R r H' ∧ CLe C C' ∧ Rel C' r u ∧ Inv W0 C' H' w') ∧ Steps P (lone (Frame.round l fn T r.asg r.bod .normal) (c :: cs) w) (lone (c.finish v) cs w') := by
    intro jump K r' hle hK hR hst
    have hIK := hI.weaken hle
    obtain ⟨fn1, tmps1, g1, g2, g3, g4⟩ := (hIK.obj _ _ hK).2
    have hrun := run_endRound (P := P) jump g1
    have hlt := (Array.getElem?_eq_some_iff.1 g1).1
    refine ⟨_, _, ⟨_, _, C', _, rfl, hR, hC, Rel.sc _, hIK.putRec (r' := { r' with st := if jump.isNone then .ready else .done, pe := jump }) (fn := fn1) (tmps := tmps1) hK ?_⟩, hs.trans (.one (hst _ _ hrun))⟩
    exact ⟨fn1, tmps1, World.putObj_heap_same hlt, g2, g3, g4⟩
  rcases hend with ⟨hq, rfl⟩ | ⟨hq, t, rfl⟩ | ⟨id, t, rfl, hx, hq⟩
  · obtain ⟨K, hle, r', hK, hR⟩ := marksP_le (marks_nrm hq)
    exact fin none K r' hle hK hR fun v w2 hr => stepR_round_end rfl rfl hr
  · obtain ⟨K, hle, r', hK, hR⟩ := marksP_le (marks_ret hq)
    exact fin (some .ret) K r' hle hK hR fun v w2 hr => stepR_round_ret rfl rfl hr
  · obtain ⟨K, hle, r', hK, hR⟩ := marksP_le (marks_out hq)
    exact fin (some (.exit id)) K r' hle hK hR fun v w2 hr => stepR_round_exit rfl rfl hx hr
end Rg
