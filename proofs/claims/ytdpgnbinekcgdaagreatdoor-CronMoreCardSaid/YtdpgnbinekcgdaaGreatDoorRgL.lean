/- The whole run: a call does what its run over abstract values says. -/
import Derived.Test.YtdpgnbinekcgdaaGreatDoorRgQ
import Derived.Scope
namespace Rg
open Go Go.RowKit

variable {P : Program} {W0 : World} {C : Com} {H : Heap} {w : World}

def IRel : AItem → Item → Prop
  | .code c, y => y = .code c
  | .blk id, y => y = .inBlock id
  | .lp c, y => y = .inLoop c
  | .scp c, y => y = .inScope c
  | .ops full l, y => ∃ s, y = .inRegion full (List.range' s l.length) ∧ ∀ j, l[j]? = full[s + j]?

def IRels : List AItem → List Item → Prop
  | [], [] => True
  | x :: xs, y :: ys => IRel x y ∧ IRels xs ys
  | _, _ => False

theorem irels_cons {x : AItem} {xs : List AItem} {ys : List Item} (h : IRels (x :: xs) ys) : ∃ y ys', ys = y :: ys' ∧ IRel x y ∧ IRels xs ys' := by
  cases ys with
  | nil => exact h.elim
  | cons y ys => exact ⟨y, ys, rfl, h.1, h.2⟩

theorem irels_nil {ys : List Item} (h : IRels [] ys) : ys = [] := by
  cases ys with
  | nil => rfl
  | cons y ys => exact h.elim

theorem aexit_spec {id : Nat} : ∀ {k k' : List AItem} {kc : List Item}, aexit id k = some k' → IRels k kc → ∃ kc', exitTo id kc = some kc' ∧ IRels k' kc' := by
  intro k
  induction k with
  | nil => intro k' kc h; cases h
  | cons x k ih =>
    intro k' kc h hr
    obtain ⟨y, ys, rfl, hy, hr2⟩ := irels_cons hr
    cases x with
    | blk id' =>
      simp only [aexit] at h
      cases hy
      simp only [exitTo]
      by_cases hid : (id' == id) = true
      · rw [if_pos hid] at h ⊢; cases h; exact ⟨_, rfl, hr2⟩
      · rw [if_neg hid] at h ⊢; exact ih h hr2
    | code c => cases hy; simp only [aexit] at h; simp only [exitTo]; exact ih h hr2
    | lp c => cases hy; simp only [aexit] at h; simp only [exitTo]; exact ih h hr2
    | scp c => cases hy; simp only [aexit] at h; simp only [exitTo]; exact ih h hr2
    | ops full l => obtain ⟨s, rfl, _⟩ := hy; simp only [aexit] at h; simp only [exitTo]; exact ih h hr2

theorem irel_ops_cons {full : Array Oper} {o : Oper} {r : List Oper} {y : Item} (h : IRel (.ops full (o :: r)) y) : ∃ s, y = .inRegion full (s :: List.range' (s + 1) r.length) ∧ full[s]? = some o ∧ IRel (.ops full r) (.inRegion full (List.range' (s + 1) r.length)) := by
  obtain ⟨s, rfl, hl⟩ := h
  refine ⟨s, by simp [List.range'_succ], by simpa using (hl 0).symm, s + 1, rfl, fun j => ?_⟩
  have := hl (j + 1)
  simpa [Nat.add_assoc, Nat.add_comm 1 j] using this

theorem irels_code {c : Code} {k : List AItem} {kc : List Item} (h : IRels (.code c :: k) kc) : ∃ kc', kc = .code c :: kc' ∧ IRels k kc' := by
  obtain ⟨y, ys, rfl, hy, hr⟩ := irels_cons h
  cases hy
  exact ⟨ys, rfl, hr⟩

theorem AGo.sound {n : Nat} {Q : (Nat → AV) → Heap → Prop} {k : List AItem} {ρ : Nat → AV} {H : Heap} (h : AGo P n Q k ρ H) :
    ∀ (W0 : World) (C : Com) (w : World) (a : Act) (kc : List Item) (b : Frame) (cs : List Frame), IRels k kc → Inv W0 C H w → RelF C n ρ a →
      ∃ ρ' H' C' a' w' todo, Q ρ' H' ∧ CLe C C' ∧ Inv W0 C' H' w' ∧ RelF C' n ρ' a' ∧ Steps P (lone (b.at a kc) cs w) (lone { b.at a' todo with mode := .returning } cs w') := by
  have pre : ∀ {W0 : World} {C C1 : Com} {w w1 : World} {a a1 : Act} {kc kc1 : List Item} {b : Frame} {cs : List Frame} {n : Nat}, Steps P (lone (b.at a kc) cs w) (lone (b.at a1 kc1) cs w1) → CLe C C1 →
      (∃ ρ' H' C' a' w' todo, Q ρ' H' ∧ CLe C1 C' ∧ Inv W0 C' H' w' ∧ RelF C' n ρ' a' ∧ Steps P (lone (b.at a1 kc1) cs w1) (lone { b.at a' todo with mode := .returning } cs w')) →
      ∃ ρ' H' C' a' w' todo, Q ρ' H' ∧ CLe C C' ∧ Inv W0 C' H' w' ∧ RelF C' n ρ' a' ∧ Steps P (lone (b.at a kc) cs w) (lone { b.at a' todo with mode := .returning } cs w') := by
    intro _ _ _ _ _ _ _ _ _ _ _ _ hs hC ⟨ρ', H', C', a', w', todo, h1, h2, h3, h4, h5⟩
    exact ⟨ρ', H', C', a', w', todo, h1, hC.trans h2, h3, h4, hs.trans h5⟩
  induction h with
  | nil hq =>
    intro W0 C w a kc b cs hk hi hf
    obtain rfl := irels_nil hk
    exact ⟨_, _, C, a, w, [], hq, CLe.refl C, hi, hf, .one step_end⟩
  | ret hq =>
    intro W0 C w a kc b cs hk hi hf
    obtain ⟨kc', rfl, hk2⟩ := irels_code hk
    exact ⟨_, _, C, a, w, _, hq, CLe.refl C, hi, hf, .one step_ret⟩
  | skip _ ih =>
    intro W0 C w a kc b cs hk hi hf
    obtain ⟨kc', rfl, hk2⟩ := irels_code hk
    exact pre (.one step_skip) (CLe.refl C) (ih W0 C w a kc' b cs hk2 hi hf)
  | label _ ih =>
    intro W0 C w a kc b cs hk hi hf
    obtain ⟨kc', rfl, hk2⟩ := irels_code hk
    exact pre (.one step_label) (CLe.refl C) (ih W0 C w a kc' b cs hk2 hi hf)
  | seq _ ih =>
    intro W0 C w a kc b cs hk hi hf
    obtain ⟨kc', rfl, hk2⟩ := irels_code hk
    exact pre (.one step_seq) (CLe.refl C) (ih W0 C w a _ b cs ⟨rfl, rfl, hk2⟩ hi hf)
  | cond hc _ ih =>
    intro W0 C w a kc b cs hk hi hf
    obtain ⟨kc', rfl, hk2⟩ := irels_code hk
    exact pre (.one (step_cond (Rel.sc_inv (hc ▸ hf.ev _)))) (CLe.refl C) (ih W0 C w a _ b cs ⟨rfl, hk2⟩ hi hf)
  | block _ ih =>
    intro W0 C w a kc b cs hk hi hf
    obtain ⟨kc', rfl, hk2⟩ := irels_code hk
    exact pre (.one step_block) (CLe.refl C) (ih W0 C w a _ b cs ⟨rfl, rfl, hk2⟩ hi hf)
  | blk _ ih =>
    intro W0 C w a kc b cs hk hi hf
    obtain ⟨y, ys, rfl, hy, hk2⟩ := irels_cons hk
    cases hy
    exact pre (.one step_inBlock) (CLe.refl C) (ih W0 C w a _ b cs hk2 hi hf)
  | loop hl _ ih =>
    intro W0 C w a kc b cs hk hi hf
    obtain ⟨kc', rfl, hk2⟩ := irels_code hk
    exact pre (.one step_loop) (CLe.refl C) (ih W0 C w a _ b cs ⟨rfl, rfl, hk2⟩ (hi.weaken hl) hf)
  | lp hl _ ih =>
    intro W0 C w a kc b cs hk hi hf
    obtain ⟨y, ys, rfl, hy, hk2⟩ := irels_cons hk
    cases hy
    exact pre (.one step_inLoop) (CLe.refl C) (ih W0 C w a _ b cs ⟨rfl, rfl, hk2⟩ (hi.weaken hl) hf)
  | scope _ ih =>
    intro W0 C w a kc b cs hk hi hf
    obtain ⟨kc', rfl, hk2⟩ := irels_code hk
    exact pre (.one step_scope) (CLe.refl C) (ih W0 C w a _ b cs ⟨rfl, rfl, hk2⟩ hi hf)
  | scp _ ih =>
    intro W0 C w a kc b cs hk hi hf
    obtain ⟨y, ys, rfl, hy, hk2⟩ := irels_cons hk
    cases hy
    exact pre (.one step_inScope) (CLe.refl C) (ih W0 C w a _ b cs hk2 hi hf)
  | exit he _ ih =>
    intro W0 C w a kc b cs hk hi hf
    obtain ⟨kc', rfl, hk2⟩ := irels_code hk
    obtain ⟨kc'', h1, h2⟩ := aexit_spec he hk2
    exact pre (.one (step_exit h1)) (CLe.refl C) (ih W0 C w a _ b cs h2 hi hf)
  | region _ ih =>
    intro W0 C w a kc b cs hk hi hf
    obtain ⟨kc', rfl, hk2⟩ := irels_code hk
    refine pre (.one step_region) (CLe.refl C) (ih W0 C w a _ b cs ⟨⟨0, ?_, fun j => by simp⟩, hk2⟩ hi hf)
    simp [List.range_eq_range']
  | draw m hmix hd hq _ ih =>
    intro W0 C w a kc b cs hk hi hf
    obtain ⟨kc', rfl, hk2⟩ := irels_code hk
    obtain ⟨a', w', C', hs, hf', hC, hi'⟩ := draw_run hmix hd hq hi hf b kc' cs
    refine pre hs hC (ih W0 C' w' a' _ b cs ⟨⟨m, ?_, fun j => by simp [List.getElem?_drop]⟩, hk2⟩ hi' hf')
    simp
  | draw2 m A B H0 R hmix hd hc hq _ ih =>
    intro W0 C w a kc b cs hk hi hf
    obtain ⟨kc', rfl, hk2⟩ := irels_code hk
    obtain ⟨ρ', H', a', w', C', hR, hs, hf', hC, hi'⟩ := draw_run2 hmix hd hc hq hi hf b kc' cs
    refine pre hs hC (ih ρ' H' hR W0 C' w' a' _ b cs ⟨⟨m, ?_, fun j => by simp [List.getElem?_drop]⟩, hk2⟩ hi' hf')
    simp
  | opsNil _ ih =>
    intro W0 C w a kc b cs hk hi hf
    obtain ⟨y, ys, rfl, hy, hk2⟩ := irels_cons hk
    obtain ⟨s, rfl, _⟩ := hy
    exact pre (.one step_region_end) (CLe.refl C) (ih W0 C w a _ b cs hk2 hi hf)
  | opY hy' _ ih =>
    intro W0 C w a kc b cs hk hi hf
    obtain ⟨y, ys, rfl, hy, hk2⟩ := irels_cons hk
    obtain ⟨s, rfl, ho, hr⟩ := irel_ops_cons hy
    obtain ⟨a', w', C', hs, hf', hC, hi'⟩ := ay_run hi hf hy' ho b ys cs _
    exact pre hs hC (ih W0 C' w' a' _ b cs ⟨hr, hk2⟩ hi' hf')
  | opCall hg hv hc _ ih =>
    intro W0 C w a kc b cs hk hi hf
    obtain ⟨y, ys, rfl, hy, hk2⟩ := irels_cons hk
    obtain ⟨s, rfl, ho, hr⟩ := irel_ops_cons hy
    obtain ⟨vs, hrun, hargs⟩ := exec_call (P := P) (w := w) hf hv
    have hw := guard_spec hf _ _ |>.trans hg
    obtain ⟨u, w'', ⟨r, H', C', hR, hC, hrel, hI⟩, hs⟩ := steps_call (b := b) (k := ys) (cs := cs) (rest := _) (R := fun u w'' => ∃ r H' C', _ ∧ CLe C C' ∧ Rel C' r u ∧ Inv W0 C' H' w'') ho hw hrun
      ((hc W0 C w vs hi hargs).mono fun e w' ⟨r, H', C', u, h1, h2, h3⟩ => ⟨u, h1, r, H', C', h2, h3⟩)
    exact pre hs hC (ih r H' hR W0 C' w'' _ _ b cs ⟨hr, hk2⟩ hI ((hf.mono hC).put _ hrel))
  | opAlloc hg hv _ ih =>
    intro W0 C w a kc b cs hk hi hf
    obtain ⟨y, ys, rfl, hy, hk2⟩ := irels_cons hk
    obtain ⟨s, rfl, ho, hr⟩ := irel_ops_cons hy
    have hw := guard_spec hf _ _ |>.trans hg
    obtain ⟨bk, w', hrun, hfresh, hI⟩ := exec_alloc (P := P) hi hf hv
    exact pre (.one (step_value ho hw hrun)) (CLe.refl C) (ih bk hfresh W0 C w' _ _ b cs ⟨hr, hk2⟩ hI (hf.put _ (Rel.sc _)))
  | opStore hg hv hH _ ih =>
    intro W0 C w a kc b cs hk hi hf
    obtain ⟨y, ys, rfl, hy, hk2⟩ := irels_cons hk
    obtain ⟨s, rfl, ho, hr⟩ := irel_ops_cons hy
    have hw := guard_spec hf _ _ |>.trans hg
    obtain ⟨cs', T', w', hH', hrun, hI⟩ := exec_store (P := P) hi hf hv
    rw [hH] at hH'
    cases hH'
    exact pre (.one (step_skip_op ho hw hrun)) (CLe.refl C) (ih W0 C w' _ _ b cs ⟨hr, hk2⟩ hI (hf.put _ (Rel.sc _)))
  | opLits hg hv _ ih =>
    intro W0 C w a kc b cs hk hi hf
    obtain ⟨y, ys, rfl, hy, hk2⟩ := irels_cons hk
    obtain ⟨s, rfl, ho, hr⟩ := irel_ops_cons hy
    have hw := guard_spec hf _ _ |>.trans hg
    obtain ⟨v', g, w', C', hrun, hfresh, hC, hrel, hI⟩ := exec_lits (P := P) hi hf hv
    exact pre (.one (step_value ho hw hrun)) hC (ih g hfresh W0 C' w' _ _ b cs ⟨hr, hk2⟩ hI ((hf.mono hC).put _ hrel))
  | opFreeze hg hv hH _ ih =>
    intro W0 C w a kc b cs hk hi hf
    obtain ⟨y, ys, rfl, hy, hk2⟩ := irels_cons hk
    obtain ⟨s, rfl, ho, hr⟩ := irel_ops_cons hy
    have hw := guard_spec hf _ _ |>.trans hg
    obtain ⟨u, w', hrun, hrel, hI⟩ := exec_freeze (P := P) hi hf hv hH
    exact pre (.one (step_value ho hw hrun)) (CLe.refl C) (ih W0 C w' _ _ b cs ⟨hr, hk2⟩ hI (hf.put _ hrel))
  | opUnarr hg hv _ ih =>
    intro W0 C w a kc b cs hk hi hf
    obtain ⟨y, ys, rfl, hy, hk2⟩ := irels_cons hk
    obtain ⟨s, rfl, ho, hr⟩ := irel_ops_cons hy
    have hw := guard_spec hf _ _ |>.trans hg
    obtain ⟨u, C', hrun, hrel, hC, hI⟩ := exec_unarr (P := P) hi hf hv
    exact pre (.one (step_value ho hw hrun)) hC (ih W0 C' w _ _ b cs ⟨hr, hk2⟩ hI ((hf.mono hC).put _ hrel))
  | opNew hg hv he ht hx hys h0 hb hm _ ih =>
    intro W0 C w a kc b cs hk hi hf
    obtain ⟨y, ys', rfl, hy, hk2⟩ := irels_cons hk
    obtain ⟨s, rfl, ho, hr⟩ := irel_ops_cons hy
    have hw := guard_spec hf _ _ |>.trans hg
    obtain ⟨ty, u, z, t', hrun, hu, hz⟩ := exec_app (P := P) hf hv
    obtain ⟨v', w', C', g, cap, h1, h2, h3, h4, h5⟩ := s_app_new (ty := ty) he hi hu hz ht hx hys h0 hb hm
    have hrun' := hrun w
    rw [h1, Result.andThen_ok] at hrun'
    exact pre (.one (step_value ho hw hrun')) h3 (ih g cap h2 W0 C' w' _ _ b cs ⟨hr, hk2⟩ h5 ((hf.mono h3).put _ h4))
  | opOwn hg hv he hH hx hys hb hm _ ih =>
    intro W0 C w a kc b cs hk hi hf
    obtain ⟨y, ys', rfl, hy, hk2⟩ := irels_cons hk
    obtain ⟨s, rfl, ho, hr⟩ := irel_ops_cons hy
    have hw := guard_spec hf _ _ |>.trans hg
    obtain ⟨ty, u, z, t', hrun, hu, hz⟩ := exec_app (P := P) hf hv
    obtain ⟨v', w', C', g, cap, h1, h2, h3, h4, h5⟩ := s_app_own (ty := ty) he hi hu hz hH hx hys hb hm
    have hrun' := hrun w
    rw [h1, Result.andThen_ok] at hrun'
    exact pre (.one (step_value ho hw hrun')) h3 (ih g cap h2 W0 C' w' _ _ b cs ⟨hr, hk2⟩ h5 ((hf.mono h3).put _ h4))

/-! ### Calls -/

theorem load_strong {T : TypeId} {x r : AV} {v : Value} (hi : Inv W0 C H w) (hv : Rel C x v) (h : aload P T x H = .val r) : ∃ u, (Instr.loadAt T v).run P w = .ok u w ∧ Rel C r u := by
  unfold aload at h
  split at h
  · rename_i cs o hc
    obtain ⟨b, k, us, rfl, h1, h2, h3⟩ := acells_spec hi hv hc
    split at h
    · rename_i ha
      split at h
      · rename_i sz hs
        split at h
        · rename_i hle
          cases h
          have hl := h1.length
          refine ⟨.agg ((us.drop o).take sz).toArray, ?_, ?_⟩
          · simp only [Instr.loadAt, Instr.sureAddr, Sem.run_bind, Sem.run_pure, Result.andThen_ok]
            refine run_loadVar_agg ha hs b (k + o) _ (by simp; omega) fun j u hu => ?_
            have hu' : us[o + j]? = some u := by
              rw [List.getElem?_take] at hu
              split at hu
              · simpa using hu
              · cases hu
            rw [Nat.add_assoc]
            exact h3 _ _ hu'
          · exact RelL.agg ((h1.drop o).take sz) (fun u hu => h2 u (List.mem_of_mem_drop (List.mem_of_mem_take hu))) .nil
        · cases h
      · cases h
    · rename_i ha
      split at h
      · rename_i c hcc
        cases h
        obtain ⟨u, hu, hr⟩ := h1.get hcc
        refine ⟨u, ?_, hr⟩
        simp only [Instr.loadAt, Instr.sureAddr, Sem.run_bind, Sem.run_pure, Result.andThen_ok]
        exact run_loadVar_one ha b (k + o) u (h3 _ _ hu)
      · cases h
    · cases h
  · cases h

def oneRes (tmps : Array Value) : ResultVar → Sem Value
  | .tmp t => pure (tmps.getD t undef)
  | .cell a t => do loadVar t (← asAddr (tmps.getD a undef))

theorem ares_spec {n : Nat} {ρ : Nat → AV} {a : Act} (hi : Inv W0 C H w) (hf : RelF C n ρ a) : ∀ (rs : List ResultVar) (vs : List AV), ares P ρ H rs = some vs →
    ∃ us, (rs.mapM (oneRes a.tmps)).run P w = .ok us w ∧ RelL C vs us
  | [], vs, h => by simp [ares] at h; subst h; exact ⟨[], by simp, .nil⟩
  | .tmp t :: rs, vs, h => by
    simp only [ares] at h
    obtain ⟨vs', h1, rfl⟩ := Option.map_eq_some_iff.1 h
    obtain ⟨us, h2, h3⟩ := ares_spec hi hf rs vs' h1
    exact ⟨a.tmps.getD t undef :: us, by simp [List.mapM_cons, oneRes, Sem.run_bind, h2], RelL.cons (hf.slot t) h3⟩
  | .cell x T :: rs, vs, h => by
    simp only [ares] at h
    split at h
    · rename_i v hv
      obtain ⟨vs', h1, rfl⟩ := Option.map_eq_some_iff.1 h
      obtain ⟨us, h2, h3⟩ := ares_spec hi hf rs vs' h1
      obtain ⟨u, hu, hr⟩ := load_strong (P := P) hi (hf.slot x) hv
      refine ⟨u :: us, ?_, RelL.cons hr h3⟩
      have hone : (oneRes a.tmps (.cell x T)).run P w = .ok u w := by
        have hp : ∃ p, a.tmps.getD x undef = .pointer (some p) := by
          generalize a.tmps.getD x undef = z at hu
          cases z with
          | pointer q =>
            cases q with
            | some p => exact ⟨p, rfl⟩
            | none => simp [Instr.loadAt, Instr.sureAddr, Sem.run_bind] at hu
          | _ => simp [Instr.loadAt, Instr.sureAddr, Sem.run_bind] at hu
        obtain ⟨p, hp⟩ := hp
        rw [hp] at hu
        simp only [oneRes, hp]
        simpa [Instr.loadAt, Instr.sureAddr, asAddr, Sem.run_bind] using hu
      simp [List.mapM_cons, Sem.run_bind, hone, h2]
    · cases h

theorem results_eq (fn : Func) (tmps : Array Value) : results fn tmps = (do let vs ← fn.results.mapM (oneRes tmps); pure (if h : vs.size = 1 then vs[0] else .tuple vs)) := by
  unfold results oneRes
  rfl

theorem rel_pack {vs : List AV} {us : List Value} (h : RelL C vs us) : Rel C (apack vs) (if hh : us.toArray.size = 1 then us.toArray[0] else .tuple us.toArray) := by
  have hl := h.length
  unfold apack
  split
  · obtain ⟨u, us', rfl, hu, hn⟩ := h.uncons
    obtain rfl := hn.nil_inv
    simpa using hu
  · rename_i hne
    have : ¬ us.toArray.size = 1 := by
      intro hh
      simp at hh
      rw [hh] at hl
      obtain ⟨x, hx⟩ := List.length_eq_one_iff.1 hl
      exact hne x hx
    rw [dif_neg this]
    exact .tup h .nil

/-- A call does what its run says. -/
theorem ACalls.of_go {f : FuncId} {fn : Func} {c : Code} {args : List AV} {R : AV → Heap → Prop} (hf : P.funcs[f]? = some fn) (hb : fn.body = some c) (hn : args.length ≤ fn.ntmps)
    (h : AGo P fn.ntmps (AEnd P fn.results.toList R) [.code c] (ainit args) H) : ACalls P f args H R := by
  intro W0 C w vs hi hargs cs
  have hlen := hargs.length
  let b : Frame := { (default : Frame) with fn := f, kind := .normal }
  let a0 : Act := { tmps := vs.toArray ++ Array.replicate (fn.ntmps - vs.toArray.size) undef, defers := [] }
  have henter : Frame.enter P f vs.toArray .normal = b.at a0 [.code c] := by
    simp [Frame.enter, Frame.at, hf, hb, b, a0]
  have hrf : RelF C fn.ntmps (ainit args) a0 := by
    refine ⟨by simp [a0]; omega, rfl, fun i => ?_⟩
    simp only [ainit, a0, Array.getD_eq_getD_getElem?]
    cases hx : args[i]? with
    | some x =>
      obtain ⟨v, hv, hr⟩ := hargs.get hx
      have hlt := (List.getElem?_eq_some_iff.1 hv).1
      rw [Array.getElem?_append_left (by simpa using hlt)]
      simp [hv, hr]
    | none =>
      have hge := List.getElem?_eq_none_iff.1 hx
      rw [Array.getElem?_append_right (by simp; omega)]
      simp only [Option.getD_none]
      have : ((Array.replicate (fn.ntmps - vs.toArray.size) undef)[i - vs.toArray.size]?).getD undef = undef := by
        rw [Array.getElem?_replicate]
        split <;> rfl
      rw [this]
      exact Rel.sc _
  obtain ⟨ρ', H', C', a', w', todo, ⟨rvs, H0, hres, hle, hR⟩, hC, hI, hF, hs⟩ := h.sound W0 C w a0 [.code c] b cs ⟨rfl, trivial⟩ hi hrf
  rw [← henter] at hs
  obtain ⟨us, hus, hrl⟩ := ares_spec (P := P) hI hF _ _ hres
  have hrun : (results fn a'.tmps).run P w' = .ok (if hh : us.toArray.size = 1 then us.toArray[0] else .tuple us.toArray) w' := by
    rw [results_eq, ← Array.toArray_toList (xs := fn.results), List.mapM_toArray]
    simp [Sem.run_bind, hus]
  exact ⟨.returned _, w', _, ⟨_, H0, C', _, rfl, hR, hC, rel_pack hrl, hI.weaken hle⟩, hs, rfl, rfl, hF.defers, rfl, fn, hf, hrun⟩

end Rg
