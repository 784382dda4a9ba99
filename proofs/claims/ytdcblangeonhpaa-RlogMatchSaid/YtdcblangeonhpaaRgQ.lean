/- Regions that draw their order, among whose operations are appends onto a row of the call's own. -/
import Derived.Test.YtdcblangeonhpaaRgK
namespace Rg
open Go Go.RowKit

variable {P : Program} {W0 : World} {C : Com} {H : Heap} {w : World}

theorem HC.refl (H : Heap) : HC H H := fun _ _ _ h => h
theorem HC.trans {A B D : Heap} (h : HC A B) (k : HC B D) : HC A D := fun b cs T e => k b cs T (h b cs T e)
theorem HC.new {H : Heap} {g : Nat} {o : AObj} (h : H g = none) : HC H (H.set g o) := fun b cs T e => by
  unfold Heap.set
  by_cases hb : b = g
  · subst hb; rw [h] at e; cases e
  · rw [if_neg hb]; exact e
theorem HC.own {H : Heap} {g g' n cap sz n' cap' : Nat} {T : TypeId} (h : H g = some (.open n cap sz T)) (h' : (H.del g) g' = none) : HC H ((H.del g).set g' (.open n' cap' sz T)) := fun b cs T e => by
  have hb : b ≠ g := by rintro rfl; rw [h] at e; cases e
  have hd : (H.del g) b = some (.cells cs T) := by unfold Heap.del; rw [if_neg hb]; exact e
  have hb' : b ≠ g' := by rintro rfl; rw [h'] at hd; cases hd
  unfold Heap.set
  rw [if_neg hb']; exact hd

def wSt (P : Program) (n : Nat) (full : Array Oper) (i : Nat) (K : (Nat → AV) → Heap → Prop) (ρ : Nat → AV) (H : Heap) : Prop :=
  ∃ o, full[i]? = some o ∧ ((∃ v, AZ P n H full o v ρ ∧ K (aput n o.dst v ρ) H) ∨ AE P n full o K ρ H)

theorem AE_mono {n : Nat} {full : Array Oper} {o : Oper} {K K' : (Nat → AV) → Heap → Prop} {ρ : Nat → AV} (h : ∀ r H, K r H → K' r H) (hh : AE P n full o K ρ H) : AE P n full o K' ρ H := by
  rcases hh with ⟨h1, h2⟩ | ⟨h1, T, e, xs, t, ys, sz, by_, h2, h3, h4, h5, h6, h7, h8⟩
  · exact .inl ⟨h1, h _ _ h2⟩
  · refine .inr ⟨h1, T, e, xs, t, ys, sz, by_, h2, h3, h4, h5, h6, h7, ?_⟩
    rcases h8 with ⟨a, b, c⟩ | ⟨a, b, c⟩ | ⟨g, cap, a, b, c⟩
    · exact .inl ⟨a, b, h _ _ c⟩
    · exact .inr (.inl ⟨a, b, fun g cap hg => h _ _ (c g cap hg)⟩)
    · exact .inr (.inr ⟨g, cap, a, b, fun g cap hg => h _ _ (c g cap hg)⟩)

theorem wSt_mono {n : Nat} {full : Array Oper} {i : Nat} {K K' : (Nat → AV) → Heap → Prop} {ρ : Nat → AV} (h : ∀ r H, K r H → K' r H) (hh : wSt P n full i K ρ H) : wSt P n full i K' ρ H := by
  obtain ⟨o, h1, ⟨v, h2, h3⟩ | h2⟩ := hh
  · exact ⟨o, h1, .inl ⟨v, h2, h _ _ h3⟩⟩
  · exact ⟨o, h1, .inr (AE_mono h h2)⟩

theorem AZ.put {n : Nat} {full : Array Oper} {oi : Oper} {v : AV} {ρ : Nat → AV} (h : AZ P n H full oi v ρ) (dst : Option Tmp) (u : AV) (h3 : ∀ d, dst = some d → d ∉ oi.looksAt full) {H' : Heap} (hc : HC H H') : AZ P n H' full oi v (aput n dst u ρ) :=
  fun H2 h2 => (h H2 (hc.trans h2)).of_same (astepV_put oi dst u h3) (aguard_put oi dst u h3)

theorem wSt_put {n : Nat} {full : Array Oper} {j : Nat} {oi oj : Oper} {v : AV} (hj : full[j]? = some oj) (hap : oi.apart full oj = true) {K : (Nat → AV) → Heap → Prop} {ρ : Nat → AV}
    (hy : AZ P n H full oi v ρ) (h : wSt P n full j K (aput n oi.dst v ρ) H) : wSt P n full j (fun r H' => AZ P n H' full oi v r ∧ K (aput n oi.dst v r) H') ρ H := by
  obtain ⟨h1, h2, h3⟩ := Oper.apart_spec hap
  obtain ⟨o, ho, h⟩ := h
  obtain rfl : oj = o := Option.some.inj (hj.symm.trans ho)
  refine ⟨oj, hj, ?_⟩
  rcases h with ⟨u, hu, hK⟩ | hE
  · refine .inl ⟨u, fun H' hc => (hu H' hc).of_same (astepV_put oj oi.dst v h1).symm (aguard_put oj oi.dst v h1).symm, hy.put _ _ h3 (HC.refl H), ?_⟩
    rw [← aput_comm ρ v u h2]
    exact hK
  · refine .inr ?_
    unfold AE at hE ⊢
    rw [aguard_put oj oi.dst v h1, astepV_put oj oi.dst v h1] at hE
    rcases hE with ⟨g1, hK⟩ | ⟨g1, T, e, xs, t, ys, sz, by_, g2, g3, g4, g5, g6, g7, g8⟩
    · refine .inl ⟨g1, hy.put _ _ h3 (HC.refl H), ?_⟩
      rw [← aput_comm ρ v _ h2]; exact hK
    · refine .inr ⟨g1, T, e, xs, t, ys, sz, by_, g2, g3, g4, g5, g6, g7, ?_⟩
      rcases g8 with ⟨a, b, c⟩ | ⟨a, b, c⟩ | ⟨g, cap, a, b, c⟩
      · refine .inl ⟨a, b, hy.put _ _ h3 (HC.refl H), ?_⟩
        rw [← aput_comm ρ v _ h2]; exact c
      · refine .inr (.inl ⟨a, b, fun g cap hg => ⟨hy.put _ _ h3 (HC.new hg), ?_⟩⟩)
        rw [← aput_comm ρ v _ h2]; exact c g cap hg
      · refine .inr (.inr ⟨g, cap, a, b, fun g' cap' hg => ⟨hy.put _ _ h3 (HC.own b hg), ?_⟩⟩)
        rw [← aput_comm ρ v _ h2]; exact c g' cap' hg

/-- The first m operations in whatever order, then L. -/
def wAny (P : Program) (n : Nat) (full : Array Oper) (m : Nat) (L : Array Bool → (Nat → AV) → Heap → Prop) : Nat → Array Bool → (Nat → AV) → Heap → Prop
  | 0, listed, ρ, H => L listed ρ H
  | f + 1, listed, ρ, H => Region.ready .any full listed ≠ [] ∧ ∀ i ∈ Region.ready .any full listed, i < m ∧ wSt P n full i (wAny P n full m L f (listed.setIfInBounds i true)) ρ H

theorem wAny_first {n m i : Nat} {full : Array Oper} {oi : Oper} {v : AV} {L : Array Bool → (Nat → AV) → Heap → Prop} (hi : full[i]? = some oi) (hw : Waits full m) (him : i < m)
    (hdone : ∀ listed ρ H, L listed ρ H → ∀ j ∈ Region.ready .any full listed, m ≤ j) :
    ∀ (f : Nat) (listed : Array Bool) (ρ : Nat → AV) (H : Heap), HeadInv .any full m listed →
      (∀ j oj, full[j]? = some oj → j ≠ i → listed.getD j true = false → (∀ e ∈ oj.after, Region.binds .any e = true → e.on ≠ i) → oi.apart full oj = true) →
      i ∈ Region.ready .any full listed → AZ P n H full oi v ρ →
      wAny P n full m L f (listed.setIfInBounds i true) (aput n oi.dst v ρ) H → wAny P n full m L (f + 1) listed ρ H := by
  intro f
  induction f with
  | zero =>
    intro listed ρ H inv _ hr hy HH
    have hun := (mem_ready.1 hr).1
    refine ⟨fun h => (by rw [h] at hr; cases hr), fun j hj => ?_⟩
    have hjn : j < m := by
      rcases Nat.lt_or_ge j m with h | h
      · exact h
      · exact absurd hj (hw listed inv i him hun j h)
    refine ⟨hjn, ?_⟩
    by_cases hji : j = i
    · subst hji; exact ⟨oi, hi, .inl ⟨v, hy, HH⟩⟩
    · have := hdone _ _ _ HH j (ready_mono hj hji)
      omega
  | succ f ih =>
    intro listed ρ H inv hfree hr hy HH
    have hun := (mem_ready.1 hr).1
    refine ⟨fun h => (by rw [h] at hr; cases hr), fun j hj => ?_⟩
    have hjn : j < m := by
      rcases Nat.lt_or_ge j m with h | h
      · exact h
      · exact absurd hj (hw listed inv i him hun j h)
    refine ⟨hjn, ?_⟩
    by_cases hji : j = i
    · subst hji; exact ⟨oi, hi, .inl ⟨v, hy, HH⟩⟩
    · have h1 := (HH.2 j (ready_mono hj hji)).2
      obtain ⟨hjun, oj, hoj, hall⟩ := mem_ready.1 hj
      have hnot : ∀ e ∈ oj.after, Region.binds .any e = true → e.on ≠ i := fun e he hb heq => by
        have h1 := hall e he hb
        rw [heq, getD_both hun] at h1
        cases h1
      have h2 := wSt_put hoj (hfree j oj hoj hji hjun hnot) hy h1
      have hfree' : ∀ k ok, full[k]? = some ok → k ≠ i → (listed.setIfInBounds j true).getD k true = false →
          (∀ e ∈ ok.after, Region.binds .any e = true → e.on ≠ i) → oi.apart full ok = true := fun k ok hk hki hun hno => by
        refine hfree k ok hk hki ?_ hno
        by_cases hjk : j = k
        · subst hjk; exact hjun
        · rw [getD_set_ne true hjk] at hun; exact hun
      refine wSt_mono (fun r H' h3 => ih (listed.setIfInBounds j true) r H' (inv.set hj hjn) hfree' (ready_mono hr (Ne.symm hji)) h3.1 ?_) h2
      rw [Array.setIfInBounds_comm _ _ hji]
      exact h3.2

theorem wAny_lex {n m : Nat} {full : Array Oper} {R : (Nat → AV) → Heap → Prop} (hw : Waits full m) :
    ∀ (A B : List Nat) (listed : Array Bool) (ρ : Nat → AV) (H : Heap), HeadInv .any full m listed → lexTo2 full m A B listed = true →
    AQ2 P n H full (fun r => AB P n full R (picks full B) r H) (picks full A) ρ →
    wAny P n full m (fun listed' r H' => Region.seqB .any full (full.size - m) m listed' = true ∧ R r H') (A.length + B.length) listed ρ H
  | [], [], listed, ρ, H, _, hB, h => ⟨by simpa [lexTo2] using hB, h⟩
  | [], b :: B, listed, ρ, H, inv, hB, h => by
    simp only [lexTo2, Bool.and_eq_true, decide_eq_true_eq] at hB
    obtain ⟨⟨hr, hbm⟩, hB'⟩ := hB
    have hbr : b ∈ Region.ready .any full listed := by rw [hr]; simp
    obtain ⟨_, ob, hob, _⟩ := mem_ready.1 hbr
    have h2 : AB P n full R (ob :: picks full B) ρ H := by simpa [picks, AQ2, hob] using h
    have hlen : ([] : List Nat).length + (b :: B).length = (([] : List Nat).length + B.length) + 1 := by simp
    rw [hlen]
    refine ⟨by rw [hr]; simp, fun i hi => ?_⟩
    rw [hr] at hi
    obtain rfl : i = b := by simpa using hi
    refine ⟨hbm, ob, hob, .inr (AE_mono (fun r H' h' => wAny_lex hw [] B _ r H' (inv.set hbr hbm) hB' ?_) h2)⟩
    simpa [picks, AQ2] using h'
  | i :: A, B, listed, ρ, H, inv, hB, h => by
    simp only [lexTo2, Bool.and_eq_true, decide_eq_true_eq] at hB
    obtain ⟨⟨⟨hr, hf⟩, him⟩, hB'⟩ := hB
    have hr' : i ∈ Region.ready .any full listed := by simpa using hr
    obtain ⟨_, oi, hoi, _⟩ := mem_ready.1 hr'
    have h : AQ2 P n H full (fun r => AB P n full R (picks full B) r H) (oi :: picks full A) ρ := by simpa [picks, hoi] using h
    obtain ⟨v, hy, hK⟩ := h
    have hlen : (i :: A).length + B.length = (A.length + B.length) + 1 := by simp; omega
    rw [hlen]
    exact wAny_first hoi hw him (fun listed' r H' hL => seqB_ready hL.1) _ listed ρ H inv (Region.free_spec hoi hf) hr' hy (wAny_lex hw A B _ _ H (inv.set hr' him) hB' hK)

theorem ae_run {n : Nat} {ρ : Nat → AV} {a : Act} {o : Oper} {full : Array Oper} {i : Nat} {K : (Nat → AV) → Heap → Prop} (hi : Inv W0 C H w) (hf : RelF C n ρ a) (hy : AE P n full o K ρ H) (ho : full[i]? = some o)
    (b : Frame) (k : List Item) (cs : List Frame) (rest : List Nat) :
    ∃ ρ' H' a' w' C', K ρ' H' ∧ Steps P (lone (b.at a (.inRegion full (i :: rest) :: k)) cs w) (lone (b.at a' (.inRegion full rest :: k)) cs w') ∧ RelF C' n ρ' a' ∧ CLe C C' ∧ Inv W0 C' H' w' := by
  have hg := guard_spec hf full o
  rcases hy with ⟨hgf, hK⟩ | ⟨hgt, T, e, xs, t, ys, sz, by_, hv, he, hx, hys, hb, hm, hE⟩
  · rw [hgf] at hg
    exact ⟨_, _, _, w, C, hK, .one (step_unwanted ho hg), hf.put _ (Rel.sc _), CLe.refl C, hi⟩
  · rw [hgt] at hg
    obtain ⟨ty, u, z, t', hrun, hu, hz⟩ := exec_app (P := P) hf hv
    rcases hE with ⟨ht, hy0, hK⟩ | ⟨ht, h0, hK⟩ | ⟨g, cap, rfl, hH, hK⟩
    · subst hy0
      obtain ⟨q, w', C', h1, h2, h3, h4⟩ := s_app_any (r := .sl xs t) (ty := ty) he hi hu hz (.inr ⟨rfl, rfl⟩) (.inl ht) hx hys hb hm
      have hrun' := hrun w
      rw [h1, Result.andThen_ok] at hrun'
      exact ⟨_, _, _, w', C', hK, .one (step_value ho hg hrun'), (hf.mono h3).put _ h2, h3, h4⟩
    · obtain ⟨v', w', C', g, cap, h1, h2, h3, h4, h5⟩ := s_app_new (ty := ty) he hi hu hz ht hx hys h0 hb hm
      have hrun' := hrun w
      rw [h1, Result.andThen_ok] at hrun'
      exact ⟨_, _, _, w', C', hK g cap h2, .one (step_value ho hg hrun'), (hf.mono h3).put _ h4, h3, h5⟩
    · obtain ⟨v', w', C', g', cap', h1, h2, h3, h4, h5⟩ := s_app_own (ty := ty) he hi hu hz hH hx hys hb hm
      have hrun' := hrun w
      rw [h1, Result.andThen_ok] at hrun'
      exact ⟨_, _, _, w', C', hK g' cap' h2, .one (step_value ho hg hrun'), (hf.mono h3).put _ h4, h3, h5⟩

theorem wany_run {n m g : Nat} {full : Array Oper} {L : Array Bool → (Nat → AV) → Heap → Prop} (b : Frame) (k : List Item) (cs : List Frame) :
    ∀ (f t : Nat) (listed : Array Bool) (ρ : Nat → AV) (H : Heap) (a : Act) (C : Com) (w : World), Inv W0 C H w → RelF C n ρ a → wAny P n full m L f listed ρ H →
      ∃ t' listed' ρ' H' a' w' C', Steps P (lone (b.at a (.inRegion full (Region.linearise.go .any full (f + g) t listed []) :: k)) cs w) (lone (b.at a' (.inRegion full (Region.linearise.go .any full g t' listed' []) :: k)) cs w') ∧
        L listed' ρ' H' ∧ RelF C' n ρ' a' ∧ CLe C C' ∧ Inv W0 C' H' w' := by
  intro f
  induction f with
  | zero =>
    intro t listed ρ H a C w hi hf h
    rw [Nat.zero_add]
    exact ⟨t, listed, ρ, H, a, w, C, .refl _ _, h, hf, CLe.refl C, hi⟩
  | succ f ih =>
    intro t listed ρ H a C w hi hf h
    obtain ⟨hne, hall⟩ := h
    rw [show f + 1 + g = (f + g) + 1 by omega]
    simp only [Region.linearise.go]
    change ∃ t' listed' ρ' H' a' w' C', Steps P (lone (b.at a (.inRegion full (match (Region.ready .any full listed)[t % (Region.ready .any full listed).length]? with
      | some i => Region.linearise.go .any full (f + g) (t / (Region.ready .any full listed).length) (listed.setIfInBounds i true) [i]
      | none => [].reverse) :: k)) cs w) _ ∧ _
    cases hx : (Region.ready .any full listed)[t % (Region.ready .any full listed).length]? with
    | none =>
      exfalso
      have hpos : 0 < (Region.ready .any full listed).length := List.length_pos_iff.2 hne
      have := Nat.mod_lt t hpos
      rw [List.getElem?_eq_none_iff] at hx
      omega
    | some i =>
      simp only []
      rw [linearise_go_acc, List.reverse_singleton, List.singleton_append]
      obtain ⟨him, o, ho, hst⟩ := hall i (List.mem_of_getElem? hx)
      have hone : ∃ ρ1 H1 a1 w1 C1, wAny P n full m L f (listed.setIfInBounds i true) ρ1 H1 ∧ Steps P (lone (b.at a (.inRegion full (i :: Region.linearise.go .any full (f + g) (t / (Region.ready .any full listed).length) (listed.setIfInBounds i true) []) :: k)) cs w)
          (lone (b.at a1 (.inRegion full (Region.linearise.go .any full (f + g) (t / (Region.ready .any full listed).length) (listed.setIfInBounds i true) []) :: k)) cs w1) ∧ RelF C1 n ρ1 a1 ∧ CLe C C1 ∧ Inv W0 C1 H1 w1 := by
        rcases hst with ⟨v, hy, hK⟩ | hE
        · obtain ⟨a1, w1, C1, hs1, hf1, hC1, hi1⟩ := ay_run hi hf (hy H (HC.refl H)) ho b k cs (Region.linearise.go .any full (f + g) (t / (Region.ready .any full listed).length) (listed.setIfInBounds i true) [])
          exact ⟨_, _, a1, w1, C1, hK, hs1, hf1, hC1, hi1⟩
        · exact ae_run hi hf hE ho b k cs _
      obtain ⟨ρ1, H1, a1, w1, C1, hK, hs1, hf1, hC1, hi1⟩ := hone
      obtain ⟨t', listed', ρ', H', a', w', C', hs, hL, hf', hC', hi'⟩ := ih (t / (Region.ready .any full listed).length) _ _ _ a1 C1 w1 hi1 hf1 hK
      exact ⟨t', listed', ρ', H', a', w', C', hs1.trans hs, hL, hf', hC1.trans hC', hi'⟩

/-- A region that draws its order. -/
theorem draw_run2 {n m : Nat} {full : Array Oper} {id : Nat} {ρ : Nat → AV} {a : Act} {A B : List Nat} {R : (Nat → AV) → Heap → Prop} (hmix : P.follows .mixedOrders = true) (hd : drawB2 full m A B = true)
    (hq : AQ2 P n H full (fun r => AB P n full R (picks full B) r H) (picks full A) ρ) (hi : Inv W0 C H w) (hf : RelF C n ρ a) (b : Frame) (k : List Item) (cs : List Frame) :
    ∃ ρ' H' a' w' C', R ρ' H' ∧ Steps P (lone (b.at a (.code (.region id full true) :: k)) cs w) (lone (b.at a' (.inRegion full (List.range' m (full.size - m)) :: k)) cs w') ∧ RelF C' n ρ' a' ∧ CLe C C' ∧ Inv W0 C' H' w' := by
  unfold drawB2 at hd
  simp only [Bool.and_eq_true, Bool.or_eq_true, decide_eq_true_eq] at hd
  obtain ⟨⟨⟨_, hm⟩, hlen⟩, hlex⟩ := hd
  have hwt : Waits full m := by
    intro listed inv i him hun t ht
    rcases hm with h | ⟨⟨h1, h2⟩, h3⟩
    · intro hr
      obtain ⟨_, o, ho, _⟩ := mem_ready.1 hr
      have := (Array.getElem?_eq_some_iff.1 ho).1
      omega
    · exact tail_waits h2 h3 h1 inv _ i rfl him hun t ht
  have hmle : m ≤ full.size := by
    rcases hm with h | ⟨⟨h, _⟩, _⟩ <;> omega
  have inv0 : HeadInv .any full m (Array.replicate full.size false) :=
    ⟨by simp, fun j oj _ hl => (by rw [getD_replicate_false] at hl; cases hl), fun t _ ht => getD_in (by simpa using ht) (getD_replicate_false _ _)⟩
  have HA := wAny_lex (P := P) (n := n) (R := R) hwt A B (Array.replicate full.size false) ρ H inv0 hlex hq
  rw [hlen] at HA
  have hdr : Steps P (lone (b.at a (.code (.region id full true) :: k)) cs w) (lone (b.at a (.inRegion full (Region.linearise.go .any full (m + (full.size - m)) (w.tape w.drawn (.order b.fn id)) (Array.replicate full.size false) []) :: k)) cs w.drew) := by
    have := step_region_draw (P := P) (b := b) (a := a) (k := k) (cs := cs) (w := w) (ops := full) (id := id)
    rw [show m + (full.size - m) = full.size by omega]
    simp only [Region.schedule, hmix, Bool.true_or, if_true] at this
    exact .one this
  obtain ⟨t', listed', ρ'', H'', a', w', C', hs, ⟨hseq, hR⟩, hf', hC', hi'⟩ := wany_run (g := full.size - m) b k cs m (w.tape w.drawn (.order b.fn id)) _ ρ H a C w.drew hi.draw hf HA
  rw [lin_seq _ _ _ _ hseq] at hs
  exact ⟨ρ'', H'', a', w', C', hR, hdr.trans hs, hf', hC', hi'⟩

end Rg
