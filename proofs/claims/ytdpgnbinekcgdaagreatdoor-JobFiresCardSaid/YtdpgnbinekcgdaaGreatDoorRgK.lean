/- Regions that draw their order; the whole run; calls. -/
import Derived.Test.YtdpgnbinekcgdaaGreatDoorRgJ
namespace Rg
open Go Go.RowKit

variable {dds : List Deferred} {P : Program} {W0 : World} {C : Com} {H : Heap} {w : World}

theorem ay_run {n : Nat} {ρ : Nat → AV} {a : Act} {o : Oper} {v : AV} {full : Array Oper} {i : Nat} (hi : Inv W0 C H w) (hf : RelF dds C n ρ a) (hy : AY P n H full o v ρ) (ho : full[i]? = some o)
    (b : Frame) (k : List Item) (cs : List Frame) (rest : List Nat) :
    ∃ a' w' C', Steps P (lone (b.atR a (.inRegion full (i :: rest) :: k)) cs w) (lone (b.atR a' (.inRegion full rest :: k)) cs w') ∧ RelF dds C' n (aput n o.dst v ρ) a' ∧ CLe C C' ∧ Inv W0 C' H w' := by
  have hg := guard_spec hf full o
  rcases hy with ⟨hgt, hy⟩ | ⟨hgf, rfl⟩
  · rw [hgt] at hg
    rcases hy with hv | ⟨f, args, hv, hc⟩ | ⟨T, e, xs, t, ys, sz, by_, hv, hve, he, ht, hx, hys, hb, hm⟩
    · obtain ⟨u, w', C', hr, hrel, hC, hI⟩ := exec_val hi hf hv
      exact ⟨_, w', C', .one (step_value ho hg hr), (hf.mono hC).put _ hrel, hC, hI⟩
    · obtain ⟨r, H', C', u, w'', ⟨rfl, rfl⟩, hC, hrel, hI, hs⟩ := steps_call (b := b) (k := k) (cs := cs) (rest := rest) hi hf hv hc ho hg
      exact ⟨_, w'', C', hs, (hf.mono hC).put _ hrel, hC, hI⟩
    · obtain ⟨ty, u, z, t', hr, hu, hz⟩ := exec_app (P := P) hf hv
      obtain ⟨q, w', C', h1, h2, h3, h4⟩ := s_app_any (ty := ty) he hi hu hz hve ht hx hys hb hm
      have hr' : (execOp a.eval o).run P w = .ok (.value q) w' := by rw [hr, h1]; rfl
      exact ⟨_, w', C', .one (step_value ho hg hr'), (hf.mono h3).put _ h2, h3, h4⟩
  · rw [hgf] at hg
    exact ⟨_, w, C, .one (step_unwanted ho hg), hf.put _ (Rel.sc _), CLe.refl C, hi⟩

/-! ### In whatever order -/

theorem acall_congr {ev ev' : Operand → AV} (c : Call) (h : ∀ x ∈ c.operands, ev x = ev' x) : acall P c ev = acall P c ev' := by
  have hargs : c.args.toList.map ev = c.args.toList.map ev' := List.map_congr_left fun x hx => h x (by simp [Call.operands]; exact .inr (by simpa using hx))
  unfold acall
  rw [hargs]
  cases hc : c.callee with
  | value f => have hf : ev f = ev' f := h f (by simp [Call.operands, hc]); simp only [hf]
  | invoke r m => rfl
  | builtin b => rfl

theorem astepV_congr {ev ev' : Operand → AV} (op : Op) (h : ∀ x ∈ op.operands, ev x = ev' x) : astepV P op ev H = astepV P op ev' H := by
  have pairs : ∀ ps : Array (Nat × Operand), (∀ x ∈ (ps.toList.map (·.2)).toArray, ev x = ev' x) → (ps.toList.map fun p => (p.1, ev p.2)) = (ps.toList.map fun p => (p.1, ev' p.2)) := fun ps hp =>
    List.map_congr_left fun p hm => by
      rw [hp p.2 (by simp; exact ⟨p.1, by simpa using hm⟩)]
  cases op <;> simp only [Op.operands] at h <;> simp only [astepV]
  case build t ps => rw [pairs ps h]
  case buildSlice t n ps => rw [pairs ps h]
  case makeFunc fn first captured =>
    rw [List.map_congr_left (l := first.toList) fun x hx => h x (by simp; exact .inl (by simpa using hx)), List.map_congr_left (l := captured.toList) fun x hx => h x (by simp; exact .inr (by simpa using hx))]
  case call c => exact acall_congr c h
  case slice t x lo hi mx => cases lo <;> cases hi <;> cases mx <;> simp_all
  all_goals (first | rfl | (simp_all; done))

theorem evA_put {n : Nat} {ρ : Nat → AV} {dst : Option Tmp} {v : AV} {x : Operand} (h : ∀ d, dst = some d → x ≠ .tmp d) : evA (aput n dst v ρ) x = evA ρ x := by
  cases dst with
  | none => rfl
  | some d =>
    cases x with
    | tmp t =>
      have hne : t ≠ d := fun e => h d rfl (e ▸ rfl)
      simp [evA, aput, hne]
    | _ => rfl

theorem astepV_put {n : Nat} {ρ : Nat → AV} {full : Array Oper} (o : Oper) (dst : Option Tmp) (v : AV) (h : ∀ d, dst = some d → d ∉ o.looksAt full) : astepV P o.op (evA (aput n dst v ρ)) H = astepV P o.op (evA ρ) H :=
  astepV_congr o.op fun x hx => evA_put fun d hd hxd => h d hd (by
    subst hxd
    exact List.mem_append_left _ (List.mem_filterMap.2 ⟨.tmp d, by simpa using hx, rfl⟩))

theorem aguard_put {n : Nat} {ρ : Nat → AV} {full : Array Oper} (o : Oper) (dst : Option Tmp) (v : AV) (h : ∀ d, dst = some d → d ∉ o.looksAt full) : aguard full (aput n dst v ρ) n o.guard = aguard full ρ n o.guard := by
  cases dst with
  | none => rfl
  | some d =>
    cases hg : o.guard with
    | none => rfl
    | some gw =>
      obtain ⟨g, want⟩ := gw
      simp only [aguard]
      cases ht : (full[g]?).bind (·.dst) with
      | none => rfl
      | some t =>
        have hne : t ≠ d := fun e => h d rfl (by subst e; simp [Oper.looksAt, hg, ht])
        simp [aput, hne]

theorem aput_comm {n : Nat} (ρ : Nat → AV) {x y : Option Tmp} (v u : AV) (h : ∀ d, x = some d → y ≠ some d) : aput n y u (aput n x v ρ) = aput n x v (aput n y u ρ) := by
  cases x with
  | none => rfl
  | some d =>
    cases y with
    | none => rfl
    | some e =>
      have hne : e ≠ d := fun he => h d rfl (he ▸ rfl)
      funext i
      simp only [aput]
      by_cases h1 : i = e ∧ e < n
      · rw [if_pos h1, if_neg (fun h2 => hne (h1.1.symm.trans h2.1)), if_pos h1]
      · rw [if_neg h1]
        by_cases h2 : i = d ∧ d < n
        · rw [if_pos h2, if_pos h2]
        · rw [if_neg h2, if_neg h2, if_neg h1]

theorem AY.of_same {n : Nat} {full : Array Oper} {o : Oper} {v : AV} {ρ ρ' : Nat → AV} (h : AY P n H full o v ρ) (he : astepV P o.op (evA ρ') H = astepV P o.op (evA ρ) H)
    (hg : aguard full ρ' n o.guard = aguard full ρ n o.guard) : AY P n H full o v ρ' := by
  unfold AY at *
  rw [he, hg]
  exact h

def aSt (P : Program) (n : Nat) (H : Heap) (full : Array Oper) (i : Nat) (K : (Nat → AV) → Prop) (ρ : Nat → AV) : Prop := ∃ o v, full[i]? = some o ∧ AY P n H full o v ρ ∧ K (aput n o.dst v ρ)

theorem aSt_mono {n : Nat} {full : Array Oper} {i : Nat} {K K' : (Nat → AV) → Prop} {ρ : Nat → AV} (h : ∀ r, K r → K' r) (hh : aSt P n H full i K ρ) : aSt P n H full i K' ρ :=
  let ⟨o, v, h1, h2, h3⟩ := hh; ⟨o, v, h1, h2, h _ h3⟩

theorem aSt_put {n : Nat} {full : Array Oper} {j : Nat} {oi oj : Oper} {v : AV} (hj : full[j]? = some oj) (hap : oi.apart full oj = true) {K : (Nat → AV) → Prop} {ρ : Nat → AV}
    (hy : AY P n H full oi v ρ) (h : aSt P n H full j K (aput n oi.dst v ρ)) : aSt P n H full j (fun r => AY P n H full oi v r ∧ K (aput n oi.dst v r)) ρ := by
  obtain ⟨h1, h2, h3⟩ := Oper.apart_spec hap
  obtain ⟨o, u, ho, hu, hK⟩ := h
  obtain rfl : oj = o := Option.some.inj (hj.symm.trans ho)
  refine ⟨oj, u, hj, hu.of_same (astepV_put oj oi.dst v h1).symm (aguard_put oj oi.dst v h1).symm, hy.of_same (astepV_put oi oj.dst u h3) (aguard_put oi oj.dst u h3), ?_⟩
  rw [← aput_comm ρ v u h2]
  exact hK

/-- The first m operations in whatever order, then L. -/
def aAny (P : Program) (n : Nat) (H : Heap) (full : Array Oper) (m : Nat) (L : Array Bool → (Nat → AV) → Prop) : Nat → Array Bool → (Nat → AV) → Prop
  | 0, listed, ρ => L listed ρ
  | f + 1, listed, ρ => Region.ready .any full listed ≠ [] ∧ ∀ i ∈ Region.ready .any full listed, i < m ∧ aSt P n H full i (aAny P n H full m L f (listed.setIfInBounds i true)) ρ

/-- What drawB gives: nothing behind the first m is ready ahead of their end. -/
def Waits (full : Array Oper) (m : Nat) : Prop := ∀ listed, HeadInv .any full m listed → ∀ i, i < m → listed.getD i true = false → ∀ t, m ≤ t → t ∉ Region.ready .any full listed

theorem aAny_first {n m i : Nat} {full : Array Oper} {oi : Oper} {v : AV} {L : Array Bool → (Nat → AV) → Prop} (hi : full[i]? = some oi) (hw : Waits full m) (him : i < m)
    (hdone : ∀ listed ρ, L listed ρ → ∀ j ∈ Region.ready .any full listed, m ≤ j) :
    ∀ (f : Nat) (listed : Array Bool) (ρ : Nat → AV), HeadInv .any full m listed →
      (∀ j oj, full[j]? = some oj → j ≠ i → listed.getD j true = false → (∀ e ∈ oj.after, Region.binds .any e = true → e.on ≠ i) → oi.apart full oj = true) →
      i ∈ Region.ready .any full listed → AY P n H full oi v ρ →
      aAny P n H full m L f (listed.setIfInBounds i true) (aput n oi.dst v ρ) → aAny P n H full m L (f + 1) listed ρ := by
  intro f
  induction f with
  | zero =>
    intro listed ρ inv _ hr hy HH
    have hun := (mem_ready.1 hr).1
    refine ⟨fun h => (by rw [h] at hr; cases hr), fun j hj => ?_⟩
    have hjn : j < m := by
      rcases Nat.lt_or_ge j m with h | h
      · exact h
      · exact absurd hj (hw listed inv i him hun j h)
    refine ⟨hjn, ?_⟩
    by_cases hji : j = i
    · subst hji; exact ⟨oi, v, hi, hy, HH⟩
    · have := hdone _ _ HH j (ready_mono hj hji)
      omega
  | succ f ih =>
    intro listed ρ inv hfree hr hy HH
    have hun := (mem_ready.1 hr).1
    refine ⟨fun h => (by rw [h] at hr; cases hr), fun j hj => ?_⟩
    have hjn : j < m := by
      rcases Nat.lt_or_ge j m with h | h
      · exact h
      · exact absurd hj (hw listed inv i him hun j h)
    refine ⟨hjn, ?_⟩
    by_cases hji : j = i
    · subst hji; exact ⟨oi, v, hi, hy, HH⟩
    · have h1 := (HH.2 j (ready_mono hj hji)).2
      obtain ⟨hjun, oj, hoj, hall⟩ := mem_ready.1 hj
      have hnot : ∀ e ∈ oj.after, Region.binds .any e = true → e.on ≠ i := fun e he hb heq => by
        have h1 := hall e he hb
        rw [heq, getD_both hun] at h1
        cases h1
      have h2 := aSt_put hoj (hfree j oj hoj hji hjun hnot) hy h1
      have hfree' : ∀ k ok, full[k]? = some ok → k ≠ i → (listed.setIfInBounds j true).getD k true = false →
          (∀ e ∈ ok.after, Region.binds .any e = true → e.on ≠ i) → oi.apart full ok = true := fun k ok hk hki hun hno => by
        refine hfree k ok hk hki ?_ hno
        by_cases hjk : j = k
        · subst hjk; exact hjun
        · rw [getD_set_ne true hjk] at hun; exact hun
      refine aSt_mono (fun r h3 => ih (listed.setIfInBounds j true) r (inv.set hj hjn) hfree' (ready_mono hr (Ne.symm hji)) h3.1 ?_) h2
      rw [Array.setIfInBounds_comm _ _ hji]
      exact h3.2

theorem aAny_lex {n m : Nat} {full : Array Oper} {Lq : (Nat → AV) → Prop} (hw : Waits full m) :
    ∀ (l : List Oper) (k : Nat) (listed : Array Bool) (ρ : Nat → AV), (∀ j, j < l.length → l[j]? = full[k + j]?) → k + l.length = m → HeadInv .any full m listed →
    lexTo .any full l.length k listed = true → AQ P n H full Lq l ρ →
    aAny P n H full m (fun listed' r => Region.seqB .any full (full.size - m) m listed' = true ∧ Lq r) l.length listed ρ
  | [], k, listed, ρ, _, hk, _, hB, h => by
    have : k = m := by simpa using hk
    subst this
    exact ⟨by simpa [lexTo] using hB, h⟩
  | o :: l, k, listed, ρ, hl, hk, inv, hB, h => by
    have h0 : full[k]? = some o := by simpa using (hl 0 (by simp)).symm
    simp only [List.length_cons, lexTo, Bool.and_eq_true] at hB
    obtain ⟨⟨hr, hf⟩, hB'⟩ := hB
    have hkn : k < m := by simp only [List.length_cons] at hk; omega
    have hr' : k ∈ Region.ready .any full listed := by simpa using hr
    obtain ⟨v, hy, hK⟩ := h
    exact aAny_first h0 hw hkn (fun listed' r hL => seqB_ready hL.1) l.length listed ρ inv (Region.free_spec h0 hf) hr' hy
      (aAny_lex hw l (k + 1) _ _ (fun j hj => by have := hl (j + 1) (by simp; omega); simpa [Nat.add_assoc, Nat.add_comm 1 j] using this) (by simp only [List.length_cons] at hk; omega) (inv.set hr' hkn) hB' hK)

/-- Behind the first m, one by one. -/
theorem lin_seq {full : Array Oper} : ∀ (g k t : Nat) (listed : Array Bool), Region.seqB .any full g k listed = true → Region.linearise.go .any full g t listed [] = List.range' k g := by
  intro g
  induction g with
  | zero => intro k t listed h; simp [Region.linearise.go]
  | succ g ih =>
    intro k t listed h
    simp only [Region.seqB, Bool.and_eq_true, decide_eq_true_eq] at h
    simp only [Region.linearise.go]
    change (match (Region.ready .any full listed)[t % (Region.ready .any full listed).length]? with
      | some i => Region.linearise.go .any full g (t / (Region.ready .any full listed).length) (listed.setIfInBounds i true) [i]
      | none => [].reverse) = _
    rw [h.1]
    simp only [List.length_cons, List.length_nil, Nat.zero_add, Nat.mod_one, List.getElem?_cons_zero]
    rw [linearise_go_acc, ih _ _ _ h.2, List.range'_succ]
    rfl

theorem any_run {n m g : Nat} {full : Array Oper} {L : Array Bool → (Nat → AV) → Prop} (b : Frame) (k : List Item) (cs : List Frame) :
    ∀ (f t : Nat) (listed : Array Bool) (ρ : Nat → AV) (a : Act) (C : Com) (w : World), Inv W0 C H w → RelF dds C n ρ a → aAny P n H full m L f listed ρ →
      ∃ t' listed' ρ' a' w' C', Steps P (lone (b.atR a (.inRegion full (Region.linearise.go .any full (f + g) t listed []) :: k)) cs w) (lone (b.atR a' (.inRegion full (Region.linearise.go .any full g t' listed' []) :: k)) cs w') ∧
        L listed' ρ' ∧ RelF dds C' n ρ' a' ∧ CLe C C' ∧ Inv W0 C' H w' := by
  intro f
  induction f with
  | zero =>
    intro t listed ρ a C w hi hf h
    rw [Nat.zero_add]
    exact ⟨t, listed, ρ, a, w, C, .refl _ _, h, hf, CLe.refl C, hi⟩
  | succ f ih =>
    intro t listed ρ a C w hi hf h
    obtain ⟨hne, hall⟩ := h
    rw [show f + 1 + g = (f + g) + 1 by omega]
    simp only [Region.linearise.go]
    change ∃ t' listed' ρ' a' w' C', Steps P (lone (b.atR a (.inRegion full (match (Region.ready .any full listed)[t % (Region.ready .any full listed).length]? with
      | some i => Region.linearise.go .any full (f + g) (t / (Region.ready .any full listed).length) (listed.setIfInBounds i true) [i]
      | none => [].reverse) :: k)) cs w) _ ∧ _
    cases hx : (Region.ready .any full listed)[t % (Region.ready .any full listed).length]? with
    | none =>
      exfalso
      have hpos : 0 < (Region.ready .any full listed).length := List.length_pos_iff.2 hne
      have := Nat.mod_lt t hpos
      rw [List.getElem?_eq_none_iff] at hx
      omega
    | some i =>
      simp only []
      rw [linearise_go_acc, List.reverse_singleton, List.singleton_append]
      obtain ⟨him, o, v, ho, hy, hK⟩ := hall i (List.mem_of_getElem? hx)
      obtain ⟨a1, w1, C1, hs1, hf1, hC1, hi1⟩ := ay_run hi hf hy ho b k cs (Region.linearise.go .any full (f + g) (t / (Region.ready .any full listed).length) (listed.setIfInBounds i true) [])
      obtain ⟨t', listed', ρ', a', w', C', hs, hL, hf', hC', hi'⟩ := ih (t / (Region.ready .any full listed).length) _ _ a1 C1 w1 hi1 hf1 hK
      exact ⟨t', listed', ρ', a', w', C', hs1.trans hs, hL, hf', hC1.trans hC', hi'⟩

theorem waits_of {full : Array Oper} {m : Nat} (h : drawB full m = true) : Waits full m := by
  unfold drawB at h
  simp only [Bool.and_eq_true, Bool.or_eq_true, decide_eq_true_eq] at h
  obtain ⟨⟨_, h⟩, _⟩ := h
  intro listed inv i him hun t ht
  rcases h with h | ⟨⟨h1, h2⟩, h3⟩
  · intro hr
    obtain ⟨_, o, ho, _⟩ := mem_ready.1 hr
    have := (Array.getElem?_eq_some_iff.1 ho).1
    omega
  · exact tail_waits h2 h3 h1 inv _ i rfl him hun t ht

/-- A region that draws its order. -/
theorem draw_run {n m : Nat} {full : Array Oper} {id : Nat} {ρ ρ' : Nat → AV} {a : Act} (hmix : P.follows .mixedOrders = true) (hd : drawB full m = true) (hq : AQ P n H full (fun r => r = ρ') (full.toList.take m) ρ)
    (hi : Inv W0 C H w) (hf : RelF dds C n ρ a) (b : Frame) (k : List Item) (cs : List Frame) :
    ∃ a' w' C', Steps P (lone (b.atR a (.code (.region id full true) :: k)) cs w) (lone (b.atR a' (.inRegion full (List.range' m (full.size - m)) :: k)) cs w') ∧ RelF dds C' n ρ' a' ∧ CLe C C' ∧ Inv W0 C' H w' := by
  have hwt := waits_of hd
  have hmle : m ≤ full.size := by
    unfold drawB at hd
    simp only [Bool.and_eq_true, Bool.or_eq_true, decide_eq_true_eq] at hd
    obtain ⟨⟨_, h⟩, _⟩ := hd
    rcases h with h | ⟨⟨h, _⟩, _⟩ <;> omega
  have hlex : lexTo .any full m 0 (Array.replicate full.size false) = true := by
    unfold drawB at hd
    simp only [Bool.and_eq_true] at hd
    exact hd.2
  have htl : (full.toList.take m).length = m := by simp; omega
  have inv0 : HeadInv .any full m (Array.replicate full.size false) :=
    ⟨by simp, fun j oj _ hl => (by rw [getD_replicate_false] at hl; cases hl), fun t _ ht => getD_in (by simpa using ht) (getD_replicate_false _ _)⟩
  have HA := aAny_lex (P := P) (n := n) (H := H) (Lq := fun r => r = ρ') hwt (full.toList.take m) 0 (Array.replicate full.size false) ρ (fun j hj => by
    rw [htl] at hj
    simp [hj]) (by simpa using htl) inv0 (by rw [htl]; exact hlex) hq
  rw [htl] at HA
  have hdr : Steps P (lone (b.atR a (.code (.region id full true) :: k)) cs w) (lone (b.atR a (.inRegion full (Region.linearise.go .any full (m + (full.size - m)) (w.tape w.drawn (.order b.fn id)) (Array.replicate full.size false) []) :: k)) cs w.drew) := by
    have := stepR_region_draw (P := P) (b := b) (a := a) (k := k) (cs := cs) (w := w) (ops := full) (id := id)
    rw [show m + (full.size - m) = full.size by omega]
    simp only [Region.schedule, hmix, Bool.true_or, if_true] at this
    exact .one this
  obtain ⟨t', listed', ρ'', a', w', C', hs, ⟨hseq, rfl⟩, hf', hC', hi'⟩ := any_run (g := full.size - m) b k cs m (w.tape w.drawn (.order b.fn id)) _ ρ a C w.drew hi.draw hf HA
  rw [lin_seq _ _ _ _ hseq] at hs
  exact ⟨a', w', C', hdr.trans hs, hf', hC', hi'⟩

end Rg
