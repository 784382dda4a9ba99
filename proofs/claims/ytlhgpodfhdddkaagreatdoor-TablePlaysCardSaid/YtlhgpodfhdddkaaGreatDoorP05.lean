/- Regions that draw their order; the whole run; calls. Regions that draw their order, among whose operations are appends onto a row of the call's own. -/
import Derived.Test.YtlhgpodfhdddkaaGreatDoorP04
set_option linter.unusedSimpArgs false
set_option linter.unusedVariables false
set_option linter.unnecessarySimpa false
namespace Rg
open Go Go.RowKit
variable {dds : List Deferred} {P : Program} {W0 : World} {C : Com} {H : Heap} {w : World}
theorem ay_run {n : Nat} {ρ : Nat → AV} {a : Act} {o : Oper} {v : AV} {full : Array Oper} {i : Nat} (hi : Inv W0 C H w) (hf : RelF dds C n ρ a) (hy : AY P n H full o v ρ) (ho : full[i]? = some o)
    (b : Frame) (k : List Item) (cs : List Frame) (rest : List Nat) :
    ∃ a' w' C', Steps P (lone (b.atR a (.inRegion full (i :: rest) :: k)) cs w) (lone (b.atR a' (.inRegion full rest :: k)) cs w') ∧ RelF dds C' n (aput n o.dst v ρ) a' ∧ CLe C C' ∧ Inv W0 C' H w' := by
  have hg := guard_spec hf full o
  rcases hy with ⟨hgt, hy⟩ | ⟨hgf, rfl⟩
  · rw [hgt] at hg
    rcases hy with hv | ⟨f, args, hv, hc⟩ | ⟨T, e, xs, t, ys, sz, by_, hv, hve, he, ht, hx, hys, hb, hm⟩
    · obtain ⟨u, w', C', hr, hrel, hC, hI⟩ := exec_val hi hf hv
      exact ⟨_, w', C', .one (step_value ho hg hr), (hf.mono hC).put _ hrel, hC, hI⟩
    · obtain ⟨r, H', C', u, w'', ⟨rfl, rfl⟩, hC, hrel, hI, hs⟩ := steps_call (b := b) (k := k) (cs := cs) (rest := rest) hi hf hv hc ho hg
      exact ⟨_, w'', C', hs, (hf.mono hC).put _ hrel, hC, hI⟩
    · obtain ⟨ty, u, z, t', hr, hu, hz⟩ := exec_app (P := P) hf hv
      obtain ⟨q, w', C', h1, h2, h3, h4⟩ := s_app_any (ty := ty) he hi hu hz hve ht hx hys hb hm
      have hr' : (execOp a.eval o).run P w = .ok (.value q) w' := by rw [hr, h1]; rfl
      exact ⟨_, w', C', .one (step_value ho hg hr'), (hf.mono h3).put _ h2, h3, h4⟩
  · rw [hgf] at hg
    exact ⟨_, w, C, .one (step_unwanted ho hg), hf.put _ (Rel.sc _), CLe.refl C, hi⟩
theorem acall_congr {ev ev' : Operand → AV} (c : Call) (h : ∀ x ∈ c.operands, ev x = ev' x) : acall P c ev = acall P c ev' := by
  have hargs : c.args.toList.map ev = c.args.toList.map ev' := List.map_congr_left fun x hx => h x (by simp [Call.operands]; exact .inr (by simpa using hx))
  unfold acall
  rw [hargs]
  cases hc : c.callee with
  | value f => have hf : ev f = ev' f := h f (by simp [Call.operands, hc]); simp only [hf]
  | invoke r m => rfl
  | builtin b => rfl
theorem astepV_congr {ev ev' : Operand → AV} (op : Op) (h : ∀ x ∈ op.operands, ev x = ev' x) : astepV P op ev H = astepV P op ev' H := by
  have pairs : ∀ ps : Array (Nat × Operand), (∀ x ∈ (ps.toList.map (·.2)).toArray, ev x = ev' x) → (ps.toList.map fun p => (p.1, ev p.2)) = (ps.toList.map fun p => (p.1, ev' p.2)) := fun ps hp =>
    List.map_congr_left fun p hm => by
      rw [hp p.2 (by simp; exact ⟨p.1, by simpa using hm⟩)]
  cases op <;> simp only [Op.operands] at h <;> simp only [astepV]
  case build t ps => rw [pairs ps h]
  case buildSlice t n ps => rw [pairs ps h]
  case makeFunc fn first captured =>
    rw [List.map_congr_left (l := first.toList) fun x hx => h x (by simp; exact .inl (by simpa using hx)), List.map_congr_left (l := captured.toList) fun x hx => h x (by simp; exact .inr (by simpa using hx))]
  case call c => exact acall_congr c h
  case makeMap t r => cases r <;> simp_all
  case slice t x lo hi mx => cases lo <;> cases hi <;> cases mx <;> simp_all
  all_goals (first | rfl | (simp_all; done))
theorem evA_put {n : Nat} {ρ : Nat → AV} {dst : Option Tmp} {v : AV} {x : Operand} (h : ∀ d, dst = some d → x ≠ .tmp d) : evA (aput n dst v ρ) x = evA ρ x := by
  cases dst with
  | none => rfl
  | some d =>
    cases x with
    | tmp t =>
      have hne : t ≠ d := fun e => h d rfl (e ▸ rfl)
      simp [evA, aput, hne]
    | _ => rfl
theorem astepV_put {n : Nat} {ρ : Nat → AV} {full : Array Oper} (o : Oper) (dst : Option Tmp) (v : AV) (h : ∀ d, dst = some d → d ∉ o.looksAt full) : astepV P o.op (evA (aput n dst v ρ)) H = astepV P o.op (evA ρ) H :=
  astepV_congr o.op fun x hx => evA_put fun d hd hxd => h d hd (by
    subst hxd
    exact List.mem_append_left _ (List.mem_filterMap.2 ⟨.tmp d, by simpa using hx, rfl⟩))
theorem aguard_put {n : Nat} {ρ : Nat → AV} {full : Array Oper} (o : Oper) (dst : Option Tmp) (v : AV) (h : ∀ d, dst = some d → d ∉ o.looksAt full) : aguard full (aput n dst v ρ) n o.guard = aguard full ρ n o.guard := by
  cases dst with
  | none => rfl
  | some d =>
    cases hg : o.guard with
    | none => rfl
    | some gw =>
      obtain ⟨g, want⟩ := gw
      simp only [aguard]
      cases ht : (full[g]?).bind (·.dst) with
      | none => rfl
      | some t =>
        have hne : t ≠ d := fun e => h d rfl (by subst e; simp [Oper.looksAt, hg, ht])
        simp [aput, hne]
theorem aput_comm {n : Nat} (ρ : Nat → AV) {x y : Option Tmp} (v u : AV) (h : ∀ d, x = some d → y ≠ some d) : aput n y u (aput n x v ρ) = aput n x v (aput n y u ρ) := by
  cases x with
  | none => rfl
  | some d =>
    cases y with
    | none => rfl
    | some e =>
      have hne : e ≠ d := fun he => h d rfl (he ▸ rfl)
      funext i
      simp only [aput]
      by_cases h1 : i = e ∧ e < n
      · rw [if_pos h1, if_neg (fun h2 => hne (h1.1.symm.trans h2.1)), if_pos h1]
      · rw [if_neg h1]
        by_cases h2 : i = d ∧ d < n
        · rw [if_pos h2, if_pos h2]
        · rw [if_neg h2, if_neg h2, if_neg h1]
theorem AY.of_same {n : Nat} {full : Array Oper} {o : Oper} {v : AV} {ρ ρ' : Nat → AV} (h : AY P n H full o v ρ) (he : astepV P o.op (evA ρ') H = astepV P o.op (evA ρ) H)
    (hg : aguard full ρ' n o.guard = aguard full ρ n o.guard) : AY P n H full o v ρ' := by
  unfold AY at *
  rw [he, hg]
  exact h
def aSt (P : Program) (n : Nat) (H : Heap) (full : Array Oper) (i : Nat) (K : (Nat → AV) → Prop) (ρ : Nat → AV) : Prop := ∃ o v, full[i]? = some o ∧ AY P n H full o v ρ ∧ K (aput n o.dst v ρ)
theorem aSt_mono {n : Nat} {full : Array Oper} {i : Nat} {K K' : (Nat → AV) → Prop} {ρ : Nat → AV} (h : ∀ r, K r → K' r) (hh : aSt P n H full i K ρ) : aSt P n H full i K' ρ :=
  let ⟨o, v, h1, h2, h3⟩ := hh; ⟨o, v, h1, h2, h _ h3⟩
theorem aSt_put {n : Nat} {full : Array Oper} {j : Nat} {oi oj : Oper} {v : AV} (hj : full[j]? = some oj) (hap : oi.apart full oj = true) {K : (Nat → AV) → Prop} {ρ : Nat → AV}
    (hy : AY P n H full oi v ρ) (h : aSt P n H full j K (aput n oi.dst v ρ)) : aSt P n H full j (fun r => AY P n H full oi v r ∧ K (aput n oi.dst v r)) ρ := by
  obtain ⟨h1, h2, h3⟩ := Oper.apart_spec hap
  obtain ⟨o, u, ho, hu, hK⟩ := h
  obtain rfl : oj = o := Option.some.inj (hj.symm.trans ho)
  refine ⟨oj, u, hj, hu.of_same (astepV_put oj oi.dst v h1).symm (aguard_put oj oi.dst v h1).symm, hy.of_same (astepV_put oi oj.dst u h3) (aguard_put oi oj.dst u h3), ?_⟩
  rw [← aput_comm ρ v u h2]
  exact hK
def aAny (P : Program) (n : Nat) (H : Heap) (full : Array Oper) (m : Nat) (L : Array Bool → (Nat → AV) → Prop) : Nat → Array Bool → (Nat → AV) → Prop
  | 0, listed, ρ => L listed ρ
  | f + 1, listed, ρ => Region.ready .any full listed ≠ [] ∧ ∀ i ∈ Region.ready .any full listed, i < m ∧ aSt P n H full i (aAny P n H full m L f (listed.setIfInBounds i true)) ρ
def Waits (full : Array Oper) (m : Nat) : Prop := ∀ listed, HeadInv .any full m listed → ∀ i, i < m → listed.getD i true = false → ∀ t, m ≤ t → t ∉ Region.ready .any full listed
theorem aAny_first {n m i : Nat} {full : Array Oper} {oi : Oper} {v : AV} {L : Array Bool → (Nat → AV) → Prop} (hi : full[i]? = some oi) (hw : Waits full m) (him : i < m)
    (hdone : ∀ listed ρ, L listed ρ → ∀ j ∈ Region.ready .any full listed, m ≤ j) :
    ∀ (f : Nat) (listed : Array Bool) (ρ : Nat → AV), HeadInv .any full m listed →
      (∀ j oj, full[j]? = some oj → j ≠ i → listed.getD j true = false → (∀ e ∈ oj.after, Region.binds .any e = true → e.on ≠ i) → oi.apart full oj = true) →
      i ∈ Region.ready .any full listed → AY P n H full oi v ρ →
      aAny P n H full m L f (listed.setIfInBounds i true) (aput n oi.dst v ρ) → aAny P n H full m L (f + 1) listed ρ := by
  intro f
  induction f with
  | zero =>
    intro listed ρ inv _ hr hy HH
    have hun := (mem_ready.1 hr).1
    refine ⟨fun h => (by rw [h] at hr; cases hr), fun j hj => ?_⟩
    have hjn : j < m := by
      rcases Nat.lt_or_ge j m with h | h
      · exact h
      · exact absurd hj (hw listed inv i him hun j h)
    refine ⟨hjn, ?_⟩
    by_cases hji : j = i
    · subst hji; exact ⟨oi, v, hi, hy, HH⟩
    · have := hdone _ _ HH j (ready_mono hj hji)
      omega
  | succ f ih =>
    intro listed ρ inv hfree hr hy HH
    have hun := (mem_ready.1 hr).1
    refine ⟨fun h => (by rw [h] at hr; cases hr), fun j hj => ?_⟩
    have hjn : j < m := by
      rcases Nat.lt_or_ge j m with h | h
      · exact h
      · exact absurd hj (hw listed inv i him hun j h)
    refine ⟨hjn, ?_⟩
    by_cases hji : j = i
    · subst hji; exact ⟨oi, v, hi, hy, HH⟩
    · have h1 := (HH.2 j (ready_mono hj hji)).2
      obtain ⟨hjun, oj, hoj, hall⟩ := mem_ready.1 hj
      have hnot : ∀ e ∈ oj.after, Region.binds .any e = true → e.on ≠ i := fun e he hb heq => by
        have h1 := hall e he hb
        rw [heq, getD_both hun] at h1
        cases h1
      have h2 := aSt_put hoj (hfree j oj hoj hji hjun hnot) hy h1
      have hfree' : ∀ k ok, full[k]? = some ok → k ≠ i → (listed.setIfInBounds j true).getD k true = false →
          (∀ e ∈ ok.after, Region.binds .any e = true → e.on ≠ i) → oi.apart full ok = true := fun k ok hk hki hun hno => by
        refine hfree k ok hk hki ?_ hno
        by_cases hjk : j = k
        · subst hjk; exact hjun
        · rw [getD_set_ne true hjk] at hun; exact hun
      refine aSt_mono (fun r h3 => ih (listed.setIfInBounds j true) r (inv.set hj hjn) hfree' (ready_mono hr (Ne.symm hji)) h3.1 ?_) h2
      rw [Array.setIfInBounds_comm _ _ hji]
      exact h3.2
theorem aAny_lex {n m : Nat} {full : Array Oper} {Lq : (Nat → AV) → Prop} (hw : Waits full m) :
    ∀ (l : List Oper) (k : Nat) (listed : Array Bool) (ρ : Nat → AV), (∀ j, j < l.length → l[j]? = full[k + j]?) → k + l.length = m → HeadInv .any full m listed →
    lexTo .any full l.length k listed = true → AQ P n H full Lq l ρ →
    aAny P n H full m (fun listed' r => Region.seqB .any full (full.size - m) m listed' = true ∧ Lq r) l.length listed ρ
  | [], k, listed, ρ, _, hk, _, hB, h => by
    have : k = m := by simpa using hk
    subst this
    exact ⟨by simpa [lexTo] using hB, h⟩
  | o :: l, k, listed, ρ, hl, hk, inv, hB, h => by
    have h0 : full[k]? = some o := by simpa using (hl 0 (by simp)).symm
    simp only [List.length_cons, lexTo, Bool.and_eq_true] at hB
    obtain ⟨⟨hr, hf⟩, hB'⟩ := hB
    have hkn : k < m := by simp only [List.length_cons] at hk; omega
    have hr' : k ∈ Region.ready .any full listed := by simpa using hr
    obtain ⟨v, hy, hK⟩ := h
    exact aAny_first h0 hw hkn (fun listed' r hL => seqB_ready hL.1) l.length listed ρ inv (Region.free_spec h0 hf) hr' hy
      (aAny_lex hw l (k + 1) _ _ (fun j hj => by have := hl (j + 1) (by simp; omega); simpa [Nat.add_assoc, Nat.add_comm 1 j] using this) (by simp only [List.length_cons] at hk; omega) (inv.set hr' hkn) hB' hK)
theorem lin_seq {full : Array Oper} : ∀ (g k t : Nat) (listed : Array Bool), Region.seqB .any full g k listed = true → Region.linearise.go .any full g t listed [] = List.range' k g := by
  intro g
  induction g with
  | zero => intro k t listed h; simp [Region.linearise.go]
  | succ g ih =>
    intro k t listed h
    simp only [Region.seqB, Bool.and_eq_true, decide_eq_true_eq] at h
    simp only [Region.linearise.go]
    change (match (Region.ready .any full listed)[t % (Region.ready .any full listed).length]? with
      | some i => Region.linearise.go .any full g (t / (Region.ready .any full listed).length) (listed.setIfInBounds i true) [i]
      | none => [].reverse) = _
    rw [h.1]
    simp only [List.length_cons, List.length_nil, Nat.zero_add, Nat.mod_one, List.getElem?_cons_zero]
    rw [linearise_go_acc, ih _ _ _ h.2, List.range'_succ]
    rfl
theorem any_run {n m g : Nat} {full : Array Oper} {L : Array Bool → (Nat → AV) → Prop} (b : Frame) (k : List Item) (cs : List Frame) :
    ∀ (f t : Nat) (listed : Array Bool) (ρ : Nat → AV) (a : Act) (C : Com) (w : World), Inv W0 C H w → RelF dds C n ρ a → aAny P n H full m L f listed ρ →
      ∃ t' listed' ρ' a' w' C', Steps P (lone (b.atR a (.inRegion full (Region.linearise.go .any full (f + g) t listed []) :: k)) cs w) (lone (b.atR a' (.inRegion full (Region.linearise.go .any full g t' listed' []) :: k)) cs w') ∧
        L listed' ρ' ∧ RelF dds C' n ρ' a' ∧ CLe C C' ∧ Inv W0 C' H w' := by
  intro f
  induction f with
  | zero =>
    intro t listed ρ a C w hi hf h
    rw [Nat.zero_add]
    exact ⟨t, listed, ρ, a, w, C, .refl _ _, h, hf, CLe.refl C, hi⟩
  | succ f ih =>
    intro t listed ρ a C w hi hf h
    obtain ⟨hne, hall⟩ := h
    rw [show f + 1 + g = (f + g) + 1 by omega]
    simp only [Region.linearise.go]
    change ∃ t' listed' ρ' a' w' C', Steps P (lone (b.atR a (.inRegion full (match (Region.ready .any full listed)[t % (Region.ready .any full listed).length]? with
      | some i => Region.linearise.go .any full (f + g) (t / (Region.ready .any full listed).length) (listed.setIfInBounds i true) [i]
      | none => [].reverse) :: k)) cs w) _ ∧ _
    cases hx : (Region.ready .any full listed)[t % (Region.ready .any full listed).length]? with
    | none =>
      exfalso
      have hpos : 0 < (Region.ready .any full listed).length := List.length_pos_iff.2 hne
      have := Nat.mod_lt t hpos
      rw [List.getElem?_eq_none_iff] at hx
      omega
    | some i =>
      simp only []
      rw [linearise_go_acc, List.reverse_singleton, List.singleton_append]
      obtain ⟨him, o, v, ho, hy, hK⟩ := hall i (List.mem_of_getElem? hx)
      obtain ⟨a1, w1, C1, hs1, hf1, hC1, hi1⟩ := ay_run hi hf hy ho b k cs (Region.linearise.go .any full (f + g) (t / (Region.ready .any full listed).length) (listed.setIfInBounds i true) [])
      obtain ⟨t', listed', ρ', a', w', C', hs, hL, hf', hC', hi'⟩ := ih (t / (Region.ready .any full listed).length) _ _ a1 C1 w1 hi1 hf1 hK
      exact ⟨t', listed', ρ', a', w', C', hs1.trans hs, hL, hf', hC1.trans hC', hi'⟩
theorem waits_of {full : Array Oper} {m : Nat} (h : drawB full m = true) : Waits full m := by
  unfold drawB at h
  simp only [Bool.and_eq_true, Bool.or_eq_true, decide_eq_true_eq] at h
  obtain ⟨⟨_, h⟩, _⟩ := h
  intro listed inv i him hun t ht
  rcases h with h | ⟨⟨h1, h2⟩, h3⟩
  · intro hr
    obtain ⟨_, o, ho, _⟩ := mem_ready.1 hr
    have := (Array.getElem?_eq_some_iff.1 ho).1
    omega
  · exact tail_waits h2 h3 h1 inv _ i rfl him hun t ht
theorem draw_run {n m : Nat} {full : Array Oper} {id : Nat} {ρ ρ' : Nat → AV} {a : Act} (hmix : P.follows .mixedOrders = true) (hd : drawB full m = true) (hq : AQ P n H full (fun r => r = ρ') (full.toList.take m) ρ)
    (hi : Inv W0 C H w) (hf : RelF dds C n ρ a) (b : Frame) (k : List Item) (cs : List Frame) :
    ∃ a' w' C', Steps P (lone (b.atR a (.code (.region id full true) :: k)) cs w) (lone (b.atR a' (.inRegion full (List.range' m (full.size - m)) :: k)) cs w') ∧ RelF dds C' n ρ' a' ∧ CLe C C' ∧ Inv W0 C' H w' := by
  have hwt := waits_of hd
  have hmle : m ≤ full.size := by
    unfold drawB at hd
    simp only [Bool.and_eq_true, Bool.or_eq_true, decide_eq_true_eq] at hd
    obtain ⟨⟨_, h⟩, _⟩ := hd
    rcases h with h | ⟨⟨h, _⟩, _⟩ <;> omega
  have hlex : lexTo .any full m 0 (Array.replicate full.size false) = true := by
    unfold drawB at hd
    simp only [Bool.and_eq_true] at hd
    exact hd.2
  have htl : (full.toList.take m).length = m := by simp; omega
  have inv0 : HeadInv .any full m (Array.replicate full.size false) :=
    ⟨by simp, fun j oj _ hl => (by rw [getD_replicate_false] at hl; cases hl), fun t _ ht => getD_in (by simpa using ht) (getD_replicate_false _ _)⟩
  have HA := aAny_lex (P := P) (n := n) (H := H) (Lq := fun r => r = ρ') hwt (full.toList.take m) 0 (Array.replicate full.size false) ρ (fun j hj => by
    rw [htl] at hj
    simp [hj]) (by simpa using htl) inv0 (by rw [htl]; exact hlex) hq
  rw [htl] at HA
  have hdr : Steps P (lone (b.atR a (.code (.region id full true) :: k)) cs w) (lone (b.atR a (.inRegion full (Region.linearise.go .any full (m + (full.size - m)) (w.tape w.drawn (.order b.fn id)) (Array.replicate full.size false) []) :: k)) cs w.drew) := by
    have := stepR_region_draw (P := P) (b := b) (a := a) (k := k) (cs := cs) (w := w) (ops := full) (id := id)
    rw [show m + (full.size - m) = full.size by omega]
    simp only [Region.schedule, hmix, Bool.true_or, if_true] at this
    exact .one this
  obtain ⟨t', listed', ρ'', a', w', C', hs, ⟨hseq, rfl⟩, hf', hC', hi'⟩ := any_run (g := full.size - m) b k cs m (w.tape w.drawn (.order b.fn id)) _ ρ a C w.drew hi.draw hf HA
  rw [lin_seq _ _ _ _ hseq] at hs
  exact ⟨a', w', C', hdr.trans hs, hf', hC', hi'⟩
end Rg
namespace Rg
open Go Go.RowKit
variable {dds : List Deferred} {P : Program} {W0 : World} {C : Com} {H : Heap} {w : World}
theorem HC.refl (H : Heap) : HC H H := fun _ _ h => h
theorem HC.trans {A B D : Heap} (h : HC A B) (k : HC B D) : HC A D := fun b cs e => k b cs (h b cs e)
theorem HC.new {H : Heap} {g : Nat} {o : AObj} (h : H g = none) : HC H (H.set g o) := fun b cs e => by
  unfold Heap.set
  by_cases hb : b = g
  · subst hb; rw [h] at e; cases e
  · rw [if_neg hb]; exact e
theorem HC.own {H : Heap} {g g' n cap sz n' cap' : Nat} {T : TypeId} (h : H g = some (.open n cap sz T)) (h' : (H.del g) g' = none) : HC H ((H.del g).set g' (.open n' cap' sz T)) := fun b cs e => by
  have hb : b ≠ g := by rintro rfl; rw [h] at e; cases e
  have hd : (H.del g) b = H b := by unfold Heap.del; rw [if_neg hb]
  have hb' : b ≠ g' := by rintro rfl; rw [hd] at h'; rw [h'] at e; cases e
  unfold Heap.set
  rw [if_neg hb', hd]; exact e
theorem HC.del {H : Heap} {g : Nat} : HC (H.del g) H := fun b cs e => by
  unfold Heap.del at e
  split at e
  · cases e
  · exact e
variable {H0 : Heap}
theorem AE_mono {n : Nat} {full : Array Oper} {o : Oper} {K K' : (Nat → AV) → Heap → Prop} {ρ : Nat → AV} (h : ∀ r H, K r H → K' r H) (hh : AE P n H0 full o K ρ H) : AE P n H0 full o K' ρ H := by
  rcases hh with ⟨h1, h2⟩ | ⟨h1, hh⟩
  · exact .inl ⟨h1, h _ _ h2⟩
  · refine .inr ⟨h1, ?_⟩
    cases hv : astepV P o.op (evA ρ) H with
    | val v => simp only [hv] at hh ⊢; exact h _ _ hh
    | alloc cs T => simp only [hv] at hh ⊢; exact fun b hb => h _ _ (hh b hb)
    | store b off ds => simp only [hv] at hh ⊢; obtain ⟨cs, T, e1, e2, e3⟩ := hh; exact ⟨cs, T, e1, e2, h _ _ e3⟩
    | call f args => simp only [hv] at hh ⊢; obtain ⟨R, e1, e2⟩ := hh; exact ⟨R, e1, fun v H' hr => ⟨(e2 v H' hr).1, h _ _ (e2 v H' hr).2⟩⟩
    | app T e xs t ys =>
      simp only [hv] at hh ⊢
      obtain ⟨sz, by_, h3, h4, h5, h6, h7, h8⟩ := hh
      refine ⟨sz, by_, h3, h4, h5, h6, h7, ?_⟩
      rcases h8 with ⟨a, b, c⟩ | ⟨a, b, c⟩ | ⟨g, cap, a, b, c⟩
      · exact .inl ⟨a, b, h _ _ c⟩
      · exact .inr (.inl ⟨a, b, fun g cap hg => h _ _ (c g cap hg)⟩)
      · exact .inr (.inr ⟨g, cap, a, b, fun g cap hg => h _ _ (c g cap hg)⟩)
    | stuck => simp only [hv] at hh
    | lits e sz xs => simp only [hv] at hh
    | freeze g v => simp only [hv] at hh
    | unarr b v => simp only [hv] at hh
theorem wSt_mono {n : Nat} {full : Array Oper} {i : Nat} {K K' : (Nat → AV) → Heap → Prop} {ρ : Nat → AV} (h : ∀ r H, K r H → K' r H) (hh : wSt P n H0 full i K ρ H) : wSt P n H0 full i K' ρ H := by
  obtain ⟨o, h1, ⟨v, h2, h3⟩ | h2⟩ := hh
  · exact ⟨o, h1, .inl ⟨v, h2, h _ _ h3⟩⟩
  · exact ⟨o, h1, .inr (AE_mono h h2)⟩
theorem AZ.put {n : Nat} {full : Array Oper} {oi : Oper} {v : AV} {ρ : Nat → AV} (h : AZ P n H0 full oi v ρ) (dst : Option Tmp) (u : AV) (h3 : ∀ d, dst = some d → d ∉ oi.looksAt full) : AZ P n H0 full oi v (aput n dst u ρ) :=
  fun H2 h2 => (h H2 h2).of_same (astepV_put oi dst u h3) (aguard_put oi dst u h3)
theorem wSt_put {n : Nat} {full : Array Oper} {j : Nat} {oi oj : Oper} {v : AV} (hj : full[j]? = some oj) (hap : oi.apart full oj = true) {K : (Nat → AV) → Heap → Prop} {ρ : Nat → AV}
    (hy : AZ P n H0 full oi v ρ) (h : wSt P n H0 full j K (aput n oi.dst v ρ) H) : wSt P n H0 full j (fun r H' => AZ P n H0 full oi v r ∧ K (aput n oi.dst v r) H') ρ H := by
  obtain ⟨h1, h2, h3⟩ := Oper.apart_spec hap
  obtain ⟨o, ho, h⟩ := h
  obtain rfl : oj = o := Option.some.inj (hj.symm.trans ho)
  refine ⟨oj, hj, ?_⟩
  rcases h with ⟨u, hu, hK⟩ | hE
  · refine .inl ⟨u, fun H' hc => (hu H' hc).of_same (astepV_put oj oi.dst v h1).symm (aguard_put oj oi.dst v h1).symm, hy.put _ _ h3, ?_⟩
    rw [← aput_comm ρ v u h2]
    exact hK
  · refine .inr ?_
    have go : ∀ u H', K (aput n oj.dst u (aput n oi.dst v ρ)) H' → AZ P n H0 full oi v (aput n oj.dst u ρ) ∧ K (aput n oi.dst v (aput n oj.dst u ρ)) H' := fun u H' hk => ⟨hy.put _ _ h3, by rw [← aput_comm ρ v u h2]; exact hk⟩
    unfold AE at hE ⊢
    rw [aguard_put oj oi.dst v h1, astepV_put oj oi.dst v h1] at hE
    rcases hE with ⟨g1, hK⟩ | ⟨g1, hE⟩
    · exact .inl ⟨g1, go _ _ hK⟩
    · refine .inr ⟨g1, ?_⟩
      cases hv : astepV P oj.op (evA ρ) H with
      | val v => simp only [hv] at hE ⊢; exact go _ _ hE
      | alloc cs T => simp only [hv] at hE ⊢; exact fun b hb => go _ _ (hE b hb)
      | store b off ds => simp only [hv] at hE ⊢; obtain ⟨cs, T, e1, e2, e3⟩ := hE; exact ⟨cs, T, e1, e2, go _ _ e3⟩
      | call f args => simp only [hv] at hE ⊢; obtain ⟨R, e1, e2⟩ := hE; exact ⟨R, e1, fun v H' hr => ⟨(e2 v H' hr).1, go _ _ (e2 v H' hr).2⟩⟩
      | app T e xs t ys =>
        simp only [hv] at hE ⊢
        obtain ⟨sz, by_, g3, g4, g5, g6, g7, g8⟩ := hE
        refine ⟨sz, by_, g3, g4, g5, g6, g7, ?_⟩
        rcases g8 with ⟨a, b, c⟩ | ⟨a, b, c⟩ | ⟨g, cap, a, b, c⟩
        · exact .inl ⟨a, b, go _ _ c⟩
        · exact .inr (.inl ⟨a, b, fun g cap hg => go _ _ (c g cap hg)⟩)
        · exact .inr (.inr ⟨g, cap, a, b, fun g' cap' hg => go _ _ (c g' cap' hg)⟩)
      | stuck => simp only [hv] at hE
      | lits e sz xs => simp only [hv] at hE
      | freeze g v => simp only [hv] at hE
      | unarr b v => simp only [hv] at hE
theorem wAny_first {n m i : Nat} {full : Array Oper} {oi : Oper} {v : AV} {L : Array Bool → (Nat → AV) → Heap → Prop} (hi : full[i]? = some oi) (hw : Waits full m) (him : i < m)
    (hdone : ∀ listed ρ H, L listed ρ H → ∀ j ∈ Region.ready .any full listed, m ≤ j) :
    ∀ (f : Nat) (listed : Array Bool) (ρ : Nat → AV) (H : Heap), HeadInv .any full m listed →
      (∀ j oj, full[j]? = some oj → j ≠ i → listed.getD j true = false → (∀ e ∈ oj.after, Region.binds .any e = true → e.on ≠ i) → oi.apart full oj = true) →
      i ∈ Region.ready .any full listed → AZ P n H0 full oi v ρ →
      wAny P n H0 full m L f (listed.setIfInBounds i true) (aput n oi.dst v ρ) H → wAny P n H0 full m L (f + 1) listed ρ H := by
  intro f
  induction f with
  | zero =>
    intro listed ρ H inv _ hr hy HH
    have hun := (mem_ready.1 hr).1
    refine ⟨fun h => (by rw [h] at hr; cases hr), fun j hj => ?_⟩
    have hjn : j < m := by
      rcases Nat.lt_or_ge j m with h | h
      · exact h
      · exact absurd hj (hw listed inv i him hun j h)
    refine ⟨hjn, ?_⟩
    by_cases hji : j = i
    · subst hji; exact ⟨oi, hi, .inl ⟨v, hy, HH⟩⟩
    · have := hdone _ _ _ HH j (ready_mono hj hji)
      omega
  | succ f ih =>
    intro listed ρ H inv hfree hr hy HH
    have hun := (mem_ready.1 hr).1
    refine ⟨fun h => (by rw [h] at hr; cases hr), fun j hj => ?_⟩
    have hjn : j < m := by
      rcases Nat.lt_or_ge j m with h | h
      · exact h
      · exact absurd hj (hw listed inv i him hun j h)
    refine ⟨hjn, ?_⟩
    by_cases hji : j = i
    · subst hji; exact ⟨oi, hi, .inl ⟨v, hy, HH⟩⟩
    · have h1 := (HH.2 j (ready_mono hj hji)).2
      obtain ⟨hjun, oj, hoj, hall⟩ := mem_ready.1 hj
      have hnot : ∀ e ∈ oj.after, Region.binds .any e = true → e.on ≠ i := fun e he hb heq => by
        have h1 := hall e he hb
        rw [heq, getD_both hun] at h1
        cases h1
      have h2 := wSt_put hoj (hfree j oj hoj hji hjun hnot) hy h1
      have hfree' : ∀ k ok, full[k]? = some ok → k ≠ i → (listed.setIfInBounds j true).getD k true = false →
          (∀ e ∈ ok.after, Region.binds .any e = true → e.on ≠ i) → oi.apart full ok = true := fun k ok hk hki hun hno => by
        refine hfree k ok hk hki ?_ hno
        by_cases hjk : j = k
        · subst hjk; exact hjun
        · rw [getD_set_ne true hjk] at hun; exact hun
      refine wSt_mono (fun r H' h3 => ih (listed.setIfInBounds j true) r H' (inv.set hj hjn) hfree' (ready_mono hr (Ne.symm hji)) h3.1 ?_) h2
      rw [Array.setIfInBounds_comm _ _ hji]
      exact h3.2
theorem alloc_only {T : TypeId} {r : ASR} (h : aalloc P T = r) : (∃ cs T', r = .alloc cs T') ∨ r = .stuck := by
  unfold aalloc at h
  (repeat' split at h) <;> subst h
  · exact .inl ⟨_, _, rfl⟩
  · exact .inr rfl
  · exact .inr rfl
theorem AE_alloc {n : Nat} {full : Array Oper} {o : Oper} {T : TypeId} {K : (Nat → AV) → Heap → Prop} {ρ : Nat → AV} (hg : o.guard = none) (ho : o.op = .alloc T) :
    AE P n H0 full o K ρ H ↔ ∃ cs T', aalloc P T = .alloc cs T' ∧ ∀ b, H b = none → K (aput n o.dst (.sc (.pointer (some ⟨b, 0, none⟩))) ρ) (H.set b (.cells cs T')) := by
  unfold AE
  rw [hg, ho]
  have e : astepV P (.alloc T) (evA ρ) H = aalloc P T := rfl
  simp only [aguard, e, Bool.true_eq_false, false_and, true_and, false_or]
  rcases alloc_only (P := P) (T := T) rfl with ⟨cs, T', h⟩ | h
  · simp only [h]
    exact ⟨fun h' => ⟨cs, T', rfl, h'⟩, fun ⟨cs2, T2, e2, h'⟩ => by cases e2; exact h'⟩
  · simp only [h]
    exact ⟨fun h => h.elim, fun ⟨_, _, e2, _⟩ => by cases e2⟩
theorem Heap.set_comm' {b c : Nat} {o o' : AObj} (h : b ≠ c) : (H.set b o).set c o' = (H.set c o').set b o := by
  funext k
  unfold Heap.set
  by_cases hb : k = b <;> by_cases hc : k = c <;> simp [hb, hc, h, h.symm]
theorem AE_swap {n : Nat} {full : Array Oper} {ob oc : Oper} {K : (Nat → AV) → Heap → Prop} {ρ : Nat → AV} {d e : Nat} (hb : isAlloc ob.op = true) (hc : isAlloc oc.op = true) (hs : sameAlloc ob.op oc.op = true) (gb : ob.guard = none) (gc : oc.guard = none) (db : ob.dst = some d) (dc : oc.dst = some e) (hde : d ≠ e)
    (h : AE P n H0 full ob (fun r H' => AE P n H0 full oc K r H') ρ H) : AE P n H0 full oc (fun r H' => AE P n H0 full ob K r H') ρ H := by
  cases eb : ob.op <;> rw [eb] at hb <;> try cases hb
  rename_i Tb
  cases ec : oc.op <;> rw [ec] at hc <;> try cases hc
  rename_i Tc
  rw [AE_alloc gb eb] at h
  obtain ⟨cs, T', h1, h⟩ := h
  rw [AE_alloc gc ec]
  have hT : Tb = Tc := by rw [eb, ec] at hs; simpa [sameAlloc] using hs
  rcases alloc_only (P := P) (T := Tc) rfl with ⟨ds, T2, h2⟩ | h2
  · refine ⟨ds, T2, h2, fun y hy => ?_⟩
    rw [AE_alloc gb eb]
    refine ⟨cs, T', h1, fun x hx => ?_⟩
    have hxy : x ≠ y := by rintro rfl; simp [Heap.set] at hx
    have hx0 : H x = none := by simpa [Heap.set, hxy] using hx
    have h3 := h x hx0
    rw [AE_alloc gc ec] at h3
    obtain ⟨ds', T2', e2, h3⟩ := h3
    rw [h2] at e2
    cases e2
    have h4 := h3 y (by simpa [Heap.set, hxy.symm] using hy)
    rw [Heap.set_comm' hxy] at h4
    rw [db, dc] at *
    rw [aput_comm] at h4
    · exact h4
    · intro d1 h5 h6; cases h5; cases h6; exact hde rfl
  · rw [← hT, h1] at h2; cases h2
theorem wAny_tail {n m : Nat} {full : Array Oper} {R : (Nat → AV) → Heap → Prop} :
    ∀ (B : List Nat) (listed : Array Bool) (ρ : Nat → AV) (H : Heap), HeadInv .any full m listed → lexTail full m B listed = true →
    AB P n H0 full R (picks full B) ρ H →
    wAny P n H0 full m (fun listed' r H' => Region.seqB .any full (full.size - m) m listed' = true ∧ R r H') B.length listed ρ H
  | [], listed, ρ, H, _, hB, h => ⟨by simpa [lexTail] using hB, h⟩
  | [b], listed, ρ, H, inv, hB, h => by
    simp only [lexTail, Bool.and_eq_true, decide_eq_true_eq] at hB
    obtain ⟨⟨hr, hbm⟩, hB'⟩ := hB
    have hbr : b ∈ Region.ready .any full listed := by rw [hr]; simp
    obtain ⟨_, ob, hob, _⟩ := mem_ready.1 hbr
    have h2 : AB P n H0 full R (ob :: []) ρ H := by simpa [picks, hob] using h
    refine ⟨by rw [hr]; simp, fun i hi => ?_⟩
    rw [hr] at hi
    obtain rfl : i = b := by simpa using hi
    exact ⟨hbm, ob, hob, .inr (AE_mono (fun r H' h' => ⟨hB', h'⟩) h2)⟩
  | b :: c :: B, listed, ρ, H, inv, hB, h => by
    simp only [lexTail, Bool.or_eq_true, Bool.and_eq_true, decide_eq_true_eq] at hB
    rcases hB with ⟨⟨hr, hbm⟩, hB'⟩ | ⟨⟨⟨⟨⟨⟨⟨hr, hbm⟩, hcm⟩, hp⟩, hbc⟩, hrb⟩, hrc⟩, hB'⟩
    · have hbr : b ∈ Region.ready .any full listed := by rw [hr]; simp
      obtain ⟨_, ob, hob, _⟩ := mem_ready.1 hbr
      have h2 : AB P n H0 full R (ob :: picks full (c :: B)) ρ H := by
        have e : picks full (b :: c :: B) = ob :: picks full (c :: B) := by rw [picks, hob]
        rw [← e]; exact h
      refine ⟨by rw [hr]; simp, fun i hi => ?_⟩
      rw [hr] at hi
      obtain rfl : i = b := by simpa using hi
      exact ⟨hbm, ob, hob, .inr (AE_mono (fun r H' h' => wAny_tail (c :: B) _ r H' (inv.set hbr hbm) hB' h') h2)⟩
    · have hbr : b ∈ Region.ready .any full listed := by rw [hr]; simp
      have hcr : c ∈ Region.ready .any full listed := by rw [hr]; simp
      obtain ⟨_, ob, hob, _⟩ := mem_ready.1 hbr
      obtain ⟨_, oc, hoc, _⟩ := mem_ready.1 hcr
      have h2 : AE P n H0 full ob (fun r H' => AE P n H0 full oc (fun r H' => AB P n H0 full R (picks full B) r H') r H') ρ H := by
        have e : picks full (b :: c :: B) = ob :: oc :: picks full B := by rw [picks, hob]; simp only; rw [picks, hoc]
        rw [e] at h; exact h
      unfold pairB at hp
      rw [hob, hoc] at hp
      simp only [Bool.and_eq_true, Option.isNone_iff_eq_none] at hp
      obtain ⟨⟨⟨⟨⟨p1, p2⟩, p6⟩, p3⟩, p4⟩, p5⟩ := hp
      have h3 : AE P n H0 full oc (fun r H' => AE P n H0 full ob (fun r H' => AB P n H0 full R (picks full B) r H') r H') ρ H := by
        cases d1 : ob.dst with
        | none => rw [d1] at p5; cases p5
        | some d =>
          cases d2 : oc.dst with
          | none => rw [d1, d2] at p5; cases p5
          | some e => rw [d1, d2] at p5; exact AE_swap p1 p2 p6 p3 p4 d1 d2 (by simpa using p5) h2
      have hcr' : c ∈ Region.ready .any full (listed.setIfInBounds b true) := by rw [hrb]; simp
      have hbr' : b ∈ Region.ready .any full (listed.setIfInBounds c true) := by rw [hrc]; simp
      refine ⟨by rw [hr]; simp, fun i hi => ?_⟩
      rw [hr] at hi
      rcases List.mem_cons.1 hi with rfl | hi
      · refine ⟨hbm, ob, hob, .inr (AE_mono (fun r H' h' => ?_) h2)⟩
        refine ⟨by rw [hrb]; simp, fun j hj => ?_⟩
        rw [hrb] at hj
        obtain rfl : j = c := by simpa using hj
        exact ⟨hcm, oc, hoc, .inr (AE_mono (fun r H' h' => wAny_tail B _ r H' ((inv.set hbr hbm).set hcr' hcm) hB' h') h')⟩
      · obtain rfl : i = c := by simpa using hi
        refine ⟨hcm, oc, hoc, .inr (AE_mono (fun r H' h' => ?_) h3)⟩
        refine ⟨by rw [hrc]; simp, fun j hj => ?_⟩
        rw [hrc] at hj
        obtain rfl : j = b := by simpa using hj
        refine ⟨hbm, ob, hob, .inr (AE_mono (fun r H' h' => ?_) h')⟩
        rw [Array.setIfInBounds_comm _ _ hbc] at hB'
        exact wAny_tail B _ r H' ((inv.set hcr hcm).set hbr' hbm) hB' h'
theorem wAny_lex {n m : Nat} {full : Array Oper} {R : (Nat → AV) → Heap → Prop} {B : List Nat} (hw : Waits full m) :
    ∀ (A : List Nat) (listed : Array Bool) (ρ : Nat → AV) (H : Heap), HeadInv .any full m listed → lexTo2 full m B A listed = true →
    AQ2 P n H0 full (fun r => AB P n H0 full R (picks full B) r H) (picks full A) ρ →
    wAny P n H0 full m (fun listed' r H' => Region.seqB .any full (full.size - m) m listed' = true ∧ R r H') (A.length + B.length) listed ρ H
  | [], listed, ρ, H, inv, hB, h => by
    rw [List.length_nil, Nat.zero_add]
    exact wAny_tail B listed ρ H inv (by simpa [lexTo2] using hB) (by simpa [picks, AQ2] using h)
  | i :: A, listed, ρ, H, inv, hB, h => by
    simp only [lexTo2, Bool.and_eq_true, decide_eq_true_eq] at hB
    obtain ⟨⟨⟨hr, hf⟩, him⟩, hB'⟩ := hB
    have hr' : i ∈ Region.ready .any full listed := by simpa using hr
    obtain ⟨_, oi, hoi, _⟩ := mem_ready.1 hr'
    have h : AQ2 P n H0 full (fun r => AB P n H0 full R (picks full B) r H) (oi :: picks full A) ρ := by simpa [picks, hoi] using h
    obtain ⟨v, hy, hK⟩ := h
    have hlen : (i :: A).length + B.length = (A.length + B.length) + 1 := by simp; omega
    rw [hlen]
    exact wAny_first hoi hw him (fun listed' r H' hL => seqB_ready hL.1) _ listed ρ H inv (Region.free_spec hoi hf) hr' hy (wAny_lex hw A _ _ H (inv.set hr' him) hB' hK)
theorem HC.set_new {H : Heap} {g : Nat} {o : AObj} (hc : HC H0 H) (h : H g = none) : HC H0 (H.set g o) := hc.trans (.new h)
theorem HC.set_own {H : Heap} {g g' n cap sz n' cap' : Nat} {T : TypeId} (hc : HC H0 H) (h : H g = some (.open n cap sz T)) (h' : (H.del g) g' = none) : HC H0 ((H.del g).set g' (.open n' cap' sz T)) := hc.trans (.own h h')
theorem ae_run {n : Nat} {ρ : Nat → AV} {a : Act} {o : Oper} {full : Array Oper} {i : Nat} {K : (Nat → AV) → Heap → Prop} (hi : Inv W0 C H w) (hf : RelF dds C n ρ a) (hc : HC H0 H) (hy : AE P n H0 full o K ρ H) (ho : full[i]? = some o)
    (b : Frame) (k : List Item) (cs : List Frame) (rest : List Nat) :
    ∃ ρ' H' a' w' C', K ρ' H' ∧ HC H0 H' ∧ Steps P (lone (b.atR a (.inRegion full (i :: rest) :: k)) cs w) (lone (b.atR a' (.inRegion full rest :: k)) cs w') ∧ RelF dds C' n ρ' a' ∧ CLe C C' ∧ Inv W0 C' H' w' := by
  have hg := guard_spec hf full o
  rcases hy with ⟨hgf, hK⟩ | ⟨hgt, hE⟩
  · rw [hgf] at hg
    exact ⟨_, _, _, w, C, hK, hc, .one (step_unwanted ho hg), hf.put _ (Rel.sc _), CLe.refl C, hi⟩
  · rw [hgt] at hg
    cases hv : astepV P o.op (evA ρ) H with
    | val v =>
      simp only [hv] at hE
      obtain ⟨u, w', C', hr, hrel, hC, hI⟩ := exec_val hi hf hv
      exact ⟨_, _, _, w', C', hE, hc, .one (step_value ho hg hr), (hf.mono hC).put _ hrel, hC, hI⟩
    | alloc cs' T =>
      simp only [hv] at hE
      obtain ⟨bk, w', hrun, hfresh, hI⟩ := exec_alloc (P := P) hi hf hv
      exact ⟨_, _, _, w', C, hE bk hfresh, hc.set_new hfresh, .one (step_value ho hg hrun), hf.put _ (Rel.sc _), CLe.refl C, hI⟩
    | store b' off ds =>
      simp only [hv] at hE
      obtain ⟨cs1, T1, hH, h2, hK⟩ := hE
      obtain ⟨cs', T', w', hH', hrun, hI⟩ := exec_store (P := P) hi hf hv
      rw [hH] at hH'
      cases hH'
      exact ⟨_, _, _, w', C, hK, h2, .one (step_skip_op ho hg hrun), hf.put _ (Rel.sc _), CLe.refl C, hI⟩
    | call f args =>
      simp only [hv] at hE
      obtain ⟨R, hcall, hK⟩ := hE
      obtain ⟨r, H', C', u, w'', hR, hC, hrel, hI, hs⟩ := steps_call (b := b) (k := k) (cs := cs) (rest := rest) hi hf hv hcall ho hg
      exact ⟨_, _, _, w'', C', (hK r H' hR).2, (hK r H' hR).1, hs, (hf.mono hC).put _ hrel, hC, hI⟩
    | app T e xs t ys =>
      simp only [hv] at hE
      obtain ⟨sz, by_, he, hx, hys, hb, hm, hE⟩ := hE
      obtain ⟨ty, u, z, t', hrun, hu, hz⟩ := exec_app (P := P) hf hv
      rcases hE with ⟨ht, hy0, hK⟩ | ⟨ht, h0, hK⟩ | ⟨g, cap, rfl, hH, hK⟩
      · subst hy0
        obtain ⟨q, w', C', h1, h2, h3, h4⟩ := s_app_any (r := .sl xs t) (ty := ty) he hi hu hz (.inr ⟨rfl, rfl⟩) (.inl ht) hx hys hb hm
        have hrun' := hrun w
        rw [h1, Result.andThen_ok] at hrun'
        exact ⟨_, _, _, w', C', hK, hc, .one (step_value ho hg hrun'), (hf.mono h3).put _ h2, h3, h4⟩
      · obtain ⟨v', w', C', g, cap, h1, h2, h3, h4, h5⟩ := s_app_new (ty := ty) he hi hu hz ht hx hys h0 hb hm
        have hrun' := hrun w
        rw [h1, Result.andThen_ok] at hrun'
        exact ⟨_, _, _, w', C', hK g cap h2, hc.set_new h2, .one (step_value ho hg hrun'), (hf.mono h3).put _ h4, h3, h5⟩
      · obtain ⟨v', w', C', g', cap', h1, h2, h3, h4, h5⟩ := s_app_own (ty := ty) he hi hu hz hH hx hys hb hm
        have hrun' := hrun w
        rw [h1, Result.andThen_ok] at hrun'
        exact ⟨_, _, _, w', C', hK g' cap' h2, hc.set_own hH h2, .one (step_value ho hg hrun'), (hf.mono h3).put _ h4, h3, h5⟩
    | stuck => simp only [hv] at hE
    | lits e sz xs => simp only [hv] at hE
    | freeze g v => simp only [hv] at hE
    | unarr b v => simp only [hv] at hE
theorem wany_run {n m g : Nat} {full : Array Oper} {L : Array Bool → (Nat → AV) → Heap → Prop} (b : Frame) (k : List Item) (cs : List Frame) :
    ∀ (f t : Nat) (listed : Array Bool) (ρ : Nat → AV) (H : Heap) (a : Act) (C : Com) (w : World), Inv W0 C H w → RelF dds C n ρ a → HC H0 H → wAny P n H0 full m L f listed ρ H →
      ∃ t' listed' ρ' H' a' w' C', Steps P (lone (b.atR a (.inRegion full (Region.linearise.go .any full (f + g) t listed []) :: k)) cs w) (lone (b.atR a' (.inRegion full (Region.linearise.go .any full g t' listed' []) :: k)) cs w') ∧
        L listed' ρ' H' ∧ RelF dds C' n ρ' a' ∧ CLe C C' ∧ Inv W0 C' H' w' := by
  intro f
  induction f with
  | zero =>
    intro t listed ρ H a C w hi hf hc0 h
    rw [Nat.zero_add]
    exact ⟨t, listed, ρ, H, a, w, C, .refl _ _, h, hf, CLe.refl C, hi⟩
  | succ f ih =>
    intro t listed ρ H a C w hi hf hc0 h
    obtain ⟨hne, hall⟩ := h
    rw [show f + 1 + g = (f + g) + 1 by omega]
    simp only [Region.linearise.go]
    change ∃ t' listed' ρ' H' a' w' C', Steps P (lone (b.atR a (.inRegion full (match (Region.ready .any full listed)[t % (Region.ready .any full listed).length]? with
      | some i => Region.linearise.go .any full (f + g) (t / (Region.ready .any full listed).length) (listed.setIfInBounds i true) [i]
      | none => [].reverse) :: k)) cs w) _ ∧ _
    cases hx : (Region.ready .any full listed)[t % (Region.ready .any full listed).length]? with
    | none =>
      exfalso
      have hpos : 0 < (Region.ready .any full listed).length := List.length_pos_iff.2 hne
      have := Nat.mod_lt t hpos
      rw [List.getElem?_eq_none_iff] at hx
      omega
    | some i =>
      simp only []
      rw [linearise_go_acc, List.reverse_singleton, List.singleton_append]
      obtain ⟨him, o, ho, hst⟩ := hall i (List.mem_of_getElem? hx)
      have hone : ∃ ρ1 H1 a1 w1 C1, wAny P n H0 full m L f (listed.setIfInBounds i true) ρ1 H1 ∧ HC H0 H1 ∧ Steps P (lone (b.atR a (.inRegion full (i :: Region.linearise.go .any full (f + g) (t / (Region.ready .any full listed).length) (listed.setIfInBounds i true) []) :: k)) cs w)
          (lone (b.atR a1 (.inRegion full (Region.linearise.go .any full (f + g) (t / (Region.ready .any full listed).length) (listed.setIfInBounds i true) []) :: k)) cs w1) ∧ RelF dds C1 n ρ1 a1 ∧ CLe C C1 ∧ Inv W0 C1 H1 w1 := by
        rcases hst with ⟨v, hy, hK⟩ | hE
        · obtain ⟨a1, w1, C1, hs1, hf1, hC1, hi1⟩ := ay_run hi hf (hy H hc0) ho b k cs (Region.linearise.go .any full (f + g) (t / (Region.ready .any full listed).length) (listed.setIfInBounds i true) [])
          exact ⟨_, _, a1, w1, C1, hK, hc0, hs1, hf1, hC1, hi1⟩
        · exact ae_run hi hf hc0 hE ho b k cs _
      obtain ⟨ρ1, H1, a1, w1, C1, hK, hc1, hs1, hf1, hC1, hi1⟩ := hone
      obtain ⟨t', listed', ρ', H', a', w', C', hs, hL, hf', hC', hi'⟩ := ih (t / (Region.ready .any full listed).length) _ _ _ a1 C1 w1 hi1 hf1 hc1 hK
      exact ⟨t', listed', ρ', H', a', w', C', hs1.trans hs, hL, hf', hC1.trans hC', hi'⟩
theorem draw_run2 {n m : Nat} {full : Array Oper} {id : Nat} {ρ : Nat → AV} {a : Act} {A B : List Nat} {R : (Nat → AV) → Heap → Prop} (hmix : P.follows .mixedOrders = true) (hd : drawB2 full m A B = true) (hc : HC H0 H)
    (hq : AQ2 P n H0 full (fun r => AB P n H0 full R (picks full B) r H) (picks full A) ρ) (hi : Inv W0 C H w) (hf : RelF dds C n ρ a) (b : Frame) (k : List Item) (cs : List Frame) :
    ∃ ρ' H' a' w' C', R ρ' H' ∧ Steps P (lone (b.atR a (.code (.region id full true) :: k)) cs w) (lone (b.atR a' (.inRegion full (List.range' m (full.size - m)) :: k)) cs w') ∧ RelF dds C' n ρ' a' ∧ CLe C C' ∧ Inv W0 C' H' w' := by
  unfold drawB2 at hd
  simp only [Bool.and_eq_true, Bool.or_eq_true, decide_eq_true_eq] at hd
  obtain ⟨⟨⟨_, hm⟩, hlen⟩, hlex⟩ := hd
  have hwt : Waits full m := by
    intro listed inv i him hun t ht
    rcases hm with h | ⟨⟨h1, h2⟩, h3⟩
    · intro hr
      obtain ⟨_, o, ho, _⟩ := mem_ready.1 hr
      have := (Array.getElem?_eq_some_iff.1 ho).1
      omega
    · exact tail_waits h2 h3 h1 inv _ i rfl him hun t ht
  have hmle : m ≤ full.size := by
    rcases hm with h | ⟨⟨h, _⟩, _⟩ <;> omega
  have inv0 : HeadInv .any full m (Array.replicate full.size false) :=
    ⟨by simp, fun j oj _ hl => (by rw [getD_replicate_false] at hl; cases hl), fun t _ ht => getD_in (by simpa using ht) (getD_replicate_false _ _)⟩
  have HA := wAny_lex (P := P) (n := n) (H0 := H0) (R := R) hwt A (Array.replicate full.size false) ρ H inv0 hlex hq
  rw [hlen] at HA
  have hdr : Steps P (lone (b.atR a (.code (.region id full true) :: k)) cs w) (lone (b.atR a (.inRegion full (Region.linearise.go .any full (m + (full.size - m)) (w.tape w.drawn (.order b.fn id)) (Array.replicate full.size false) []) :: k)) cs w.drew) := by
    have := stepR_region_draw (P := P) (b := b) (a := a) (k := k) (cs := cs) (w := w) (ops := full) (id := id)
    rw [show m + (full.size - m) = full.size by omega]
    simp only [Region.schedule, hmix, Bool.true_or, if_true] at this
    exact .one this
  obtain ⟨t', listed', ρ'', H'', a', w', C', hs, ⟨hseq, hR⟩, hf', hC', hi'⟩ := wany_run (g := full.size - m) b k cs m (w.tape w.drawn (.order b.fn id)) _ ρ H a C w.drew hi.draw hf hc HA
  rw [lin_seq _ _ _ _ hseq] at hs
  exact ⟨ρ'', H'', a', w', C', hR, hdr.trans hs, hf', hC', hi'⟩
theorem waits_all (full : Array Oper) : Waits full full.size := by
  intro listed inv i him hun t ht hr
  obtain ⟨_, o, ho, _⟩ := mem_ready.1 hr
  have := (Array.getElem?_eq_some_iff.1 ho).1
  omega
theorem wAny_lex3 {n : Nat} {full : Array Oper} {R : (Nat → AV) → Heap → Prop} {lst : Array Bool} {f : Nat} :
    ∀ (A : List Nat) (listed : Array Bool) (ρ : Nat → AV) (H : Heap), HeadInv .any full full.size listed → lexA full A listed = some lst →
    AQ2 P n H0 full (fun r => wAny P n H0 full full.size (fun l ρ' H' => Region.ready .any full l = [] ∧ R ρ' H') f lst r H) (picks full A) ρ →
    wAny P n H0 full full.size (fun l ρ' H' => Region.ready .any full l = [] ∧ R ρ' H') (A.length + f) listed ρ H
  | [], listed, ρ, H, inv, hB, h => by
    simp only [lexA, Option.some.injEq] at hB
    subst hB
    rw [List.length_nil, Nat.zero_add]
    simpa [picks, AQ2] using h
  | i :: A, listed, ρ, H, inv, hB, h => by
    unfold lexA at hB
    split at hB
    · rename_i hc
      simp only [Bool.and_eq_true, decide_eq_true_eq] at hc
      obtain ⟨⟨hr, hf⟩, him⟩ := hc
      have hr' : i ∈ Region.ready .any full listed := by simpa using hr
      obtain ⟨_, oi, hoi, _⟩ := mem_ready.1 hr'
      have h : AQ2 P n H0 full (fun r => wAny P n H0 full full.size (fun l ρ' H' => Region.ready .any full l = [] ∧ R ρ' H') f lst r H) (oi :: picks full A) ρ := by simpa [picks, hoi] using h
      obtain ⟨v, hy, hK⟩ := h
      have hlen : (i :: A).length + f = (A.length + f) + 1 := by simp; omega
      rw [hlen]
      exact wAny_first hoi (waits_all full) him (fun listed' r H' hL j hj => by rw [hL.1] at hj; cases hj) _ listed ρ H inv (Region.free_spec hoi hf) hr' hy (wAny_lex3 A _ _ H (inv.set hr' him) hB hK)
    · cases hB
theorem draw_run3 {n : Nat} {full : Array Oper} {id : Nat} {ρ : Nat → AV} {a : Act} {A : List Nat} {lst : Array Bool} {R : (Nat → AV) → Heap → Prop} (hmix : P.follows .mixedOrders = true) (hA : lexA full A (Array.replicate full.size false) = some lst) (hlen : A.length ≤ full.size) (hc : HC H0 H)
    (hq : AQ2 P n H0 full (fun r => wAny P n H0 full full.size (fun l ρ' H' => Region.ready .any full l = [] ∧ R ρ' H') (full.size - A.length) lst r H) (picks full A) ρ) (hi : Inv W0 C H w) (hf : RelF dds C n ρ a) (b : Frame) (k : List Item) (cs : List Frame) :
    ∃ ρ' H' a' w' C', R ρ' H' ∧ Steps P (lone (b.atR a (.code (.region id full true) :: k)) cs w) (lone (b.atR a' k) cs w') ∧ RelF dds C' n ρ' a' ∧ CLe C C' ∧ Inv W0 C' H' w' := by
  have inv0 : HeadInv .any full full.size (Array.replicate full.size false) :=
    ⟨by simp, fun j oj _ hl => (by rw [getD_replicate_false] at hl; cases hl), fun t _ ht => getD_in (by simpa using ht) (getD_replicate_false _ _)⟩
  have HA := wAny_lex3 (P := P) (n := n) (H0 := H0) (R := R) A (Array.replicate full.size false) ρ H inv0 hA hq
  rw [show A.length + (full.size - A.length) = full.size by omega] at HA
  have hdr : Steps P (lone (b.atR a (.code (.region id full true) :: k)) cs w) (lone (b.atR a (.inRegion full (Region.linearise.go .any full (full.size + 0) (w.tape w.drawn (.order b.fn id)) (Array.replicate full.size false) []) :: k)) cs w.drew) := by
    have := stepR_region_draw (P := P) (b := b) (a := a) (k := k) (cs := cs) (w := w) (ops := full) (id := id)
    simp only [Region.schedule, hmix, Bool.true_or, if_true] at this
    exact .one this
  obtain ⟨t', listed', ρ'', H'', a', w', C', hs, ⟨_, hR⟩, hf', hC', hi'⟩ := wany_run (g := 0) b k cs full.size (w.tape w.drawn (.order b.fn id)) _ ρ H a C w.drew hi.draw hf hc HA
  exact ⟨ρ'', H'', a', w', C', hR, hdr.trans (hs.trans (.one stepR_region_end)), hf', hC', hi'⟩
end Rg
