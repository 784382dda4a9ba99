/- What a run hands back may be told weaker; loops by a measure; calls by contracts. From a call's arguments, as they are read, to abstract values. Pieces of a run: what a piece does is said once, for all that follows it. The kit's contracts of Go's library, as contracts on abstract values; package variables. From a law whose row lists package variables to its run: they stand in the heap as what is only read. -/
import Derived.Test.YtlhgpodfhdddkaaGreatDoorP07
import Derived.ProofKit
import Derived.OpenShut
import Derived.Deep.Draws
import Derived.Lib.Strings
import Derived.Handed
import Derived.HandedShaped
import Derived.LaidLaws
set_option linter.unusedSimpArgs false
set_option linter.unusedVariables false
set_option linter.unnecessarySimpa false
namespace Rg
open Go Go.RowKit
mutual
def wk : AV → AV → Prop
  | .sc a, .sc b => a = b
  | .sl xs t, .sl ys t' => (t' = .no ∧ wkL xs ys) ∨ (t' = t ∧ xs = ys)
  | .agg as, .agg bs => wkL as bs
  | .tup as, .tup bs => wkL as bs
  | .ip cs o, .ip ds o' => wkL cs ds ∧ o = o'
  | _, _ => False
def wkL : List AV → List AV → Prop
  | [], [] => True
  | a :: as, b :: bs => wk a b ∧ wkL as bs
  | _, _ => False
end
theorem wkL_length : ∀ {as bs : List AV}, wkL as bs → as.length = bs.length
  | [], [], _ => rfl
  | a :: as, b :: bs, h => by simp only [wkL] at h; simp [wkL_length h.2]
  | [], _ :: _, h => by simp [wkL] at h
  | _ :: _, [], h => by simp [wkL] at h
theorem wkL_append : ∀ {as bs cs ds : List AV}, wkL as bs → wkL cs ds → wkL (as ++ cs) (bs ++ ds)
  | [], [], _, _, _, h => h
  | a :: as, b :: bs, _, _, h, k => by simp only [wkL, List.cons_append] at *; exact ⟨h.1, wkL_append h.2 k⟩
  | [], _ :: _, _, _, h, _ => by simp [wkL] at h
  | _ :: _, [], _, _, h, _ => by simp [wkL] at h
theorem wk_cells {a b : AV} (h : wk a b) : wkL a.cells b.cells := by
  cases a <;> cases b <;> simp only [wk] at h <;> simp only [AV.cells, wkL, wk] <;> first | exact h | exact ⟨h, trivial⟩
theorem wkL_flat : ∀ {as bs : List AV}, wkL as bs → wkL (as.flatMap AV.cells) (bs.flatMap AV.cells)
  | [], [], _ => by simp [wkL]
  | a :: as, b :: bs, h => by
    simp only [wkL] at h
    simp only [List.flatMap_cons]
    exact wkL_append (wk_cells h.1) (wkL_flat h.2)
  | [], _ :: _, h => by simp [wkL] at h
  | _ :: _, [], h => by simp [wkL] at h
theorem wkL_size {sz : Nat} : ∀ {as bs : List AV}, wkL as bs → (∀ x ∈ as, x.cells.length = sz) → ∀ x ∈ bs, x.cells.length = sz
  | [], [], _, _ => by simp
  | a :: as, b :: bs, h, hs => by
    simp only [wkL] at h
    intro x hx
    rcases List.mem_cons.1 hx with rfl | hx
    · rw [← wkL_length (wk_cells h.1)]; exact hs a (by simp)
    · exact wkL_size h.2 (fun y hy => hs y (by simp [hy])) x hx
  | [], _ :: _, h, _ => by simp [wkL] at h
  | _ :: _, [], h, _ => by simp [wkL] at h
theorem wkL_rel {C : Com} {as : List AV} {vs : List Value} (h : RelL C as vs) : ∀ bs, wkL as bs → RelL C bs vs := by
  induction h with
  | nil => intro bs hb; cases bs with | nil => exact .nil | cons b bs => simp [wkL] at hb
  | sc x _ ih =>
    intro bs hb
    cases bs with
    | nil => simp [wkL] at hb
    | cons b bs => cases b <;> simp [wkL, wk] at hb; obtain ⟨rfl, hb⟩ := hb; exact .sc _ (ih _ hb)
  | agg _ h1 _ ih1 ih2 =>
    intro bs hb
    cases bs with
    | nil => simp [wkL] at hb
    | cons b bs => cases b <;> simp [wkL, wk] at hb; exact .agg (ih1 _ hb.1) h1 (ih2 _ hb.2)
  | tup _ _ ih1 ih2 =>
    intro bs hb
    cases bs with
    | nil => simp [wkL] at hb
    | cons b bs => cases b <;> simp [wkL, wk] at hb; exact .tup (ih1 _ hb.1) (ih2 _ hb.2)
  | ip b k o _ h1 h2 _ ih1 ih2 =>
    intro bs hb
    cases bs with
    | nil => simp [wkL] at hb
    | cons b' bs => cases b' <;> simp [wkL, wk] at hb; obtain ⟨⟨h3, rfl⟩, h4⟩ := hb; exact .ip b k o (ih1 _ h3) h1 h2 (ih2 _ h4)
  | nils t ht _ ih =>
    intro bs hb
    cases bs with
    | nil => simp [wkL] at hb
    | cons b bs =>
      cases b <;> simp [wkL, wk] at hb
      rename_i ys t'
      obtain ⟨h1, h2⟩ := hb
      rcases h1 with ⟨rfl, h1⟩ | ⟨rfl, rfl⟩
      · cases ys with
        | nil => exact .nils _ rfl (ih _ h2)
        | cons y ys => simp [wkL] at h1
      · exact .nils _ ht (ih _ h2)
  | emp t a cap ht hm _ ih =>
    intro bs hb
    cases bs with
    | nil => simp [wkL] at hb
    | cons b bs =>
      cases b <;> simp [wkL, wk] at hb
      rename_i ys t'
      obtain ⟨h1, h2⟩ := hb
      rcases h1 with ⟨rfl, h1⟩ | ⟨rfl, rfl⟩
      · cases ys with
        | nil => exact .emp _ a cap (.inl rfl) hm (ih _ h2)
        | cons y ys => simp [wkL] at h1
      · exact .emp _ a cap ht hm (ih _ h2)
  | sl t b o cap sz h0 h1 h2 h3 h4 h5 h6 _ ih1 ih2 =>
    intro bs hb
    cases bs with
    | nil => simp [wkL] at hb
    | cons b' bs =>
      cases b' <;> simp [wkL, wk] at hb
      rename_i ys t'
      obtain ⟨hh, hr⟩ := hb
      rcases hh with ⟨rfl, hh⟩ | ⟨rfl, rfl⟩
      · have hl := wkL_length hh
        rw [hl] at h4 ⊢
        exact .sl _ b o cap sz (ih1 _ (wkL_flat hh)) (wkL_size hh h1) h2 h3 h4 h5 trivial (ih2 _ hr)
      · exact .sl _ b o cap sz h0 h1 h2 h3 h4 h5 h6 (ih2 _ hr)
theorem wk_refl (a : AV) : wk a a :=
  AV.rec (motive_1 := fun a => wk a a) (motive_2 := fun l => wkL l l) (fun _ => by simp [wk]) (fun _ _ _ => by simp [wk]) (fun _ h => by simpa [wk] using h) (fun _ h => by simpa [wk] using h) (fun _ _ h => by simpa [wk] using h)
    (by simp [wkL]) (fun _ _ h1 h2 => by simp only [wkL]; exact ⟨h1, h2⟩) a
theorem wkL_refl : ∀ l : List AV, wkL l l
  | [] => by simp [wkL]
  | a :: l => by simp only [wkL]; exact ⟨wk_refl a, wkL_refl l⟩
@[simp] theorem wk_same (a : AV) : wk a a = True := eq_true (wk_refl a)
@[simp] theorem wkL_same (a : List AV) : wkL a a = True := eq_true (wkL_refl a)
@[simp] theorem wk_sc {a b : Value} : wk (.sc a) (.sc b) = (a = b) := by simp [wk]
@[simp] theorem wk_no {xs ys : List AV} {t : Tok} : wk (.sl xs t) (.sl ys .no) = wkL xs ys := by
  simp only [wk, true_and, eq_iff_iff]
  exact ⟨fun h => h.elim id (fun h => h.2 ▸ wkL_refl _), .inl⟩
@[simp] theorem wk_agg {as bs : List AV} : wk (.agg as) (.agg bs) = wkL as bs := by simp [wk]
@[simp] theorem wk_tup {as bs : List AV} : wk (.tup as) (.tup bs) = wkL as bs := by simp [wk]
@[simp] theorem wk_ip {as bs : List AV} {o o' : Nat} : wk (.ip as o) (.ip bs o') = (wkL as bs ∧ o = o') := by simp [wk]
@[simp] theorem wkL_nil : wkL [] [] = True := by simp [wkL]
@[simp] theorem wkL_cons {a b : AV} {as bs : List AV} : wkL (a :: as) (b :: bs) = (wk a b ∧ wkL as bs) := by simp [wkL]
theorem wk_rel {C : Com} {a b : AV} {v : Value} (hw : wk a b) (h : Rel C a v) : Rel C b v := wkL_rel h [b] (by simp [hw])
variable {P : Program} {n : Nat} {Q : Post} {ρ : Nat → AV} {H : Heap} {k : List AItem} {f : FuncId} {args : List AV} {R : AV → Heap → Prop}
def obW : AObj → AObj → Prop
  | .cells cs T, .cells ds T' => wkL cs ds ∧ T = T'
  | .open n cap sz T, .open n' cap' sz' T' => n = n' ∧ cap = cap' ∧ sz = sz' ∧ T = T'
  | .ro us, .ro vs => us = vs
  | .dfr, .dfr => True
  | .lrec r, .lrec s => r = s
  | .map es ck, .map es' ck' => wkL (es.map fun e => e.1) (es'.map fun e => e.1) ∧ wkL (es.map fun e => e.2.1) (es'.map fun e => e.2.1) ∧ (es.map fun e => e.2.2) = (es'.map fun e => e.2.2) ∧ ck = ck'
  | .iter m a b c, .iter m' a' b' c' => m = m' ∧ a = a' ∧ b = b' ∧ c = c'
  | _, _ => False
theorem obW_refl (o : AObj) : obW o o := by cases o <;> simp only [obW, wkL_same, and_self]
def HWk (K H : Heap) : Prop := ∀ b ob, K b = some ob → ∃ ob', H b = some ob' ∧ obW ob' ob
theorem HLe.wk {K H : Heap} (h : HLe K H) : HWk K H := fun b ob e => ⟨ob, h b ob e, obW_refl ob⟩
theorem HWk.refl (H : Heap) : HWk H H := (HLe.refl H).wk
@[simp] theorem HWk_same {H : Heap} : HWk H H = True := eq_true (HWk.refl H)
theorem obW_trans {a b c : AObj} (h : obW a b) (k : obW b c) : obW a c := by
  have tr : ∀ {x y z : List AV}, wkL x y → wkL y z → wkL x z := by
    intro x y z
    have key : (∀ a : AV, ∀ b c, wk a b → wk b c → wk a c) := fun a =>
      AV.rec (motive_1 := fun a => ∀ b c, wk a b → wk b c → wk a c) (motive_2 := fun l => ∀ m n, wkL l m → wkL m n → wkL l n)
        (fun v b c h k => by cases b <;> simp [wk] at h; subst h; exact k)
        (fun xs t ih b c h k => by
          cases b with
          | sl ys t' =>
            cases c with
            | sl zs t'' =>
              simp only [wk] at h k ⊢
              rcases k with ⟨rfl, k⟩ | ⟨rfl, rfl⟩
              · rcases h with ⟨rfl, h⟩ | ⟨rfl, rfl⟩
                · exact .inl ⟨rfl, ih _ _ h k⟩
                · exact .inl ⟨rfl, k⟩
              · rcases h with ⟨rfl, h⟩ | ⟨rfl, rfl⟩
                · exact .inl ⟨rfl, h⟩
                · exact .inr ⟨rfl, rfl⟩
            | _ => simp [wk] at k
          | _ => simp [wk] at h)
        (fun cs ih b c h k => by cases b <;> simp [wk] at h; cases c <;> simp [wk] at k; simpa using ih _ _ h k)
        (fun cs ih b c h k => by cases b <;> simp [wk] at h; cases c <;> simp [wk] at k; simpa using ih _ _ h k)
        (fun cs o ih b c h k => by cases b <;> simp [wk] at h; cases c <;> simp [wk] at k; simpa using ⟨ih _ _ h.1 k.1, h.2.trans k.2⟩)
        (fun m n h k => by cases m <;> simp [wkL] at h; exact k)
        (fun a l iha ihl m n h k => by
          cases m <;> simp [wkL] at h
          cases n <;> simp [wkL] at k
          simpa using ⟨iha _ _ h.1 k.1, ihl _ _ h.2 k.2⟩) a
    induction x generalizing y z with
    | nil => intro h k; cases y <;> simp [wkL] at h; exact k
    | cons a x ih =>
      intro h k
      cases y <;> simp [wkL] at h
      cases z <;> simp [wkL] at k
      simpa using ⟨key _ _ _ h.1 k.1, ih h.2 k.2⟩
  cases a <;> cases b <;> simp only [obW] at h <;> cases c <;> simp only [obW] at k <;> simp only [obW]
  · exact ⟨tr h.1 k.1, h.2.trans k.2⟩
  · exact ⟨h.1.trans k.1, h.2.1.trans k.2.1, h.2.2.1.trans k.2.2.1, h.2.2.2.trans k.2.2.2⟩
  · exact h.trans k
  · exact h.trans k
  · exact ⟨tr h.1 k.1, tr h.2.1 k.2.1, h.2.2.1.trans k.2.2.1, h.2.2.2.trans k.2.2.2⟩
  · exact ⟨h.1.trans k.1, h.2.1.trans k.2.1, h.2.2.1.trans k.2.2.1, h.2.2.2.trans k.2.2.2⟩
theorem HWk.trans {A B D : Heap} (h : HWk A B) (k : HWk B D) : HWk A D := fun b ob e => by
  obtain ⟨o1, h1, h2⟩ := h b ob e
  obtain ⟨o2, k1, k2⟩ := k b o1 h1
  exact ⟨o2, k1, obW_trans k2 h2⟩
theorem HWk.new {K H : Heap} {b : Nat} {o : AObj} (hb : K b = none) (h : HWk K H) : HWk K (H.set b o) := fun c ob e => by
  have hc : c ≠ b := by rintro rfl; rw [hb] at e; cases e
  simpa [hc] using h c ob e
theorem HWk.at_ {K H : Heap} {b : Nat} {cs ds : List AV} {T : TypeId} (hb : H b = some (.cells cs T)) (hw : wkL cs ds) (h : HWk K H) : HWk (K.set b (.cells ds T)) H := fun c ob e => by
  by_cases hc : c = b
  · subst hc; simp at e; subst e; exact ⟨_, hb, by simp [obW, hw]⟩
  · simp [hc] at e; exact h c ob e
theorem HWk.none {K H : Heap} (h : HWk K H) {b : Nat} (hb : H b = none) : K b = none := by
  cases ha : K b with
  | none => rfl
  | some o => obtain ⟨_, h1, _⟩ := h b o ha; rw [hb] at h1; cases h1
theorem ObjOk.wk {C : Com} {w : World} {b : Nat} {o o' : AObj} (h : ObjOk C w b o) (hw : obW o o') : ObjOk C w b o' := by
  cases o <;> cases o' <;> simp only [obW] at hw
  · obtain ⟨hw, rfl⟩ := hw
    obtain ⟨vs, h1, h2, h3, h4⟩ := h
    exact ⟨vs, h1, wkL_rel h2 _ hw, h3, h4⟩
  · obtain ⟨rfl, rfl, rfl, rfl⟩ := hw
    exact h
  · subst hw; exact h
  · exact h
  · subst hw; exact h
  · obtain ⟨w1, w2, w3, rfl⟩ := hw
    obtain ⟨ens, h1, ⟨r1, r2, r3⟩, h3⟩ := h
    exact ⟨ens, h1, ⟨wkL_rel r1 _ w1, wkL_rel r2 _ w2, w3 ▸ r3⟩, h3⟩
  · obtain ⟨rfl, rfl, rfl, rfl⟩ := hw
    exact h
theorem base_wk {W0 : World} {b : Nat} {o o' : AObj} (h : o.base W0 b) (hw : obW o o') : o'.base W0 b := by
  cases o <;> cases o' <;> simp only [obW] at hw <;> first | exact h | (subst hw; exact h) | trivial
theorem Inv.wk {W0 w : World} {C : Com} {K H : Heap} (h : Inv W0 C H w) (hw : HWk K H) : Inv W0 C K w :=
  ⟨h.below, h.com, fun b ob e => by
    obtain ⟨o', h1, h2⟩ := hw b ob e
    exact ⟨base_wk (h.obj b o' h1).1 h2, (h.obj b o' h1).2.wk h2⟩⟩
def Wkn (R : AV → Heap → Prop) (r : AV) (K : Heap) : Prop := ∃ r' K0, wk r r' ∧ HWk K0 K ∧ R r' K0
theorem ACalls.weaken (h : ACalls P f args H (Wkn R)) : ACalls P f args H R :=
  fun W0 C w vs hi ha => (h W0 C w vs hi ha).mono fun _ _ ⟨_, _, C', v, h1, ⟨r', K0, h2, h3, h4⟩, h5, h6, h7⟩ => ⟨r', K0, C', v, h1, h4, h5, wk_rel h2 h6, h7.wk h3⟩
theorem ACalls.argsW {args' : List AV} {H' : Heap} (h : ACalls P f args' H' R) (hw : wkL args args') (hl : HWk H' H) : ACalls P f args H R :=
  fun W0 C w vs hi ha => h W0 C w vs (hi.wk hl) (wkL_rel ha _ hw)
def ROk (v : AV) (K : Heap) : AV → Heap → Prop := fun r K' => r = v ∧ K' = K
def AOk (P : Program) (f : FuncId) (args : List AV) (H : Heap) (v : AV) (K : Heap) : Prop := ACalls P f args H (ROk v K)
theorem ACalls.nilCase {pre post : List AV} {xs : List AV} (h1 : xs = [] → ACalls P f (pre ++ .sl [] .nil :: post) H R) (h2 : ACalls P f (pre ++ .sl xs .live :: post) H R) : ACalls P f (pre ++ .sl xs .no :: post) H R := by
  intro W0 C w vs hi ha
  obtain ⟨us, ws, rfl, ha1, ha2⟩ := RelL.split ha
  obtain ⟨v, ws', rfl, hv, hr⟩ := ha2.uncons
  rcases hv.nilCase with ⟨rfl, hv2⟩ | hv2
  · exact h1 rfl W0 C w _ hi (ha1.append (RelL.cons hv2 hr))
  · exact h2 W0 C w _ hi (ha1.append (RelL.cons hv2 hr))
section
variable {full : Array Oper} {dst : Option Tmp} {r l rest : List Oper}
theorem ACall.ok {args' : List AV} {v : AV} {K : Heap} (h : AOk P f args' H v K) (hw : wkL args args') (c : AGo P n Q (.ops full r :: k) (aput n dst v ρ) K) : ACall P n Q full dst r k ρ H f args :=
  ⟨_, ACalls.argsW h hw (HWk.refl _), fun v' K' ⟨e1, e2⟩ => by subst e1; subst e2; exact c⟩
theorem ACall.eq {v : AV} {K : Heap} (h : AOk P f args H v K) (c : AGo P n Q (.ops full r :: k) (aput n dst v ρ) K) : ACall P n Q full dst r k ρ H f args := ACall.ok h (wkL_refl _) c
theorem AQS.eq {v : AV} (h : AOk P f args H v H) (c : AQK P n Q full l rest k (aput n dst v ρ) H) : AQS P n Q full dst l rest k ρ H (.call f args) := ⟨v, h, c⟩
theorem AQS.ok {args' : List AV} {v : AV} (h : AOk P f args' H v H) (hw : wkL args args') (c : AQK P n Q full l rest k (aput n dst v ρ) H) : AQS P n Q full dst l rest k ρ H (.call f args) := ⟨v, ACalls.argsW h hw (HWk.refl _), c⟩
end
def AFin (R : AV → Heap → Prop) (v : AV) (H : Heap) : Prop := Wkn R v H
def AOut (o : Option (List AV)) (R : AV → Heap → Prop) (H : Heap) : Prop :=
  match o with
  | some vs => AFin R (apack vs) H
  | none => False
@[congr] theorem AOut_congr {o o' : Option (List AV)} (h : o = o') (R : AV → Heap → Prop) (H : Heap) : AOut o R H = AOut o' R H := by rw [h]
@[congr] theorem AFin_congr {v v' : AV} (h : v = v') (R : AV → Heap → Prop) (H : Heap) : AFin R v H = AFin R v' H := by rw [h]
@[simp] theorem AOut_some {vs : List AV} : AOut (some vs) R H = AFin R (apack vs) H := rfl
@[simp] theorem AEnd_nrm {rs : List ResultVar} {R : AV → Heap → Prop} : (AEnd P rs R).nrm = AEndP P rs R := rfl
@[simp] theorem AEnd_ret {rs : List ResultVar} {R : AV → Heap → Prop} : (AEnd P rs R).ret = AEndP P rs R := rfl
@[simp] theorem AEnd_ro {rs : List ResultVar} {R : AV → Heap → Prop} : (AEnd P rs R).ro = none := rfl
@[simp] theorem AEnd_out {rs : List ResultVar} : AEndP P rs (Wkn R) ρ H = AOut (ares P ρ H rs) R H := by
  unfold AEndP AOut AFin
  apply propext
  constructor
  · rintro ⟨vs, H0, h1, h2, r', K0, h3, h4, h5⟩
    rw [h1]
    exact ⟨r', K0, h3, h4.trans h2.wk, h5⟩
  · intro h
    cases ho : ares P ρ H rs with
    | none => rw [ho] at h; exact h.elim
    | some vs => rw [ho] at h; exact ⟨vs, H, rfl, HLe.refl _, h⟩
theorem AFin_ok {v x : AV} {K : Heap} : AFin (ROk v K) x H = (wk x v ∧ HWk K H) := by
  unfold AFin Wkn ROk
  apply propext
  constructor
  · rintro ⟨_, _, h1, h2, rfl, rfl⟩; exact ⟨h1, h2⟩
  · rintro ⟨h1, h2⟩; exact ⟨_, _, h1, h2, rfl, rfl⟩
attribute [simp] AFin_ok
@[simp] theorem HLe_same {H : Heap} : HLe H H = True := eq_true (HLe.refl H)
theorem AFin.intro {x : AV} (v : AV) (K : Heap) (h1 : wk x v) (h2 : HWk K H) (h3 : R v K) : AFin R x H := ⟨v, K, h1, h2, h3⟩
theorem ACalls.into {fn : Func} {c : Code} {n : Nat} {rs : Array ResultVar} (hf : P.funcs[f]? = some fn) (hb : fn.body = some c) (hn : fn.ntmps = n) (hr : fn.results = rs) (hl : args.length ≤ n)
    (h : AGo P n (AEnd P rs.toList (Wkn R)) [.code c] (ainit args) H) : ACalls P f args H R :=
  ACalls.weaken (ACalls.enter hf hb hn hr hl h)
@[simp] theorem ncast_neg (j : Nat) : ((j : Int) < 0) = False := eq_false (by omega)
@[simp] theorem ncast_pos (j : Nat) : ((0 : Int) ≤ (j : Int)) = True := eq_true (by omega)
@[simp] theorem take_len_map {α β : Type} (f : α → β) (l : List α) : (l.map f).take l.length = l.map f := List.take_of_length_le (by simp)
theorem AGo.rounds {c : Code} (I : Nat → (Nat → AV) → Heap → Prop)
    (h : ∀ m ρ H, (∀ m' ρ' H', m' < m → I m' ρ' H' → AGo P n Q (.lp c :: k) ρ' H') → I m ρ H → AGo P n Q (.code c :: .lp c :: k) ρ H) {m : Nat} {ρ : Nat → AV} {H H0 : Heap} (hl : HLe H0 H) (hi : I m ρ H0) : AGo P n Q (.lp c :: k) ρ H := by
  have key : ∀ m ρ H, I m ρ H → AGo P n Q (.lp c :: k) ρ H := by
    intro m
    induction m using Nat.strongRecOn with
    | ind m ih => exact fun ρ H hi => go_lp.2 ⟨H, ρ, HLe.refl H, NilF.refl ρ, h m ρ H (fun m' ρ' H' hm hi' => ih m' hm ρ' H' hi') hi⟩
  exact go_lp.2 ⟨H0, ρ, hl, NilF.refl ρ, h m ρ H0 (fun m' ρ' H' _ hi' => key m' ρ' H' hi') hi⟩
theorem AGo.roundsN {c : Code} (I : Nat → (Nat → AV) → Heap → Prop)
    (h : ∀ m ρ H, (∀ m' ρ' H', m' < m → I m' ρ' H' → AGo P n Q (.lp c :: k) ρ' H') → I m ρ H → AGo P n Q (.code c :: .lp c :: k) ρ H) {m : Nat} {ρ : Nat → AV} {H : Heap} (ρ0 : Nat → AV) (hn : NilF ρ0 ρ) (hi : I m ρ0 H) : AGo P n Q (.lp c :: k) ρ H := by
  have key : ∀ m ρ H, I m ρ H → AGo P n Q (.lp c :: k) ρ H := by
    intro m
    induction m using Nat.strongRecOn with
    | ind m ih => exact fun ρ H hi => go_lp.2 ⟨H, ρ, HLe.refl H, NilF.refl ρ, h m ρ H (fun m' ρ' H' hm hi' => ih m' hm ρ' H' hi') hi⟩
  exact go_lp.2 ⟨H, ρ0, HLe.refl H, hn, h m ρ0 H (fun m' ρ' H' _ hi' => key m' ρ' H' hi') hi⟩
theorem AGo.again {c : Code} {I : Nat → (Nat → AV) → Heap → Prop} {m : Nat} (ih : ∀ m' ρ' H', m' < m → I m' ρ' H' → AGo P n Q (.lp c :: k) ρ' H') {m' : Nat} (hm : m' < m) {H0 : Heap} (hl : HLe H0 H) (hi : I m' ρ H0) : AGo P n Q (.lp c :: k) ρ H := by
  obtain ⟨H1, ρ1, h1, hn, h2⟩ := go_lp.1 (ih m' ρ H0 hm hi)
  exact go_lp.2 ⟨H1, ρ1, h1.trans hl, hn, h2⟩
def Grows (H0 : Heap) (xs : List AV) (sz : Nat) (e : TypeId) (t : Tok) (K : Heap) : Prop :=
  (xs = [] ∧ t = .nil ∧ K = H0) ∨ ∃ g cap, H0 g = none ∧ t = .own g cap sz e ∧ K = H0.set g (.open xs.length cap sz e)
theorem Grows.zero {H0 : Heap} {sz : Nat} {e : TypeId} : Grows H0 [] sz e .nil H0 := .inl ⟨rfl, rfl, rfl⟩
theorem Grows.le {H0 K : Heap} {xs : List AV} {sz : Nat} {e : TypeId} {t : Tok} (h : Grows H0 xs sz e t K) : HLe H0 K := by
  rcases h with ⟨_, _, rfl⟩ | ⟨g, cap, h1, _, rfl⟩
  · exact HLe.refl _
  · exact (HLe.refl _).set_new h1
theorem HLe.none {A B : Heap} (h : HLe A B) {b : Nat} (hb : B b = none) : A b = none := by
  cases ha : A b with
  | none => rfl
  | some o => rw [h b o ha] at hb; cases hb
theorem AApp.grows {full : Array Oper} {dst : Option Tmp} {r : List Oper} {T e : TypeId} {xs ys : List AV} {t : Tok} {sz by_ : Nat} {H0 K : Heap} (he : ElemOk P T e sz by_) (hg : Grows H0 xs sz e t K) (hl : HLe K H)
    (h0 : ys ≠ []) (hx : szs sz xs = true) (hy : szs sz ys = true) (hb : (xs.length + ys.length) * by_ ≤ 140737488355328) (hm : xs.length + ys.length ≤ maxLen)
    (h : ∀ t' K' Hn, Grows H0 (xs ++ ys) sz e t' K' → HLe K' Hn → AGo P n Q (.ops full r :: k) (aput n dst (.sl (xs ++ ys) t') ρ) Hn) : AApp P n Q full dst r k ρ H T e xs t ys := by
  rcases hg with ⟨rfl, rfl, rfl⟩ | ⟨g, cap, h1, rfl, rfl⟩
  · refine AApp.new he (.inl rfl) h0 hx hy hb hm fun g cap hgn => h _ (K.set g (.open ([].length + ys.length) cap sz e)) _ (.inr ⟨g, cap, hl.none hgn, rfl, by simp⟩) hl.set_mono
  · refine AApp.own he (hl g _ (by simp [Heap.set])) hx hy hb hm fun g' cap' hgn => h _ (H0.set g' (.open (xs.length + ys.length) cap' sz e)) _ (.inr ⟨g', cap', ?_, rfl, by simp⟩) ?_
    · by_cases hgg : g' = g
      · subst hgg; exact h1
      · refine ((HLe.refl H0).set_new h1 |>.trans hl).none ?_
        simpa [Heap.del, hgg] using hgn
    · refine HLe.set_mono fun c ob hc => ?_
      have hcg : c ≠ g := by rintro rfl; rw [h1] at hc; cases hc
      simp only [Heap.del, if_neg hcg]
      exact ((HLe.refl H0).set_new h1 |>.trans hl) c ob hc
end Rg
namespace Rg
open Go Go.RowKit Go.WideShapes Go.ChangeShapes
inductive Sh where
  | bool
  | int (k : IntKind)
  | str
  | sl (s : Sh)
  | st (ss : List Sh)
mutual
def fits : Sh → AV → Prop
  | .bool, a => ∃ b, a = .sc (.bool b)
  | .int k, a => ∃ n, a = .sc (.int k n) ∧ (Lit.int k n).wf = true
  | .str, a => ∃ s : ByteArray, a = .sc (.string s) ∧ s.size ≤ maxLen
  | .sl s, a => ∃ xs, a = .sl xs .no ∧ xs.length ≤ maxLen ∧ ∀ x ∈ xs, fits s x
  | .st ss, a => ∃ cs, a = .agg cs ∧ fitsL ss cs
def fitsL : List Sh → List AV → Prop
  | [], cs => cs = []
  | s :: ss, cs => ∃ a r, cs = a.cells ++ r ∧ fits s a ∧ fitsL ss r
end
def laidB (P : Program) : Nat → List Field → Nat → Bool
  | off, [], tot => off == tot
  | off, f :: r, tot => f.offset == off && laidB P (off + P.cellsOf f.type) r tot
def shOf (P : Program) : Nat → TypeId → Option Sh
  | 0, _ => none
  | n + 1, t =>
    match P.underlying t with
    | some .bool => some .bool
    | some (.int k) => some (.int k)
    | some .string => some .str
    | some (.slice e) => if P.cellsOf e = 0 then none else (shOf P n e).map .sl
    | some (.struct fs) => if laidB P 0 fs.toList (P.cellsOf t) then (fs.toList.mapM fun f => shOf P n f.type).map .st else none
    | some (.array k e) => if P.cellsOf t = k * P.cellsOf e then (shOf P n e).map fun s => .st (List.replicate k s) else none
    | _ => none
def comOf (w : World) : Com := fun b o => w.cell? ⟨b, o, none⟩
theorem mapM_spec {α β : Type} {f : α → Option β} : ∀ {l : List α} {r : List β}, l.mapM f = some r → r.length = l.length ∧ ∀ (i : Nat) (x : α), l[i]? = some x → ∃ y, r[i]? = some y ∧ f x = some y
  | [], r, h => by simp at h; subst h; simp
  | a :: l, r, h => by
    simp only [List.mapM_cons, Option.bind_eq_bind, Option.pure_def, Option.bind_eq_some_iff, Option.some.injEq] at h
    obtain ⟨y, hy, r', hr, rfl⟩ := h
    obtain ⟨h1, h2⟩ := mapM_spec hr
    refine ⟨by simp [h1], fun i x hx => ?_⟩
    cases i with
    | zero => simp at hx; subst hx; exact ⟨y, rfl, hy⟩
    | succ i => simpa using h2 i x (by simpa using hx)
theorem cells_spec {w : World} {a : Addr} {n : Nat} {l : List Value} (h : w.cells? 0 a n = some l) : l.length = n ∧ ∀ (i : Nat) (u : Value), l[i]? = some u → w.cell? (a.add i) = some u := by
  unfold World.cells? at h
  rw [if_pos (Nat.zero_le _)] at h
  obtain ⟨h1, h2⟩ := mapM_spec h
  simp at h1
  refine ⟨h1, fun i u hu => ?_⟩
  have hi := (List.getElem?_eq_some_iff.1 hu).1
  obtain ⟨y, hy, hf⟩ := h2 i i (List.getElem?_range (by omega))
  rw [hu] at hy; cases hy; exact hf
section
variable {H : Type} {enc : TypeId × Value → H} {P : Program} {w : World} {sp : Nat → Bool} {held : Bool}
theorem elems_spec {e : TypeId} {s : Sh} {b o : Nat} {fuel sz : Nat} (hsz : sz = P.cellsOf e)
    (ih : ∀ (cs : List Value) (d : DataW H) (ps : List MemPlace), DataW.trod enc P w 0 sp held fuel e cs = some (d, ps) → ∃ a : AV, fits s a ∧ RelL (comOf w) a.cells cs ∧ ∀ u ∈ cs, u.oneCell' = true)
    :
    ∀ (n : Nat), (∀ i, i < n → ∃ z, (w.cells? 0 (Addr.add ⟨b, o, none⟩ (i * sz)) sz).bind (DataW.trod enc P w 0 sp held fuel e) = some z) → ∃ (xs : List AV) (us : List Value), xs.length = n ∧ us.length = n * sz ∧ RelL (comOf w) (xs.flatMap AV.cells) us ∧ (∀ x ∈ xs, fits s x ∧ x.cells.length = sz) ∧
      (∀ u ∈ us, u.oneCell' = true) ∧ ∀ (j : Nat) (u : Value), us[j]? = some u → comOf w b (o + j) = some u := by
  intro n
  induction n with
  | zero => intro _; exact ⟨[], [], rfl, by simp, RelL.nil, by simp, by simp, by simp⟩
  | succ n ihn =>
    intro h
    obtain ⟨xs, us, h1, h2, h3, h4, h5, h6⟩ := ihn fun i hi => h i (by omega)
    obtain ⟨⟨d, ps⟩, hd⟩ := h n (by omega)
    obtain ⟨cs, hc, ht⟩ := Option.bind_eq_some_iff.1 hd
    obtain ⟨a, ha1, ha2, ha3⟩ := ih cs d ps ht
    obtain ⟨c1, c2⟩ := cells_spec hc
    have hal := ha2.length
    refine ⟨xs ++ [a], us ++ cs, by simp [h1], by simp [h2, c1, Nat.succ_mul], ?_, ?_, ?_, ?_⟩
    · simp only [List.flatMap_append, List.flatMap_cons, List.flatMap_nil, List.append_nil]
      exact h3.append ha2
    · intro x hx
      rcases List.mem_append.1 hx with hx | hx
      · exact h4 x hx
      · simp at hx; subst hx; exact ⟨ha1, by omega⟩
    · intro u hu
      rcases List.mem_append.1 hu with hu | hu
      · exact h5 u hu
      · exact ha3 u hu
    · intro j u hu
      rw [List.getElem?_append] at hu
      split at hu
      · exact h6 j u hu
      · rename_i hj
        have := c2 _ u hu
        rw [addr_add, addr_add] at this
        unfold comOf
        rw [h2] at this
        rw [show o + j = o + n * sz + (j - n * sz) by omega]
        exact this
theorem fields_spec {n fuel : Nat} {cs : List Value}
    (ih : ∀ (t : TypeId) (s : Sh) (cs : List Value) (d : DataW H) (ps : List MemPlace), shOf P n t = some s → DataW.trod enc P w 0 sp held fuel t cs = some (d, ps) → ∃ a : AV, fits s a ∧ RelL (comOf w) a.cells cs ∧ ∀ u ∈ cs, u.oneCell' = true) :
    ∀ (fs : List Field) (off : Nat) (ss : List Sh), laidB P off fs cs.length = true → (fs.mapM fun f => shOf P n f.type) = some ss →
      (∀ f ∈ fs, ∃ z, DataW.trod enc P w 0 sp held fuel f.type ((cs.drop f.offset).take (P.cellsOf f.type)) = some z) → ∃ as : List AV, fitsL ss as ∧ RelL (comOf w) as (cs.drop off) ∧ ∀ u ∈ cs.drop off, u.oneCell' = true
  | [], off, ss, hl, hs, hx => by
    simp [laidB] at hl
    simp at hs
    subst hs
    refine ⟨[], by simp [fitsL], ?_, ?_⟩
    · rw [List.drop_eq_nil_of_le (by omega)]; exact .nil
    · rw [List.drop_eq_nil_of_le (by omega)]; simp
  | f :: fs, off, ss, hl, hs, hx => by
    simp only [laidB, Bool.and_eq_true, beq_iff_eq] at hl
    obtain ⟨ho, hl⟩ := hl
    simp only [List.mapM_cons, Option.bind_eq_bind, Option.pure_def, Option.bind_eq_some_iff, Option.some.injEq] at hs
    obtain ⟨s, hs1, ss', hs2, rfl⟩ := hs
    obtain ⟨⟨d, ps⟩, hx1⟩ := hx f (by simp)
    rw [ho] at hx1
    obtain ⟨a, ha1, ha2, ha3⟩ := ih _ _ _ _ _ hs1 hx1
    obtain ⟨as, hb1, hb2, hb3⟩ := fields_spec ih fs _ ss' hl hs2 fun g hg => hx g (by simp [hg])
    have e : cs.drop off = (cs.drop off).take (P.cellsOf f.type) ++ cs.drop (off + P.cellsOf f.type) := by
      rw [← List.drop_drop, List.take_append_drop]
    refine ⟨a.cells ++ as, ⟨a, as, rfl, ha1, hb1⟩, ?_, ?_⟩
    · rw [e]; exact ha2.append hb2
    · rw [e]
      intro u hu
      rcases List.mem_append.1 hu with hu | hu
      · exact ha3 u hu
      · exact hb3 u hu
theorem arr_spec {fuel k c : Nat} {e : TypeId} {se : Sh} {cs : List Value} (hc : c = P.cellsOf e) (hl : cs.length = k * c)
    (ih : ∀ (cs : List Value) (d : DataW H) (ps : List MemPlace), DataW.trod enc P w 0 sp held fuel e cs = some (d, ps) → ∃ a : AV, fits se a ∧ RelL (comOf w) a.cells cs ∧ ∀ u ∈ cs, u.oneCell' = true)
    (hx : ∀ i, i < k → ∃ z, DataW.trod enc P w 0 sp held fuel e ((cs.drop (i * c)).take c) = some z) :
    ∀ j, j ≤ k → ∃ as : List AV, fitsL (List.replicate j se) as ∧ RelL (comOf w) as (cs.drop ((k - j) * c)) ∧ ∀ u ∈ cs.drop ((k - j) * c), u.oneCell' = true
  | 0, _ => by
    refine ⟨[], by simp [fitsL], ?_, ?_⟩
    · rw [List.drop_eq_nil_of_le (by rw [hl]; simp)]; exact .nil
    · rw [List.drop_eq_nil_of_le (by rw [hl]; simp)]; simp
  | j + 1, hj => by
    obtain ⟨⟨d, ps⟩, hd⟩ := hx (k - (j + 1)) (by omega)
    obtain ⟨a, ha1, ha2, ha3⟩ := ih _ _ _ hd
    obtain ⟨as, hb1, hb2, hb3⟩ := arr_spec hc hl ih hx j (by omega)
    have e0 : (k - j) * c = (k - (j + 1)) * c + c := by rw [show k - j = (k - (j + 1)) + 1 by omega, Nat.succ_mul]
    have e1 : cs.drop ((k - (j + 1)) * c) = (cs.drop ((k - (j + 1)) * c)).take c ++ cs.drop ((k - j) * c) := by
      rw [e0, ← List.drop_drop, List.take_append_drop]
    refine ⟨a.cells ++ as, ⟨a, as, rfl, ha1, hb1⟩, ?_, ?_⟩
    · rw [e1]; exact ha2.append hb2
    · rw [e1]
      intro u hu
      rcases List.mem_append.1 hu with hu | hu
      · exact ha3 u hu
      · exact hb3 u hu
theorem open_cells : ∀ (fuel n : Nat) (t : TypeId) (s : Sh) (cs : List Value) (d : DataW H) (ps : List MemPlace), shOf P n t = some s → DataW.trod enc P w 0 sp held fuel t cs = some (d, ps) →
    ∃ a : AV, fits s a ∧ RelL (comOf w) a.cells cs ∧ ∀ u ∈ cs, u.oneCell' = true := by
  intro fuel
  induction fuel with
  | zero => intro n t s cs d ps _ h; simp [DataW.trod] at h
  | succ fuel ih =>
    intro n t s cs d ps hs h
    cases n with
    | zero => simp [shOf] at hs
    | succ n =>
    unfold shOf at hs
    split at hs
    · rename_i hu
      cases hs
      obtain ⟨b, rfl, _⟩ := DataW.trod_bool hu h
      exact ⟨.sc (.bool b), by simp [fits], .sc _ .nil, by simp⟩
    · rename_i k hu
      cases hs
      obtain ⟨i, rfl, _, hw⟩ := DataW.trod_int hu h
      exact ⟨.sc (.int k i), ⟨i, rfl, hw⟩, .sc _ .nil, by simp⟩
    · rename_i hu
      cases hs
      obtain ⟨b, rfl, _, hb⟩ := DataW.trod_string hu h
      exact ⟨.sc (.string b), ⟨b, rfl, hb⟩, .sc _ .nil, by simp⟩
    · rename_i e hu
      split at hs
      · cases hs
      rename_i hz
      obtain ⟨se, hse, rfl⟩ := Option.map_eq_some_iff.1 hs
      rcases DataW.trod_slice hu h with ⟨rfl, _⟩ | ⟨a, len, cap, elems, rest, m, hm, rfl, _, _, hl, hc, hel, hat, _, _⟩
      · exact ⟨.sl [] .no, ⟨[], rfl, by simp, by simp⟩, .nils _ rfl .nil, by simp⟩
      · cases hm
        have hsome : ∀ i, i < len → ∃ z, (w.cells? 0 (a.add (i * P.cellsOf e)) (P.cellsOf e)).bind (DataW.trod enc P w 0 sp held fuel e) = some z := fun i hi => ⟨elems[i]'(by omega), by rw [hat i hi]; simp [hel, hi]⟩
        by_cases h0 : len = 0
        · subst h0
          exact ⟨.sl [] .no, ⟨[], rfl, by simp, by simp⟩, .emp _ a cap (.inl rfl) hc .nil, by simp⟩
        · have hspot : a.spot = none := by
            obtain ⟨z, hz'⟩ := hsome 0 (by omega)
            obtain ⟨cs, hcs, _⟩ := Option.bind_eq_some_iff.1 hz'
            obtain ⟨c1, c2⟩ := cells_spec hcs
            have := c2 0 (cs[0]'(by omega)) (List.getElem?_eq_getElem _)
            simp [Addr.add, World.cell?] at this
            split at this
            · split at this
              · cases this
              · rename_i hsp; simpa using hsp
            · cases this
          obtain ⟨b, o, spot⟩ := a
          simp only at hspot
          subst hspot
          obtain ⟨xs, us, h1, h2, h3, h4, h5, h6⟩ := elems_spec (enc := enc) (sp := sp) (held := held) (b := b) (o := o) (sz := P.cellsOf e) rfl (fun cs d ps hh => ih n e se cs d ps hse hh) len hsome
          refine ⟨.sl xs .no, ⟨xs, rfl, by omega, fun x hx => (h4 x hx).1⟩, ?_, by simp⟩
          rw [← h1]
          exact .sl _ b o cap (P.cellsOf e) h3 (fun x hx => (h4 x hx).2) h5 h6 (by omega) hc trivial .nil
    · rename_i fs hu
      split at hs
      · rename_i hlaid
        obtain ⟨ss, hss, rfl⟩ := Option.map_eq_some_iff.1 hs
        obtain ⟨xs, m, hm, _, hlen, hxl, hat⟩ := DataW.trod_struct hu h
        cases hm
        obtain ⟨as, h1, h2, h3⟩ := fields_spec (fun t s cs d ps h1 h2 => ih n t s cs d ps h1 h2) fs.toList 0 ss (by rw [hlen]; exact hlaid) hss fun f hf => by
          obtain ⟨i, hi, rfl⟩ := List.getElem_of_mem hf
          have hi' : i < fs.size := by simpa using hi
          have := hat i fs[i] (by simp [hi'])
          refine ⟨xs[i]'(by omega), ?_⟩
          simp only [Array.getElem_toList]
          rw [this]; simp [hxl, hi']
        exact ⟨.agg as, ⟨as, rfl, h1⟩, by simpa using h2, by simpa using h3⟩
      · cases hs
    · rename_i k e hu
      split at hs
      · rename_i hsz
        obtain ⟨se, hse, rfl⟩ := Option.map_eq_some_iff.1 hs
        obtain ⟨xs, m, hm, _, hlen, hxl, hat⟩ := DataW.trod_array hu h
        cases hm
        obtain ⟨as, h1, h2, h3⟩ := arr_spec (enc := enc) (sp := sp) (held := held) (k := k) rfl (by rw [hlen, hsz]) (fun cs d ps hh => ih n e se cs d ps hse hh)
          (fun i hi => ⟨xs[i]'(by omega), by rw [hat i hi]; simp [hxl, hi]⟩) k (Nat.le_refl _)
        exact ⟨.agg as, ⟨as, rfl, h1⟩, by simpa using h2, by simpa using h3⟩
      · cases hs
    · cases hs
theorem open_arg {r : Reach} {base n : Nat} {t : TypeId} {s : Sh} {v : Value} {d : DataW H} {ps : List MemPlace} (hs : shOf P n t = some s) (hv : Value.okWide P w r base t v) (h : DataW.Trod enc P w 0 sp held t v d ps) :
    ∃ a : AV, fits s a ∧ Rel (comOf w) a v := by
  obtain ⟨fuel, hf⟩ := h
  obtain ⟨a, h1, h2, h3⟩ := open_cells fuel n t s _ d ps hs hf
  refine ⟨a, h1, ?_⟩
  cases n with
  | zero => simp [shOf] at hs
  | succ n =>
  unfold shOf at hs
  split at hs
  · rename_i hu
    cases hs
    obtain ⟨b, rfl⟩ := h1
    simp only [Value.okWide, hu, Cell.okWide, Cell.ok] at hv
    cases v <;> simp at hv
    simpa [Rel, Value.cells, AV.cells] using h2
  · rename_i k hu
    cases hs
    obtain ⟨b, rfl, _⟩ := h1
    simp only [Value.okWide, hu, Cell.okWide, Cell.ok] at hv
    cases v <;> simp at hv
    simpa [Rel, Value.cells, AV.cells] using h2
  · rename_i hu
    cases hs
    obtain ⟨b, rfl, _⟩ := h1
    simp only [Value.okWide, hu, Cell.okWide, Cell.ok] at hv
    cases v <;> simp at hv
    simpa [Rel, Value.cells, AV.cells] using h2
  · rename_i e hu
    split at hs
    · cases hs
    obtain ⟨se, _, rfl⟩ := Option.map_eq_some_iff.1 hs
    obtain ⟨xs, rfl, _⟩ := h1
    obtain ⟨a, l, c, rfl⟩ := okWide_slice hu hv
    simpa [Rel, Value.cells, AV.cells] using h2
  · rename_i fs hu
    split at hs
    · obtain ⟨ss, _, rfl⟩ := Option.map_eq_some_iff.1 hs
      obtain ⟨cs, rfl, _⟩ := h1
      obtain ⟨us, rfl, _⟩ := okWide_struct hu hv
      have := RelL.agg (C := comOf w) (as := []) (vs := []) (us := us.toList) (cs := cs) (by simpa [Value.cells, AV.cells] using h2) (by simpa [Value.cells] using h3) .nil
      simpa [Rel] using this
    · cases hs
  · rename_i k e hu
    split at hs
    · obtain ⟨se, _, rfl⟩ := Option.map_eq_some_iff.1 hs
      obtain ⟨cs, rfl, _⟩ := h1
      obtain ⟨us, rfl⟩ : ∃ us, v = .agg us := by
        simp only [Value.okWide, hu] at hv
        obtain ⟨us, h1, _⟩ := hv
        exact ⟨us, h1⟩
      have := RelL.agg (C := comOf w) (as := []) (vs := []) (us := us.toList) (cs := cs) (by simpa [Value.cells, AV.cells] using h2) (by simpa [Value.cells] using h3) .nil
      simpa [Rel] using this
    · cases hs
  · cases hs
def fitsAll : List Sh → List AV → Prop
  | [], as => as = []
  | s :: ss, as => ∃ a r, as = a :: r ∧ fits s a ∧ fitsAll ss r
theorem open_args {r : Reach} {base n : Nat} : ∀ {ts : List TypeId} {ss : List Sh} {vs : List Value} {ds : List (DataW H)} {ps : List MemPlace}, (ts.mapM fun t => shOf P n t) = some ss →
    (∀ (j : Nat) t v, ts[j]? = some t → vs[j]? = some v → Value.okWide P w r base t v) → DataW.TrodAll enc P w 0 sp held ts vs ds ps → ds.length = ts.length ∧ ∃ as : List AV, fitsAll ss as ∧ RelL (comOf w) as vs
  | [], ss, vs, ds, ps, hs, _, h => by
    obtain ⟨rfl, rfl, rfl⟩ := trodAll_nil h
    simp at hs; subst hs
    exact ⟨rfl, [], by simp [fitsAll], .nil⟩
  | t :: ts, ss, vs, ds, ps, hs, hv, h => by
    simp only [List.mapM_cons, Option.bind_eq_bind, Option.pure_def, Option.bind_eq_some_iff, Option.some.injEq] at hs
    obtain ⟨s, hs1, ss', hs2, rfl⟩ := hs
    obtain ⟨v, vs', d, ds', a, b, rfl, rfl, rfl, h1, h2⟩ := trodAll_cons h
    obtain ⟨x, hx1, hx2⟩ := open_arg hs1 (hv 0 t v rfl rfl) h1
    obtain ⟨hl, as, ha1, ha2⟩ := open_args hs2 (fun j t v ht hv' => hv (j + 1) t v (by simpa using ht) (by simpa using hv')) h2
    exact ⟨by simp [hl], x :: as, ⟨x, as, rfl, hx1, ha1⟩, RelL.cons hx2 ha2⟩
theorem stay_args (hl : laidOutB P = true) {w' : World} (hb : Below w.heap.size w w') {sp' : Nat → Bool} : ∀ {ts : List TypeId} {vs : List Value} {ds : List (DataW H)} {ps : List MemPlace}, (ts.all fun t => P.readableRec t && decide (t < P.types.size)) = true →
    DataW.TrodAll enc P w 0 (fun _ => true) true ts vs ds ps → (∀ p ∈ ps, p.block < w.heap.size) → (∀ p ∈ ps, sp' p.block = true) → DataW.TrodAll enc P w' 0 sp' true ts vs ds ps
  | [], vs, ds, ps, _, h, _, _ => by
    obtain ⟨rfl, rfl, rfl⟩ := trodAll_nil h
    exact rfl
  | t :: ts, vs, ds, ps, hr, h, hlt, hs => by
    simp only [List.all_cons, Bool.and_eq_true, decide_eq_true_eq] at hr
    obtain ⟨v, vs', d, ds', a, b, rfl, rfl, rfl, h1, h2⟩ := trodAll_cons h
    exact ⟨a, b, WideElems.Trod_stays hl hr.1.1 hr.1.2 h1 (fun p hp => hb.same (hlt p (by simp [hp]))) (fun p hp => hs p (by simp [hp])),
      stay_args hl hb hr.2 h2 (fun p hp => hlt p (by simp [hp])) (fun p hp => hs p (by simp [hp])), rfl⟩
end
end Rg
namespace Rg
open Go Go.RowKit
def noRetC : Code → Bool
  | .ret => false
  | .rangeFunc _ _ _ _ => false
  | .seq a b => noRetC a && noRetC b
  | .cond _ a b => noRetC a && noRetC b
  | .block _ c => noRetC c
  | .loop c => noRetC c
  | .scope c => noRetC c
  | _ => true
def noRetI : AItem → Bool
  | .code c => noRetC c
  | .lp c => noRetC c
  | .scp c => true
  | .bgn _ => false
  | _ => true
variable {P : Program} {n : Nat} {Q : Post} {J : (Nat → AV) → Heap → Prop} {ρ : Nat → AV} {H : Heap} {k : List AItem}
theorem aexit_append {id : Nat} : ∀ {l r k : List AItem}, aexit id l = some r → aexit id (l ++ k) = some (r ++ k)
  | [], r, k, h => by cases h
  | .blk id' :: l, r, k, h => by
    simp only [List.cons_append, aexit] at *
    split at h
    · cases h; rw [if_pos (by assumption)]
    · rw [if_neg (by assumption)]; exact aexit_append h
  | .code c :: l, r, k, h => by simp only [List.cons_append, aexit] at *; exact aexit_append h
  | .lp c :: l, r, k, h => by simp only [List.cons_append, aexit] at *; exact aexit_append h
  | .scp c :: l, r, k, h => by simp only [List.cons_append, aexit] at *; exact aexit_append h
  | .ops f o :: l, r, k, h => by simp only [List.cons_append, aexit] at *; exact aexit_append h
  | .bgn i :: l, r, k, h => by simp only [List.cons_append, aexit] at *; exact aexit_append h
theorem aexit_noRet {id : Nat} : ∀ {l r : List AItem}, l.all noRetI = true → aexit id l = some r → r.all noRetI = true
  | [], r, _, h => by cases h
  | .blk id' :: l, r, hl, h => by
    simp only [List.all_cons, Bool.and_eq_true] at hl
    simp only [aexit] at h
    split at h
    · cases h; exact hl.2
    · exact aexit_noRet hl.2 h
  | .code c :: l, r, hl, h => by simp only [List.all_cons, Bool.and_eq_true] at hl; simp only [aexit] at h; exact aexit_noRet hl.2 h
  | .lp c :: l, r, hl, h => by simp only [List.all_cons, Bool.and_eq_true] at hl; simp only [aexit] at h; exact aexit_noRet hl.2 h
  | .scp c :: l, r, hl, h => by simp only [List.all_cons, Bool.and_eq_true] at hl; simp only [aexit] at h; exact aexit_noRet hl.2 h
  | .ops f o :: l, r, hl, h => by simp only [List.all_cons, Bool.and_eq_true] at hl; simp only [aexit] at h; exact aexit_noRet hl.2 h
  | .bgn i :: l, r, hl, h => by simp [noRetI] at hl
theorem AGo.cutQ {Qj : Post} {l : List AItem} (h : AGo P n Qj l ρ H) (hJ : ∀ ρ' H', Qj.nrm ρ' H' → J ρ' H') (hO : ∀ id ρ' H', Qj.out id ρ' H' → False) (hl : l.all noRetI = true) (hk : ∀ ρ' H', J ρ' H' → AGo P n Q k ρ' H') : AGo P n Q (l ++ k) ρ H := by
  induction h with
  | nil hq => exact hk _ _ (hJ _ _ hq)
  | out _ hq => exact (hO _ _ _ hq).elim
  | bgn _ _ _ _ _ => simp [noRetI] at hl
  | rangeF _ _ _ _ _ _ _ _ => simp [noRetI, noRetC] at hl
  | ret hq => simp [noRetI, noRetC] at hl
  | skip _ ih => exact .skip (ih hJ hO (by simpa [noRetI, noRetC] using hl))
  | label _ ih => exact .label (ih hJ hO (by simpa [noRetI, noRetC] using hl))
  | seq _ ih => exact .seq (ih hJ hO (by simpa [noRetI, noRetC, and_assoc] using hl))
  | cond he _ ih =>
    refine .cond he (ih hJ hO ?_)
    simp only [List.all_cons, noRetI, noRetC, Bool.and_eq_true] at hl ⊢
    refine ⟨?_, hl.2⟩
    split
    · exact hl.1.1
    · exact hl.1.2
  | block _ ih => exact .block (ih hJ hO (by simpa [noRetI, noRetC] using hl))
  | blk _ ih => exact .blk (ih hJ hO (by simpa [noRetI] using hl))
  | scope _ ih => exact .scope (ih hJ hO (by simpa [noRetI, noRetC] using hl))
  | scp _ ih => exact .scp (ih hJ hO (by simpa [noRetI] using hl))
  | loop he hn _ ih => exact .loop he hn (ih hJ hO (by simpa [noRetI, noRetC] using hl))
  | lp he hn _ ih => exact .lp he hn (ih hJ hO (by simpa [noRetI, noRetC] using hl))
  | exit he _ ih => exact .exit (aexit_append he) (ih hJ hO (aexit_noRet (by simpa [noRetI, noRetC] using hl) he))
  | region _ ih => exact .region (ih hJ hO (by simpa [noRetI, noRetC] using hl))
  | draw m h1 h2 h3 _ ih => exact .draw m h1 h2 h3 (ih hJ hO (by simpa [noRetI, noRetC] using hl))
  | draw2 m A B H0 R h1 h2 h3 h4 _ ih => exact .draw2 m A B H0 R h1 h2 h3 h4 fun r K hr => ih r K hr hJ hO (by simpa [noRetI, noRetC] using hl)
  | draw3 A lst H0 R h1 h2 h3 h4 h5 _ ih => exact .draw3 A lst H0 R h1 h2 h3 h4 h5 fun r K hr => ih r K hr hJ hO (by simpa [noRetI, noRetC] using hl)
  | opsNil _ ih => exact .opsNil (ih hJ hO (by simpa [noRetI, noRetC] using hl))
  | opY h1 _ ih => exact .opY h1 (ih hJ hO (by simpa [noRetI, noRetC] using hl))
  | opCall h1 h2 h3 _ ih => exact .opCall h1 h2 h3 fun v H' hr => ih v H' hr hJ hO (by simpa [noRetI, noRetC] using hl)
  | opAlloc h1 h2 _ ih => exact .opAlloc h1 h2 fun b hb => ih b hb hJ hO (by simpa [noRetI, noRetC] using hl)
  | opStore h1 h2 h3 _ ih => exact .opStore h1 h2 h3 (ih hJ hO (by simpa [noRetI, noRetC] using hl))
  | opLits h1 h2 _ ih => exact .opLits h1 h2 fun b hb => ih b hb hJ hO (by simpa [noRetI, noRetC] using hl)
  | opFreeze h1 h2 h3 _ ih => exact .opFreeze h1 h2 h3 (ih hJ hO (by simpa [noRetI, noRetC] using hl))
  | opUnarr h1 h2 _ ih => exact .opUnarr h1 h2 (ih hJ hO (by simpa [noRetI, noRetC] using hl))
  | opNew h1 h2 h3 h4 h5 h6 h7 h8 h9 _ ih => exact .opNew h1 h2 h3 h4 h5 h6 h7 h8 h9 fun g cap hg => ih g cap hg hJ hO (by simpa [noRetI, noRetC] using hl)
  | opOwn h1 h2 h3 h4 h5 h6 h7 h8 _ ih => exact .opOwn h1 h2 h3 h4 h5 h6 h7 h8 fun g cap hg => ih g cap hg hJ hO (by simpa [noRetI, noRetC] using hl)
  | opAppC R h1 h2 h3 _ ih => exact .opAppC R h1 h2 h3 fun v H' hr => ih v H' hr hJ hO (by simpa [noRetI, noRetC] using hl)
theorem AGo.cut {l : List AItem} {ro : Option Nat} (h : AGo P n (Post.of J ro) l ρ H) (hl : l.all noRetI = true) (hk : ∀ ρ' H', J ρ' H' → AGo P n Q k ρ' H') : AGo P n Q (l ++ k) ρ H :=
  AGo.cutQ h (fun _ _ h => h) (fun _ _ _ h => h) hl hk
theorem ABr.cut {t : Bool} {a b : Code} (J : (Nat → AV) → Heap → Prop) (ha : t = true → AGo P n (Post.of J none) [.code a] ρ H) (hb : t = false → AGo P n (Post.of J none) [.code b] ρ H)
    (hk : ∀ ρ' H', J ρ' H' → AGo P n Q k ρ' H') (hl : (noRetC a && noRetC b) = true) : ABr (.sc (.bool t)) (AGoZ P n Q (.code a :: k) ρ H) (AGoZ P n Q (.code b :: k) ρ H) := by
  simp only [Bool.and_eq_true] at hl
  cases t
  · rw [ABr_false]; exact AGo.cut (hb rfl) (by simp [noRetI, hl.2]) hk
  · rw [ABr_true]; exact AGo.cut (ha rfl) (by simp [noRetI, hl.1]) hk
theorem ABr.join {t : Bool} {a b : Code} (J : (Nat → AV) → Heap → Prop) (h : ∀ k' : List AItem, (∀ ρ' H', J ρ' H' → AGo P n Q k' ρ' H') → ABr (.sc (.bool t)) (AGoZ P n Q (.code a :: k') ρ H) (AGoZ P n Q (.code b :: k') ρ H))
    (hk : ∀ ρ' H', J ρ' H' → AGo P n Q k ρ' H') : ABr (.sc (.bool t)) (AGoZ P n Q (.code a :: k) ρ H) (AGoZ P n Q (.code b :: k) ρ H) := h k hk
theorem AGo.joinLoop {c : Code} {id : Nat} (J : (Nat → AV) → Heap → Prop) (h : ∀ k' : List AItem, (∀ ρ' H', J ρ' H' → AGo P n Q k' ρ' H') → AGo P n Q (.lp c :: .blk id :: k') ρ H)
    (hk : ∀ ρ' H', J ρ' H' → AGo P n Q k ρ' H') : AGo P n Q (.lp c :: .blk id :: k) ρ H := h k hk
theorem AES.ok {H0 Hw : Heap} {full : Array Oper} {dst : Option Tmp} {l rest : List Oper} {f : FuncId} {args args' : List AV} {v : AV} {K : Heap} (h : AOk P f args' Hw v K) (hw : wkL args args') (hl : HWk Hw H) (hc : HC H0 K)
    (c : ABK P n H0 Q full l rest k (aput n dst v ρ) K) : AES P n H0 Q full dst l rest k ρ H (.call f args) :=
  ⟨_, ACalls.argsW h hw hl, fun v' K' ⟨e1, e2⟩ => by subst e1; subst e2; exact ⟨hc, c⟩⟩
end Rg
namespace Rg
open Go Go.RowKit
variable {P : Program} {W0 w w' : World} {C : Com} {H K : Heap} {f : FuncId} {args : List AV}
theorem Inv.step (hi : Inv W0 C H w) (hb : Below w.heap.size w w') : Inv W0 C H w' := by
  have hs := hi.below.size
  refine ⟨hi.below.trans ⟨hb.os, hb.tape, hb.output, hb.size, fun k hk => hb.block k (by omega)⟩, fun b o u hu => ?_, fun b ob hob => ?_⟩
  · rw [World.cell?_of_block (w := w) (a := ⟨b, o, none⟩) (hb.block b (com_lt hi hu))]
    exact hi.com b o u hu
  · have h := hi.obj b ob hob
    exact ⟨h.1, h.2.heap (hb.block b h.2.lt)⟩
theorem below_drewN (w : World) (n : Nat) : Below w.heap.size w (w.drewN n) := by
  induction n with
  | zero => exact Below.refl _ _
  | succ n ih => exact ih.drew
def avOf : Value → AV
  | .tuple us => .tup (us.toList.map AV.sc)
  | v => .sc v
theorem relL_scs (us : List Value) : RelL C (us.map AV.sc) us := by
  induction us with
  | nil => exact .nil
  | cons u us ih => exact .sc u ih
theorem rel_avOf (v : Value) : Rel C (avOf v) v := by
  unfold avOf
  split
  · rename_i us
    have := RelL.tup (C := C) (as := []) (vs := []) (relL_scs us.toList) .nil
    simpa [Rel] using this
  · exact Rel.sc _
theorem scs_of {vs us : List Value} (h : RelL C (vs.map AV.sc) us) : us = vs := by
  induction vs generalizing us with
  | nil => exact h.nil_inv
  | cons v vs ih =>
    obtain ⟨u, us', rfl, hu, hr⟩ := RelL.uncons h
    rw [hu.sc_inv, ih hr]
theorem AOk.kit {vs : List Value} {r : Value} (h : ∀ (W0 : World) (C : Com) (w : World), Inv W0 C H w → Calls P f vs.toArray w fun e w' => e = .returned r ∧ Below w.heap.size w w') : AOk P f (vs.map AV.sc) H (avOf r) H := by
  intro W0 C w us hi ha
  obtain rfl := scs_of ha
  exact .inl ((h W0 C w hi).mono fun e w' ⟨h1, h2⟩ => ⟨_, _, C, r, h1, ⟨rfl, rfl⟩, CLe.refl C, rel_avOf r, hi.step h2⟩)
abbrev strAV (s : ByteArray) : AV := .sc (.string s)
abbrev strsAV (l : List ByteArray) : AV := .sl (l.map strAV) .no
theorem flat_strs (l : List ByteArray) : (l.map strAV).flatMap AV.cells = (l.map Value.string).map AV.sc := by
  induction l with
  | nil => rfl
  | cons s l ih => simp [AV.cells] at ih ⊢; exact ih
attribute [simp] AV.one
theorem HWk.dels {K H : Heap} {b : Nat} (hb : K b = Option.none) (h : HWk K H) : HWk K (H.del b) := fun c ob e => by
  obtain ⟨ob', h1, h2⟩ := h c ob e
  refine ⟨ob', ?_, h2⟩
  unfold Heap.del
  rw [if_neg (fun hc => by subst hc; rw [hb] at e; cases e)]
  exact h1
theorem ba_ext {a b : ByteArray} (h : a.data.toList = b.data.toList) : a = b := by
  apply ByteArray.ext
  exact Array.ext' h
@[simp] theorem ba_size (l : List UInt8) : (⟨l.toArray⟩ : ByteArray).size = l.length := by
  show l.toArray.size = l.length
  simp
@[simp] theorem ba_list (l : List UInt8) : (⟨l.toArray⟩ : ByteArray).toList = l := by rw [ByteArray.toList_eq]
@[simp] theorem ba_append (l m : List UInt8) : (⟨l.toArray⟩ : ByteArray) ++ ⟨m.toArray⟩ = ⟨(l ++ m).toArray⟩ := by
  apply ba_ext
  rw [ByteArray.data_append]
  simp
@[simp] theorem ba_extract (l : List UInt8) (a b : Nat) : (⟨l.toArray⟩ : ByteArray).extract a b = ⟨((l.take b).drop a).toArray⟩ := by
  apply ba_ext
  rw [Lib.extract_data]
  simp [List.drop_take]
@[simp] theorem sbin_eql (l m : List UInt8) : sbin .eql ⟨l.toArray⟩ ⟨m.toArray⟩ = .val (.sc (.bool (l == m))) := by simp [sbin]
@[simp] theorem sbin_neq (l m : List UInt8) : sbin .neq ⟨l.toArray⟩ ⟨m.toArray⟩ = .val (.sc (.bool !(l == m))) := by simp [sbin]
@[simp] theorem sbin_add (l m : List UInt8) : sbin .add ⟨l.toArray⟩ ⟨m.toArray⟩ = if l.length + m.length ≤ 9223372036854775807 then .val (.sc (.string ⟨(l ++ m).toArray⟩)) else .stuck := by simp [sbin]
theorem ba_inj {l m : List UInt8} : ((⟨l.toArray⟩ : ByteArray) = ⟨m.toArray⟩) = (l = m) := by
  apply propext
  exact ⟨fun h => by rw [← ba_list l, h, ba_list], fun h => by rw [h]⟩
theorem AOk.kitStrs {vs : List Value} {l : List ByteArray} {T : TypeId} (hl : l.length ≤ maxLen) (h : ∀ (W0 : World) (C : Com) (w : World), Inv W0 C H w → Calls P f vs.toArray w fun e w' => e = .returned (.slice (some ⟨w.heap.size, 0, none⟩) l.length l.length) ∧ w' = w.alloc (.cells (l.map Value.string).toArray T)) :
    AOk P f (vs.map AV.sc) H (strsAV l) H := by
  intro W0 C w us hi ha
  obtain rfl := scs_of ha
  refine .inl ((h W0 C w hi).mono fun e w' ⟨h1, h2⟩ => ?_)
  obtain ⟨hI, hC⟩ := hi.allocCom (l.map Value.string) [] T (0, 0)
  simp only [List.append_nil] at hI
  subst h2
  refine ⟨_, _, _, _, h1, ⟨rfl, rfl⟩, hC, ?_, hI⟩
  have hlen : l.length = (l.map strAV).length := by simp
  rw [hlen]
  refine RelL.sl .no w.heap.size 0 _ 1 (by rw [flat_strs]; exact relL_scs _) (fun x hx => by obtain ⟨s, _, rfl⟩ := List.mem_map.1 hx; rfl) (fun u hu => by obtain ⟨s, _, rfl⟩ := List.mem_map.1 hu; rfl) (fun j u hu => commit_at hu) (by simp) (by simpa using hl) trivial .nil
theorem strs_open {l : List ByteArray} {t : Tok} {v : Value} (hi : Inv W0 C H w) (h : Rel C (.sl (l.map strAV) t) v) :
    ∃ a cap, v = .slice a l.length cap ∧ l.length ≤ cap ∧ cap ≤ maxLen ∧ (l = [] ∨ ∃ b o, a = some ⟨b, o, none⟩ ∧ b < w.heap.size ∧ ∀ (j : Nat) s, l[j]? = some s → w.cell? ⟨b, o + j, none⟩ = some (.string s)) := by
  have hk := h
  obtain ⟨a, cap, rfl, h1, h2⟩ := h.sl_form
  rw [List.length_map] at h1
  refine ⟨a, cap, by rw [List.length_map], h1, h2, ?_⟩
  cases l with
  | nil => exact .inl rfl
  | cons s0 l =>
    right
    unfold Rel at hk
    cases hk with
    | @sl _ _ _ us t b o cap sz h1 h2 h3 h4 h5 h6 h7 _ =>
      rw [flat_strs] at h1
      have hus := scs_of h1
      subst hus
      have h0 := h4 0 (.string s0) (by simp)
      exact ⟨b, o, rfl, com_lt hi h0, fun j s hs => hi.com _ _ _ (h4 j _ (by rw [List.getElem?_map, hs]; rfl))⟩
theorem Inv.ro (hi : Inv W0 C H w) {g : Nat} {us : List Value} (h : H g = some (.ro us)) {j : Nat} {u : Value} (hu : us[j]? = some u) : w.cell? ⟨g, j, none⟩ = some u :=
  hi.com _ _ _ ((hi.obj g _ h).2.2.2 j u hu)
end Rg
namespace Rg
open Go Go.RowKit Go.WideShapes Go.ChangeShapes
theorem returnsInHanded_of_change_and_shaped {H : Type} {enc : TypeId × Value → H} {a : Assume} {C : Checked} {os : Os} {f : FuncId} {fn : Func} {s : ChangeSpec} {conds : List PathCond} {apart fresh handsOn again : Bool} {X : World → Array Value → Prop}
    (hX : ∀ (w w' : World) (args : Array Value), w.heap = w'.heap → X w args → X w' args)
    (own : ownKnob C.prog.godebug = none) (started : os.Started) (noInit : C.prog.inits.idxOf? f = none) (hfn : C.prog.funcs[f]? = some fn)
    (witness : ∃ (w : World) (tape : Tape) (i : Input), w.os = os ∧ (w.forCall tape i).Shaped C.prog ∧ i.vars = [] ∧ Input.okWide C.prog (w.forCall tape i) .any w.heap.size f i ∧
      ((s.pre enc C.prog fn conds apart (w.forCall tape i).memory i.args ∧ X (w.forCall tape i).memory i.args) ∧ sizedMet enc C.prog fn (OpenSpec.ofChange s) apart (w.forCall tape i).memory i.args) ∧ a.holds C.prog (lone (Frame.enter C.prog f i.args .normal) [] (w.forCall tape i)))
    (contract : ∀ (W : World) (base : Nat) (args : Array Value) (ds gs : List (DataW H)) (before : List MemPlace),
      (∀ (j : Nat) t v, fn.params[j]? = some t → args[j]? = some v → Value.okWide C.prog W .any base t v) →
      DataW.Whole enc C.prog fn.params.toList s.vars apart W args.toList ds gs before → X W args → W.ShapedOpen C.prog →
      Calls C.prog f args W fun e W' => ∃ v, e = .returned v ∧ s.post enc C.prog fn apart fresh handsOn again W args v W') :
    ReturnsInHanded a C os f .any (fun w args => (s.pre enc C.prog fn conds apart w args ∧ X w args) ∧ sizedMet enc C.prog fn (OpenSpec.ofChange s) apart w args) (s.post enc C.prog fn apart fresh handsOn again) := by
  refine returnsInHanded_of_calls own started noInit witness ?_
  intro w tape i _ hsh _ hok hpre _
  obtain ⟨_, _, _, fn', hfn', _, _, _, _, hval⟩ := hok
  have e : fn' = fn := Option.some.inj (hfn'.symm.trans hfn)
  subst e
  obtain ⟨⟨⟨ds, gs, before, hw, _⟩, hx⟩, _⟩ := hpre
  have hw' := DataW.Whole.of_heap (w' := w.forCall tape i) (by rfl) hw
  refine (contract (w.forCall tape i) w.heap.size i.args ds gs before hval hw' (hX _ _ _ (by rfl) hx) hsh).mono fun e W' ⟨v, he, hp⟩ => ?_
  subst he
  exact ChangeSpec.post_blind hp
variable {P : Program}
def Reads (W : World) (H0 : Heap) : Prop := ∀ b ob, H0 b = some ob → ∃ us : List Value, ob = .ro us ∧ us ≠ [] ∧ (∀ u ∈ us, u.oneCell' = true) ∧ (∀ (j : Nat) u, us[j]? = some u → W.cell? ⟨b, j, none⟩ = some u) ∧ TabWhole W b us
theorem inv_start_ro {W : World} {H0 : Heap} (h : Reads W H0) : Inv W (comOf W) H0 W := by
  refine ⟨Below.refl _ _, fun _ _ _ h => h, fun b ob e => ?_⟩
  obtain ⟨us, rfl, h0, h1, h2, h3⟩ := h b ob e
  refine ⟨h3, ?_, h1, fun j u hu => h2 j u hu⟩
  cases us with
  | nil => exact absurd rfl h0
  | cons u us => exact World.block_lt_of_cell? W ⟨b, 0, none⟩ (h2 0 u rfl)
theorem law_contract2 {H : Type} {enc : TypeId × Value → H} {f : FuncId} {fn : Func} {s : ChangeSpec} {ts : List TypeId} {ss : List Sh} {rt : TypeId} {n : Nat} (hfn : P.funcs[f]? = some fn) (hts : fn.params.toList = ts) (hss : (ts.mapM fun t => shOf P n t) = some ss) (hrt : fn.resultTypes = #[rt]) (hbool : P.underlying rt = some .bool)
    (hvars : s.vars = []) (hspec : ∀ ds : List (DataW H), ds.length = ts.length → s.fn H ds = { results := [.lit (.bool true)], args := ds }) (hl : laidOutB P = true) (hread : (ts.all fun t => P.readableRec t && decide (t < P.types.size)) = true)
    (W : World) {H0 : Heap} (hH0 : Reads W H0)
    (hlaw : ∀ as, fitsAll ss as → ∃ K, AOk P f as H0 (.sc (.bool true)) K)
    (base : Nat) (args : Array Value) (ds gs : List (DataW H)) (before : List MemPlace)
    (hval : ∀ (j : Nat) t v, fn.params[j]? = some t → args[j]? = some v → Value.okWide P W .any base t v) (hW : DataW.Whole enc P fn.params.toList s.vars false W args.toList ds gs before) :
    Calls P f args W fun e W' => ∃ v, e = .returned v ∧ s.post enc P fn false true false false W args v W' := by
  have hlt := hW.lt
  have hW' := hW
  obtain ⟨p, q, hA, hV, rfl, hfz, hnd⟩ := hW
  rw [hvars] at hV
  have hV' := hV
  cases gs with
  | cons g gs => exact hV.elim
  | nil =>
  obtain rfl : q = [] := hV
  obtain ⟨hdl, as, hfit, hrel⟩ := open_args (r := .any) (base := base) hss (fun j t v ht hv => hval j t v (by rw [← hts] at ht; simpa using ht) (by simpa using hv)) (hts ▸ hA)
  obtain ⟨K, hlaw⟩ := hlaw as hfit
  have hcall := hlaw W (comOf W) W args.toList (inv_start_ro hH0) hrel
  rw [Array.toArray_toList] at hcall
  refine (hcall.calls (Array.getElem?_eq_some_iff.1 hfn).1).mono fun e W' ⟨r, H', C', v, he, ⟨hr, _⟩, _, hv, hinv⟩ => ?_
  subst hr
  obtain rfl := hv.sc_inv
  refine ⟨_, he, ds, [], p ++ [], [], p, [], hW', ?_, ?_, ?_, ?_, fun h => by cases h⟩
  · simp only [List.append_nil]
    rw [hspec ds hdl, hrt]
    exact ⟨[], [], ⟨1, by simp [DataW.trod, Value.cells, hbool]⟩, rfl, rfl⟩
  · simp only [List.append_nil]
    rw [hspec ds hdl, hts]
    rw [hts] at hA
    exact stay_args hl hinv.below hread hA (fun x hx => hlt x (by simp [hx])) fun x hx => by simpa using hlt x (by simp [hx])
  · rw [hvars]
    simp only [List.append_nil]
    rw [hspec ds hdl]
    exact rfl
  · exact World.keptBut_mono (fun x hx => hx) (hinv.below.frame _)
end Rg
