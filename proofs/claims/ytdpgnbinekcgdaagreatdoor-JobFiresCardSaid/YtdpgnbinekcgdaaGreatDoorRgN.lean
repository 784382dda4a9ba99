/- What a run hands back may be told weaker; loops by a measure; calls by contracts. -/
import Derived.Test.YtdpgnbinekcgdaaGreatDoorRgM
namespace Rg
open Go Go.RowKit

mutual
/-- The second value tells no more than the first. -/
def wk : AV → AV → Prop
  | .sc a, .sc b => a = b
  | .sl xs t, .sl ys t' => (t' = .no ∧ wkL xs ys) ∨ (t' = t ∧ xs = ys)
  | .agg as, .agg bs => wkL as bs
  | .tup as, .tup bs => wkL as bs
  | .ip cs o, .ip ds o' => wkL cs ds ∧ o = o'
  | _, _ => False
def wkL : List AV → List AV → Prop
  | [], [] => True
  | a :: as, b :: bs => wk a b ∧ wkL as bs
  | _, _ => False
end

theorem wkL_length : ∀ {as bs : List AV}, wkL as bs → as.length = bs.length
  | [], [], _ => rfl
  | a :: as, b :: bs, h => by simp only [wkL] at h; simp [wkL_length h.2]
  | [], _ :: _, h => by simp [wkL] at h
  | _ :: _, [], h => by simp [wkL] at h

theorem wkL_append : ∀ {as bs cs ds : List AV}, wkL as bs → wkL cs ds → wkL (as ++ cs) (bs ++ ds)
  | [], [], _, _, _, h => h
  | a :: as, b :: bs, _, _, h, k => by simp only [wkL, List.cons_append] at *; exact ⟨h.1, wkL_append h.2 k⟩
  | [], _ :: _, _, _, h, _ => by simp [wkL] at h
  | _ :: _, [], _, _, h, _ => by simp [wkL] at h

theorem wk_cells {a b : AV} (h : wk a b) : wkL a.cells b.cells := by
  cases a <;> cases b <;> simp only [wk] at h <;> simp only [AV.cells, wkL, wk] <;> first | exact h | exact ⟨h, trivial⟩

theorem wkL_flat : ∀ {as bs : List AV}, wkL as bs → wkL (as.flatMap AV.cells) (bs.flatMap AV.cells)
  | [], [], _ => by simp [wkL]
  | a :: as, b :: bs, h => by
    simp only [wkL] at h
    simp only [List.flatMap_cons]
    exact wkL_append (wk_cells h.1) (wkL_flat h.2)
  | [], _ :: _, h => by simp [wkL] at h
  | _ :: _, [], h => by simp [wkL] at h

theorem wkL_size {sz : Nat} : ∀ {as bs : List AV}, wkL as bs → (∀ x ∈ as, x.cells.length = sz) → ∀ x ∈ bs, x.cells.length = sz
  | [], [], _, _ => by simp
  | a :: as, b :: bs, h, hs => by
    simp only [wkL] at h
    intro x hx
    rcases List.mem_cons.1 hx with rfl | hx
    · rw [← wkL_length (wk_cells h.1)]; exact hs a (by simp)
    · exact wkL_size h.2 (fun y hy => hs y (by simp [hy])) x hx
  | [], _ :: _, h, _ => by simp [wkL] at h
  | _ :: _, [], h, _ => by simp [wkL] at h

theorem wkL_rel {C : Com} {as : List AV} {vs : List Value} (h : RelL C as vs) : ∀ bs, wkL as bs → RelL C bs vs := by
  induction h with
  | nil => intro bs hb; cases bs with | nil => exact .nil | cons b bs => simp [wkL] at hb
  | sc x _ ih =>
    intro bs hb
    cases bs with
    | nil => simp [wkL] at hb
    | cons b bs => cases b <;> simp [wkL, wk] at hb; obtain ⟨rfl, hb⟩ := hb; exact .sc _ (ih _ hb)
  | agg _ h1 _ ih1 ih2 =>
    intro bs hb
    cases bs with
    | nil => simp [wkL] at hb
    | cons b bs => cases b <;> simp [wkL, wk] at hb; exact .agg (ih1 _ hb.1) h1 (ih2 _ hb.2)
  | tup _ _ ih1 ih2 =>
    intro bs hb
    cases bs with
    | nil => simp [wkL] at hb
    | cons b bs => cases b <;> simp [wkL, wk] at hb; exact .tup (ih1 _ hb.1) (ih2 _ hb.2)
  | ip b k o _ h1 h2 _ ih1 ih2 =>
    intro bs hb
    cases bs with
    | nil => simp [wkL] at hb
    | cons b' bs => cases b' <;> simp [wkL, wk] at hb; obtain ⟨⟨h3, rfl⟩, h4⟩ := hb; exact .ip b k o (ih1 _ h3) h1 h2 (ih2 _ h4)
  | nils t ht _ ih =>
    intro bs hb
    cases bs with
    | nil => simp [wkL] at hb
    | cons b bs =>
      cases b <;> simp [wkL, wk] at hb
      rename_i ys t'
      obtain ⟨h1, h2⟩ := hb
      rcases h1 with ⟨rfl, h1⟩ | ⟨rfl, rfl⟩
      · cases ys with
        | nil => exact .nils _ rfl (ih _ h2)
        | cons y ys => simp [wkL] at h1
      · exact .nils _ ht (ih _ h2)
  | emp t a cap ht hm _ ih =>
    intro bs hb
    cases bs with
    | nil => simp [wkL] at hb
    | cons b bs =>
      cases b <;> simp [wkL, wk] at hb
      rename_i ys t'
      obtain ⟨h1, h2⟩ := hb
      rcases h1 with ⟨rfl, h1⟩ | ⟨rfl, rfl⟩
      · cases ys with
        | nil => exact .emp _ a cap (.inl rfl) hm (ih _ h2)
        | cons y ys => simp [wkL] at h1
      · exact .emp _ a cap ht hm (ih _ h2)
  | sl t b o cap sz h0 h1 h2 h3 h4 h5 h6 _ ih1 ih2 =>
    intro bs hb
    cases bs with
    | nil => simp [wkL] at hb
    | cons b' bs =>
      cases b' <;> simp [wkL, wk] at hb
      rename_i ys t'
      obtain ⟨hh, hr⟩ := hb
      rcases hh with ⟨rfl, hh⟩ | ⟨rfl, rfl⟩
      · have hl := wkL_length hh
        rw [hl] at h4 ⊢
        exact .sl _ b o cap sz (ih1 _ (wkL_flat hh)) (wkL_size hh h1) h2 h3 h4 h5 trivial (ih2 _ hr)
      · exact .sl _ b o cap sz h0 h1 h2 h3 h4 h5 h6 (ih2 _ hr)

theorem wk_refl (a : AV) : wk a a :=
  AV.rec (motive_1 := fun a => wk a a) (motive_2 := fun l => wkL l l) (fun _ => by simp [wk]) (fun _ _ _ => by simp [wk]) (fun _ h => by simpa [wk] using h) (fun _ h => by simpa [wk] using h) (fun _ _ h => by simpa [wk] using h)
    (by simp [wkL]) (fun _ _ h1 h2 => by simp only [wkL]; exact ⟨h1, h2⟩) a
theorem wkL_refl : ∀ l : List AV, wkL l l
  | [] => by simp [wkL]
  | a :: l => by simp only [wkL]; exact ⟨wk_refl a, wkL_refl l⟩
@[simp] theorem wk_same (a : AV) : wk a a = True := eq_true (wk_refl a)
@[simp] theorem wkL_same (a : List AV) : wkL a a = True := eq_true (wkL_refl a)
@[simp] theorem wk_sc {a b : Value} : wk (.sc a) (.sc b) = (a = b) := by simp [wk]
@[simp] theorem wk_no {xs ys : List AV} {t : Tok} : wk (.sl xs t) (.sl ys .no) = wkL xs ys := by
  simp only [wk, true_and, eq_iff_iff]
  exact ⟨fun h => h.elim id (fun h => h.2 ▸ wkL_refl _), .inl⟩
@[simp] theorem wk_agg {as bs : List AV} : wk (.agg as) (.agg bs) = wkL as bs := by simp [wk]
@[simp] theorem wk_tup {as bs : List AV} : wk (.tup as) (.tup bs) = wkL as bs := by simp [wk]
@[simp] theorem wk_ip {as bs : List AV} {o o' : Nat} : wk (.ip as o) (.ip bs o') = (wkL as bs ∧ o = o') := by simp [wk]
@[simp] theorem wkL_nil : wkL [] [] = True := by simp [wkL]
@[simp] theorem wkL_cons {a b : AV} {as bs : List AV} : wkL (a :: as) (b :: bs) = (wk a b ∧ wkL as bs) := by simp [wkL]
theorem wkL_map {α : Type} {f g : α → AV} : ∀ {l : List α}, (∀ e ∈ l, wk (f e) (g e)) → wkL (l.map f) (l.map g)
  | [], _ => by simp
  | a :: l, h => by simp only [List.map_cons, wkL_cons]; exact ⟨h a (by simp), wkL_map fun e he => h e (by simp [he])⟩

theorem wk_rel {C : Com} {a b : AV} {v : Value} (hw : wk a b) (h : Rel C a v) : Rel C b v := wkL_rel h [b] (by simp [hw])

variable {P : Program} {n : Nat} {Q : Post} {ρ : Nat → AV} {H : Heap} {k : List AItem} {f : FuncId} {args : List AV} {R : AV → Heap → Prop}

/-! ### Heaps, told weaker -/
def obW : AObj → AObj → Prop
  | .cells cs T, .cells ds T' => wkL cs ds ∧ T = T'
  | .open n cap sz T, .open n' cap' sz' T' => n = n' ∧ cap = cap' ∧ sz = sz' ∧ T = T'
  | .ro us, .ro vs => us = vs
  | .dfr, .dfr => True
  | .lrec r, .lrec s => r = s
  | _, _ => False
theorem obW_refl (o : AObj) : obW o o := by cases o <;> simp [obW]
/-- The first heap tells no more than the second. -/
def HWk (K H : Heap) : Prop := ∀ b ob, K b = some ob → ∃ ob', H b = some ob' ∧ obW ob' ob
theorem HLe.wk {K H : Heap} (h : HLe K H) : HWk K H := fun b ob e => ⟨ob, h b ob e, obW_refl ob⟩
theorem HWk.refl (H : Heap) : HWk H H := (HLe.refl H).wk
@[simp] theorem HWk_same {H : Heap} : HWk H H = True := eq_true (HWk.refl H)
theorem obW_trans {a b c : AObj} (h : obW a b) (k : obW b c) : obW a c := by
  have tr : ∀ {x y z : List AV}, wkL x y → wkL y z → wkL x z := by
    intro x y z
    have key : (∀ a : AV, ∀ b c, wk a b → wk b c → wk a c) := fun a =>
      AV.rec (motive_1 := fun a => ∀ b c, wk a b → wk b c → wk a c) (motive_2 := fun l => ∀ m n, wkL l m → wkL m n → wkL l n)
        (fun v b c h k => by cases b <;> simp [wk] at h; subst h; exact k)
        (fun xs t ih b c h k => by
          cases b with
          | sl ys t' =>
            cases c with
            | sl zs t'' =>
              simp only [wk] at h k ⊢
              rcases k with ⟨rfl, k⟩ | ⟨rfl, rfl⟩
              · rcases h with ⟨rfl, h⟩ | ⟨rfl, rfl⟩
                · exact .inl ⟨rfl, ih _ _ h k⟩
                · exact .inl ⟨rfl, k⟩
              · rcases h with ⟨rfl, h⟩ | ⟨rfl, rfl⟩
                · exact .inl ⟨rfl, h⟩
                · exact .inr ⟨rfl, rfl⟩
            | _ => simp [wk] at k
          | _ => simp [wk] at h)
        (fun cs ih b c h k => by cases b <;> simp [wk] at h; cases c <;> simp [wk] at k; simpa using ih _ _ h k)
        (fun cs ih b c h k => by cases b <;> simp [wk] at h; cases c <;> simp [wk] at k; simpa using ih _ _ h k)
        (fun cs o ih b c h k => by cases b <;> simp [wk] at h; cases c <;> simp [wk] at k; simpa using ⟨ih _ _ h.1 k.1, h.2.trans k.2⟩)
        (fun m n h k => by cases m <;> simp [wkL] at h; exact k)
        (fun a l iha ihl m n h k => by
          cases m <;> simp [wkL] at h
          cases n <;> simp [wkL] at k
          simpa using ⟨iha _ _ h.1 k.1, ihl _ _ h.2 k.2⟩) a
    induction x generalizing y z with
    | nil => intro h k; cases y <;> simp [wkL] at h; exact k
    | cons a x ih =>
      intro h k
      cases y <;> simp [wkL] at h
      cases z <;> simp [wkL] at k
      simpa using ⟨key _ _ _ h.1 k.1, ih h.2 k.2⟩
  cases a <;> cases b <;> simp [obW] at h <;> cases c <;> simp [obW] at k <;> simp [obW]
  · exact ⟨tr h.1 k.1, h.2.trans k.2⟩
  · exact ⟨h.1.trans k.1, h.2.1.trans k.2.1, h.2.2.1.trans k.2.2.1, h.2.2.2.trans k.2.2.2⟩
  · exact h.trans k
  · exact h.trans k
theorem HWk.trans {A B D : Heap} (h : HWk A B) (k : HWk B D) : HWk A D := fun b ob e => by
  obtain ⟨o1, h1, h2⟩ := h b ob e
  obtain ⟨o2, k1, k2⟩ := k b o1 h1
  exact ⟨o2, k1, obW_trans k2 h2⟩
theorem HWk.new {K H : Heap} {b : Nat} {o : AObj} (hb : K b = none) (h : HWk K H) : HWk K (H.set b o) := fun c ob e => by
  have hc : c ≠ b := by rintro rfl; rw [hb] at e; cases e
  simpa [hc] using h c ob e
theorem HWk.sets {K H : Heap} {b : Nat} {cs ds : List AV} {T : TypeId} (hw : wkL cs ds) (h : HWk K H) : HWk (K.set b (.cells ds T)) (H.set b (.cells cs T)) := fun c ob e => by
  by_cases hc : c = b
  · subst hc; simp at e; subst e; exact ⟨.cells cs T, by simp, by simp [obW, hw]⟩
  · simp [hc] at e; simpa [hc] using h c ob e
theorem HWk.at_ {K H : Heap} {b : Nat} {cs ds : List AV} {T : TypeId} (hb : H b = some (.cells cs T)) (hw : wkL cs ds) (h : HWk K H) : HWk (K.set b (.cells ds T)) H := fun c ob e => by
  by_cases hc : c = b
  · subst hc; simp at e; subst e; exact ⟨_, hb, by simp [obW, hw]⟩
  · simp [hc] at e; exact h c ob e
theorem HWk.none {K H : Heap} (h : HWk K H) {b : Nat} (hb : H b = none) : K b = none := by
  cases ha : K b with
  | none => rfl
  | some o => obtain ⟨_, h1, _⟩ := h b o ha; rw [hb] at h1; cases h1

theorem ObjOk.wk {C : Com} {w : World} {b : Nat} {o o' : AObj} (h : ObjOk C w b o) (hw : obW o o') : ObjOk C w b o' := by
  cases o <;> cases o' <;> simp only [obW] at hw
  · obtain ⟨hw, rfl⟩ := hw
    obtain ⟨vs, h1, h2, h3, h4⟩ := h
    exact ⟨vs, h1, wkL_rel h2 _ hw, h3, h4⟩
  · obtain ⟨rfl, rfl, rfl, rfl⟩ := hw
    exact h
  · subst hw; exact h
  · exact h
  · subst hw; exact h
theorem base_wk {W0 : World} {b : Nat} {o o' : AObj} (h : o.base W0 b) (hw : obW o o') : o'.base W0 b := by
  cases o <;> cases o' <;> simp [obW] at hw <;> first | exact h | trivial

theorem Inv.wk {W0 w : World} {C : Com} {K H : Heap} (h : Inv W0 C H w) (hw : HWk K H) : Inv W0 C K w :=
  ⟨h.below, h.com, fun b ob e => by
    obtain ⟨o', h1, h2⟩ := hw b ob e
    exact ⟨base_wk (h.obj b o' h1).1 h2, (h.obj b o' h1).2.wk h2⟩⟩

/-! ### Calls -/
/-- Told weaker. -/
def Wkn (R : AV → Heap → Prop) (r : AV) (K : Heap) : Prop := ∃ r' K0, wk r r' ∧ HWk K0 K ∧ R r' K0

theorem ACalls.weaken (h : ACalls P f args H (Wkn R)) : ACalls P f args H R :=
  fun W0 C w vs hi ha => (h W0 C w vs hi ha).mono fun _ _ ⟨_, _, C', v, h1, ⟨r', K0, h2, h3, h4⟩, h5, h6, h7⟩ => ⟨r', K0, C', v, h1, h4, h5, wk_rel h2 h6, h7.wk h3⟩

theorem ACalls.argsW {args' : List AV} {H' : Heap} (h : ACalls P f args' H' R) (hw : wkL args args') (hl : HWk H' H) : ACalls P f args H R :=
  fun W0 C w vs hi ha => h W0 C w vs (hi.wk hl) (wkL_rel ha _ hw)

/-- It gives this value and leaves this heap. -/
def ROk (v : AV) (K : Heap) : AV → Heap → Prop := fun r K' => r = v ∧ K' = K
def AOk (P : Program) (f : FuncId) (args : List AV) (H : Heap) (v : AV) (K : Heap) : Prop := ACalls P f args H (ROk v K)

/-- A slice of which nothing is known is nil, or it is not. -/
theorem ACalls.nilCase {pre post : List AV} {xs : List AV} (h1 : xs = [] → ACalls P f (pre ++ .sl [] .nil :: post) H R) (h2 : ACalls P f (pre ++ .sl xs .live :: post) H R) : ACalls P f (pre ++ .sl xs .no :: post) H R := by
  intro W0 C w vs hi ha
  obtain ⟨us, ws, rfl, ha1, ha2⟩ := RelL.split ha
  obtain ⟨v, ws', rfl, hv, hr⟩ := ha2.uncons
  rcases hv.nilCase with ⟨rfl, hv2⟩ | hv2
  · exact h1 rfl W0 C w _ hi (ha1.append (RelL.cons hv2 hr))
  · exact h2 W0 C w _ hi (ha1.append (RelL.cons hv2 hr))

section
variable {full : Array Oper} {dst : Option Tmp} {r l rest : List Oper}
theorem ACall.use {args' : List AV} {H' : Heap} (h : ACalls P f args' H' R) (hw : wkL args args') (hl : HWk H' H) (c : ∀ v K, R v K → AGo P n Q (.ops full r :: k) (aput n dst v ρ) K) : ACall P n Q full dst r k ρ H f args := ⟨R, ACalls.argsW h hw hl, c⟩
theorem ACall.ok {args' : List AV} {v : AV} {K : Heap} (h : AOk P f args' H v K) (hw : wkL args args') (c : AGo P n Q (.ops full r :: k) (aput n dst v ρ) K) : ACall P n Q full dst r k ρ H f args :=
  ⟨_, ACalls.argsW h hw (HWk.refl _), fun v' K' ⟨e1, e2⟩ => by subst e1; subst e2; exact c⟩
theorem ACall.eq {v : AV} {K : Heap} (h : AOk P f args H v K) (c : AGo P n Q (.ops full r :: k) (aput n dst v ρ) K) : ACall P n Q full dst r k ρ H f args := ACall.ok h (wkL_refl _) c
theorem AQS.eq {v : AV} (h : AOk P f args H v H) (c : AQK P n Q full l rest k (aput n dst v ρ) H) : AQS P n Q full dst l rest k ρ H (.call f args) := ⟨v, h, c⟩
theorem AQS.ok {args' : List AV} {v : AV} (h : AOk P f args' H v H) (hw : wkL args args') (c : AQK P n Q full l rest k (aput n dst v ρ) H) : AQS P n Q full dst l rest k ρ H (.call f args) := ⟨v, ACalls.argsW h hw (HWk.refl _), c⟩
end

/-! ### Ends -/
def AFin (R : AV → Heap → Prop) (v : AV) (H : Heap) : Prop := Wkn R v H
def AOut (o : Option (List AV)) (R : AV → Heap → Prop) (H : Heap) : Prop :=
  match o with
  | some vs => AFin R (apack vs) H
  | none => False
@[congr] theorem AOut_congr {o o' : Option (List AV)} (h : o = o') (R : AV → Heap → Prop) (H : Heap) : AOut o R H = AOut o' R H := by rw [h]
@[congr] theorem AFin_congr {v v' : AV} (h : v = v') (R : AV → Heap → Prop) (H : Heap) : AFin R v H = AFin R v' H := by rw [h]
@[simp] theorem AOut_some {vs : List AV} : AOut (some vs) R H = AFin R (apack vs) H := rfl
@[simp] theorem AEnd_nrm {rs : List ResultVar} {R : AV → Heap → Prop} : (AEnd P rs R).nrm = AEndP P rs R := rfl
@[simp] theorem AEnd_ret {rs : List ResultVar} {R : AV → Heap → Prop} : (AEnd P rs R).ret = AEndP P rs R := rfl
@[simp] theorem AEnd_ro {rs : List ResultVar} {R : AV → Heap → Prop} : (AEnd P rs R).ro = none := rfl
@[simp] theorem AEnd_out {rs : List ResultVar} : AEndP P rs (Wkn R) ρ H = AOut (ares P ρ H rs) R H := by
  unfold AEndP AOut AFin
  apply propext
  constructor
  · rintro ⟨vs, H0, h1, h2, r', K0, h3, h4, h5⟩
    rw [h1]
    exact ⟨r', K0, h3, h4.trans h2.wk, h5⟩
  · intro h
    cases ho : ares P ρ H rs with
    | none => rw [ho] at h; exact h.elim
    | some vs => rw [ho] at h; exact ⟨vs, H, rfl, HLe.refl _, h⟩
theorem AFin_ok {v x : AV} {K : Heap} : AFin (ROk v K) x H = (wk x v ∧ HWk K H) := by
  unfold AFin Wkn ROk
  apply propext
  constructor
  · rintro ⟨_, _, h1, h2, rfl, rfl⟩; exact ⟨h1, h2⟩
  · rintro ⟨h1, h2⟩; exact ⟨_, _, h1, h2, rfl, rfl⟩
attribute [simp] AFin_ok
@[simp] theorem HLe_same {H : Heap} : HLe H H = True := eq_true (HLe.refl H)
theorem AFin.intro {x : AV} (v : AV) (K : Heap) (h1 : wk x v) (h2 : HWk K H) (h3 : R v K) : AFin R x H := ⟨v, K, h1, h2, h3⟩

/-- The way into a function; what it hands back may be told weaker. -/
theorem ACalls.into {fn : Func} {c : Code} {n : Nat} {rs : Array ResultVar} (hf : P.funcs[f]? = some fn) (hb : fn.body = some c) (hn : fn.ntmps = n) (hr : fn.results = rs) (hl : args.length ≤ n)
    (h : AGo P n (AEnd P rs.toList (Wkn R)) [.code c] (ainit args) H) : ACalls P f args H R :=
  ACalls.weaken (ACalls.enter hf hb hn hr hl h)

@[simp] theorem ncast_neg (j : Nat) : ((j : Int) < 0) = False := eq_false (by omega)
@[simp] theorem ncast_pos (j : Nat) : ((0 : Int) ≤ (j : Int)) = True := eq_true (by omega)

@[simp] theorem take_len_map {α β : Type} (f : α → β) (l : List α) : (l.map f).take l.length = l.map f := List.take_of_length_le (by simp)

/-! ### Loops -/
/-- A loop by a measure: what holds at its head, again and again. -/
theorem AGo.rounds {c : Code} (I : Nat → (Nat → AV) → Heap → Prop)
    (h : ∀ m ρ H, (∀ m' ρ' H', m' < m → I m' ρ' H' → AGo P n Q (.lp c :: k) ρ' H') → I m ρ H → AGo P n Q (.code c :: .lp c :: k) ρ H) {m : Nat} {ρ : Nat → AV} {H H0 : Heap} (hl : HLe H0 H) (hi : I m ρ H0) : AGo P n Q (.lp c :: k) ρ H := by
  have key : ∀ m ρ H, I m ρ H → AGo P n Q (.lp c :: k) ρ H := by
    intro m
    induction m using Nat.strongRecOn with
    | ind m ih => exact fun ρ H hi => go_lp.2 ⟨H, ρ, HLe.refl H, NilF.refl ρ, h m ρ H (fun m' ρ' H' hm hi' => ih m' hm ρ' H' hi') hi⟩
  exact go_lp.2 ⟨H0, ρ, hl, NilF.refl ρ, h m ρ H0 (fun m' ρ' H' _ hi' => key m' ρ' H' hi') hi⟩

/-- The same as rounds, with nil slices told as bare ones. -/
theorem AGo.roundsN {c : Code} (I : Nat → (Nat → AV) → Heap → Prop)
    (h : ∀ m ρ H, (∀ m' ρ' H', m' < m → I m' ρ' H' → AGo P n Q (.lp c :: k) ρ' H') → I m ρ H → AGo P n Q (.code c :: .lp c :: k) ρ H) {m : Nat} {ρ : Nat → AV} {H : Heap} (ρ0 : Nat → AV) (hn : NilF ρ0 ρ) (hi : I m ρ0 H) : AGo P n Q (.lp c :: k) ρ H := by
  have key : ∀ m ρ H, I m ρ H → AGo P n Q (.lp c :: k) ρ H := by
    intro m
    induction m using Nat.strongRecOn with
    | ind m ih => exact fun ρ H hi => go_lp.2 ⟨H, ρ, HLe.refl H, NilF.refl ρ, h m ρ H (fun m' ρ' H' hm hi' => ih m' hm ρ' H' hi') hi⟩
  exact go_lp.2 ⟨H, ρ0, HLe.refl H, hn, h m ρ0 H (fun m' ρ' H' _ hi' => key m' ρ' H' hi') hi⟩

/-- A round's end. -/
theorem AGo.again {c : Code} {I : Nat → (Nat → AV) → Heap → Prop} {m : Nat} (ih : ∀ m' ρ' H', m' < m → I m' ρ' H' → AGo P n Q (.lp c :: k) ρ' H') {m' : Nat} (hm : m' < m) {H0 : Heap} (hl : HLe H0 H) (hi : I m' ρ H0) : AGo P n Q (.lp c :: k) ρ H := by
  obtain ⟨H1, ρ1, h1, hn, h2⟩ := go_lp.1 (ih m' ρ H0 hm hi)
  exact go_lp.2 ⟨H1, ρ1, h1.trans hl, hn, h2⟩

/-! ### A slice that a loop appends to -/
/-- From nothing on: it is nil yet, or lies in a row of the call's own. -/
def Grows (H0 : Heap) (xs : List AV) (sz : Nat) (e : TypeId) (t : Tok) (K : Heap) : Prop :=
  (xs = [] ∧ t = .nil ∧ K = H0) ∨ ∃ g cap, H0 g = none ∧ t = .own g cap sz e ∧ K = H0.set g (.open xs.length cap sz e)

theorem Grows.zero {H0 : Heap} {sz : Nat} {e : TypeId} : Grows H0 [] sz e .nil H0 := .inl ⟨rfl, rfl, rfl⟩
theorem Grows.le {H0 K : Heap} {xs : List AV} {sz : Nat} {e : TypeId} {t : Tok} (h : Grows H0 xs sz e t K) : HLe H0 K := by
  rcases h with ⟨_, _, rfl⟩ | ⟨g, cap, h1, _, rfl⟩
  · exact HLe.refl _
  · exact (HLe.refl _).set_new h1

theorem HLe.none {A B : Heap} (h : HLe A B) {b : Nat} (hb : B b = none) : A b = none := by
  cases ha : A b with
  | none => rfl
  | some o => rw [h b o ha] at hb; cases hb

theorem AApp.grows {full : Array Oper} {dst : Option Tmp} {r : List Oper} {T e : TypeId} {xs ys : List AV} {t : Tok} {sz by_ : Nat} {H0 K : Heap} (he : ElemOk P T e sz by_) (hg : Grows H0 xs sz e t K) (hl : HLe K H)
    (h0 : ys ≠ []) (hx : szs sz xs = true) (hy : szs sz ys = true) (hb : (xs.length + ys.length) * by_ ≤ 140737488355328) (hm : xs.length + ys.length ≤ maxLen)
    (h : ∀ t' K' Hn, Grows H0 (xs ++ ys) sz e t' K' → HLe K' Hn → AGo P n Q (.ops full r :: k) (aput n dst (.sl (xs ++ ys) t') ρ) Hn) : AApp P n Q full dst r k ρ H T e xs t ys := by
  rcases hg with ⟨rfl, rfl, rfl⟩ | ⟨g, cap, h1, rfl, rfl⟩
  · refine AApp.new he (.inl rfl) h0 hx hy hb hm fun g cap hgn => h _ (K.set g (.open ([].length + ys.length) cap sz e)) _ (.inr ⟨g, cap, hl.none hgn, rfl, by simp⟩) hl.set_mono
  · refine AApp.own he (hl g _ (by simp [Heap.set])) hx hy hb hm fun g' cap' hgn => h _ (H0.set g' (.open (xs.length + ys.length) cap' sz e)) _ (.inr ⟨g', cap', ?_, rfl, by simp⟩) ?_
    · by_cases hgg : g' = g
      · subst hgg; exact h1
      · refine ((HLe.refl H0).set_new h1 |>.trans hl).none ?_
        simpa [Heap.del, hgg] using hgn
    · refine HLe.set_mono fun c ob hc => ?_
      have hcg : c ≠ g := by rintro rfl; rw [h1] at hc; cases hc
      simp only [Heap.del, if_neg hcg]
      exact ((HLe.refl H0).set_new h1 |>.trans hl) c ob hc

end Rg
