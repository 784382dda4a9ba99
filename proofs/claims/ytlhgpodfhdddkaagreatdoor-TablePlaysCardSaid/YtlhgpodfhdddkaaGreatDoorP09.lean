/- Rows that are changed in place: a slot holds the bare slice, the heap the row's cells. Regions that draw their order, walked by hand: those that only give values are put first, then each order that is left. Rows changed in place: append of many; cells told as bare ones; what is handed over is changed no more. -/
import Derived.Test.YtlhgpodfhdddkaaGreatDoorP08
set_option linter.unusedSimpArgs false
set_option linter.unusedVariables false
set_option linter.unnecessarySimpa false
namespace Rg
open Go Go.RowKit
variable {P : Program} {W0 w : World} {C : Com} {H : Heap} {n : Nat} {Q : Post} {ρ : Nat → AV} {k : List AItem}
theorem zero_one {z : Value} (hz : ∀ q ∈ z.cells.toList, q.oneCell' = true) (h0 : 0 < z.cells.size) (m : Nat) : ∀ q ∈ (Builtin.zeroCells z.cells m).toList, q.oneCell' = true := by
  intro q hq
  simp only [Builtin.zeroCells, Array.toList_map, List.mem_map] at hq
  obtain ⟨i, _, rfl⟩ := hq
  have hlt : i % z.cells.size < z.cells.size := Nat.mod_lt _ h0
  rw [getElem!_pos z.cells _ hlt]
  exact hz _ (Array.getElem_mem_toList hlt)
theorem Inv.setRow (h : Inv W0 C H w) {g : Nat} {cs cs' : List AV} {e : TypeId} (hg : H g = some (.cells cs e)) {row : List Value} (hr : RelL C cs' row) (h1 : ∀ v ∈ row, v.oneCell' = true) :
    Inv W0 C (H.set g (.cells cs' e)) (w.setRow g row.toArray) := by
  obtain ⟨hb, vs, hv, _, _, hC⟩ := h.obj _ _ hg
  have hW : W0.heap.size ≤ g := hb
  have hsame : ∀ k, k ≠ g → (w.setRow g row.toArray).heap[k]? = w.heap[k]? := fun k hk => setRow_other w g k row.toArray hk
  have hnew : (w.setRow g row.toArray).heap[g]? = some (.cells row.toArray e (0, 0)) := setRow_heap w g vs.toArray row.toArray e _ hv
  refine ⟨h.below.trans ⟨rfl, rfl, rfl, by simp [World.setRow], fun k hk => hsame k (by omega)⟩, ?_, ?_⟩
  · intro b o u hc
    have hb' : b ≠ g := by rintro rfl; rw [hC] at hc; cases hc
    rw [World.cell?_of_block (w := w) (a := ⟨b, o, none⟩) (hsame b hb')]
    exact h.com b o u hc
  · intro b ob hob
    unfold Heap.set at hob
    by_cases hbg : b = g
    · rw [if_pos hbg] at hob; cases hob; subst hbg
      exact ⟨hb, row, hnew, hr, h1, hC⟩
    · rw [if_neg hbg] at hob
      exact ⟨(h.obj b ob hob).1, (h.obj b ob hob).2.heap (hsame b hbg)⟩
def RawRow (H0 : Heap) (e : TypeId) (xs : List AV) (v : AV) (K : Heap) : Prop :=
  HLe H0 K ∧ ((xs = [] ∧ v = .sc (.slice none 0 0)) ∨ ∃ g zs, H0 g = none ∧ v = .sc (.slice (some ⟨g, 0, none⟩) xs.length (xs.length + zs.length)) ∧ K g = some (.cells (xs ++ zs) e) ∧ xs.length + zs.length ≤ maxLen)
theorem RawRow.none {H0 : Heap} {e : TypeId} : RawRow H0 e [] (.sc (.slice none 0 0)) H0 := ⟨HLe.refl _, .inl ⟨rfl, rfl⟩⟩
theorem app_raw {T e : TypeId} {by_ : Nat} (he : ElemOk P T e 1 by_) (hz : ∀ z, tzero P e = some z → ∀ q ∈ z.cells.toList, q.oneCell' = true) {H0 K : Heap} {xs : List AV} {v y : AV} {t : Tok} (hr : RawRow H0 e xs v K)
    (hy : y.cells = [y]) (hb : (xs.length + 1) * by_ ≤ 140737488355328) (hm : xs.length + 1 ≤ maxLen) :
    ACalls P P.funcs.size [.sc (.int .i64 ((T : Nat) : Int)), v, .sl [y] t] K (fun v' K' => RawRow H0 e (xs ++ [y]) v' K') := by
  intro W0 C w vs hi hargs
  obtain ⟨q0, us, rfl, h0, ar1⟩ := hargs.uncons
  obtain rfl := h0.sc_inv
  obtain ⟨u, us', rfl, hu, ar2⟩ := ar1.uncons
  obtain ⟨v2, us'', rfl, hv, ar3⟩ := ar2.uncons
  obtain rfl := ar3.nil_inv
  refine .inr (.inl ⟨rfl, T, u, v2, rfl, fun ty => ?_⟩)
  obtain ⟨i, z, hinf, hsz, hby, hz1, hz2⟩ := he.info
  have hT := telem_spec he.el
  have htz : tzero P e = some z := by unfold tzero; rw [hinf]; simpa using hz1
  have hys : szs 1 [y] = true := by simp [szs, hy]
  obtain ⟨b, o, cp, news, rfl, n1, n2, n3, _, n5⟩ := src_cells hi hv hys (by simp)
  simp only [List.flatMap_cons, List.flatMap_nil, List.append_nil, hy] at n1
  simp only [List.length_singleton, Nat.one_mul] at n3 n5
  have hm' : xs.length + 1 ≤ 9223372036854775807 := by simpa [maxLen] using hm
  obtain ⟨hle, hcase⟩ := hr
  have new : ∀ (olds : List Value) (cap : Nat), RelL C xs olds → (∀ q ∈ olds, q.oneCell' = true) → xs.length + 1 ≤ cap → cap ≤ maxLen →
      ∃ K', Inv W0 C K' (w.drew.alloc (.cells (olds.toArray ++ news.toArray ++ Builtin.zeroCells z.cells (cap - (xs.length + 1))) e)) ∧
        RawRow H0 e (xs ++ [y]) (.sc (.slice (some ⟨w.heap.size, 0, none⟩) (xs.length + 1) cap)) K' := by
    intro olds cap hro ho1 hcap hcapm
    obtain ⟨zl, hzl⟩ : ∃ zl, (Builtin.zeroCells z.cells (cap - (xs.length + 1))).toList = zl := ⟨_, rfl⟩
    have hzlen : zl.length = cap - (xs.length + 1) := by rw [← hzl, Array.length_toList, size_zeroCells, hz2]; simp
    have hz1c : ∀ q ∈ zl, q.oneCell' = true := by rw [← hzl]; exact zero_one (hz z htz) (by omega) _
    have hI := hi.draw.allocObj (xs ++ [y] ++ zl.map .sc) (olds ++ news ++ zl) e ((hro.append n1).append (relL_scs zl)) (by
      intro q hq
      rcases List.mem_append.1 hq with hq | hq
      · rcases List.mem_append.1 hq with hq | hq
        · exact ho1 q hq
        · exact n2 q hq
      · exact hz1c q hq)
    have hf : K w.heap.size = none := hi.heap_fresh
    refine ⟨K.set w.heap.size (.cells (xs ++ [y] ++ zl.map .sc) e), ?_, hle.trans (HLe.set_fresh hf), .inr ⟨w.heap.size, zl.map .sc, HLe.none hle hf, ?_, ?_, ?_⟩⟩
    · have ea : (olds.toArray ++ news.toArray ++ Builtin.zeroCells z.cells (cap - (xs.length + 1))) = (olds ++ news ++ zl).toArray := by
        rw [← hzl]; exact list_arr3 _ _ _
      rw [ea]
      exact hI
    · simp [hzlen]
      omega
    · simp [Heap.set]
    · simp only [List.length_append, List.length_singleton, List.length_map, hzlen]
      omega
  rcases hcase with ⟨rfl, rfl⟩ | ⟨g, zs, hg0, rfl, hKg, hKm⟩
  · obtain rfl := hu.sc_inv
    simp only [List.length_nil, Nat.zero_add] at hm' hb
    have hrun := run_append_nil (P := P) w T ty e i z hT hinf hz1 ⟨b, o, none⟩ 1 cp news (by rw [n3, hsz]) n5 (by omega) (by omega) (by omega)
    obtain ⟨K', hI, hR⟩ := new [] (grownCap w 1 0 e) .nil (by simp) (grownCap_ge w 1 0 e) (grownCap_le_maxLen w 1 0 e (by simp [maxLen]))
    simp only [List.length_nil, Nat.zero_add] at hI hR
    have ea : ((#[] : Array Value) ++ news.toArray) = news.toArray := by simp
    rw [show ([] : List Value).toArray = #[] from rfl, ea] at hI
    exact ⟨_, _, hrun, _, _, C, _, rfl, hR, CLe.refl C, Rel.sc _, hI⟩
  · obtain rfl := hu.sc_inv
    obtain ⟨_, vs0, hv0, hrel0, hone0, _⟩ := hi.obj _ _ hKg
    have hvl := hrel0.length
    rw [List.length_append] at hvl
    obtain ⟨o1, o2, rfl, hr1, hr2⟩ := hrel0.split
    have l1 := hr1.length
    have l2 := hr2.length
    have hone1 : ∀ q ∈ o1, q.oneCell' = true := fun q hq => hone0 q (List.mem_append.2 (.inl hq))
    have hone2 : ∀ q ∈ o2, q.oneCell' = true := fun q hq => hone0 q (List.mem_append.2 (.inr hq))
    by_cases hroom : xs.length + 1 ≤ xs.length + zs.length
    · have hrun := run_append_room (P := P) w T ty e i hT hinf g xs.length (xs.length + zs.length) _ hv0 ⟨b, o, none⟩ 1 cp news (by rw [n3, hsz]) n5 n2 hroom (by simp [hsz, n3]; omega)
      cases zs with
      | nil => exact absurd hroom (by simp)
      | cons z0 zs =>
        cases o2 with
        | nil => simp at l2
        | cons w0 o2 =>
          obtain ⟨_, _, hh, _, hr2'⟩ := hr2.uncons
          cases hh
          have erow : ((o1 ++ w0 :: o2).toArray.toList.take (xs.length * i.size) ++ news ++ (o1 ++ w0 :: o2).toArray.toList.drop (xs.length * i.size + news.length)).toArray = (o1 ++ news ++ o2).toArray := by
            rw [hsz, n3, Nat.mul_one, l1]
            simp
          rw [erow] at hrun
          have hI := hi.setRow hKg (cs' := xs ++ [y] ++ zs) (row := o1 ++ news ++ o2) ((hr1.append n1).append hr2') (by
            intro q hq
            rcases List.mem_append.1 hq with hq | hq
            · rcases List.mem_append.1 hq with hq | hq
              · exact hone1 q hq
              · exact n2 q hq
            · exact hone2 q (List.mem_cons_of_mem _ hq))
          refine ⟨_, _, hrun, _, _, C, _, rfl, ⟨?_, .inr ⟨g, zs, hg0, ?_, ?_, ?_⟩⟩, CLe.refl C, Rel.sc _, hI⟩
          · exact HLe.set_new hle hg0
          · simp
            omega
          · simp [Heap.set]
          · simp only [List.length_append, List.length_cons, List.length_nil] at hKm ⊢
            omega
    · have hzs0 : zs = [] := by
        cases zs with
        | nil => rfl
        | cons z0 zs => simp at hroom
      subst hzs0
      simp only [List.length_nil, Nat.add_zero] at *
      have hcap := grownCap_ge w (xs.length + 1) xs.length e
      have ho2 : o2 = [] := by cases o2 with | nil => rfl | cons a b => simp at l2
      subst ho2
      simp only [List.append_nil] at hv0
      have hrun := run_append_grow (P := P) w T ty e i z hT hinf hz1 ⟨g, 0, none⟩ xs.length xs.length o1 (by rw [hsz]; omega) (fun j q hq => by
          rw [addr_add, Nat.zero_add, cell_of_row w g j _ e _ hv0]
          simpa using hq) ⟨b, o, none⟩ 1 cp news (by rw [n3, hsz]) n5 (by omega) (by omega) (growslice_fits (by omega) (by rw [hby]; exact hb))
      obtain ⟨K', hI, hR⟩ := new o1 (grownCap w (xs.length + 1) xs.length e) hr1 hone1 hcap (grownCap_le_maxLen w (xs.length + 1) xs.length e hm)
      exact ⟨_, _, hrun, _, _, C, _, rfl, hR, CLe.refl C, Rel.sc _, hI⟩
theorem ACalls.freeze {f : FuncId} {args : List AV} {H0 : Heap} {e : TypeId} {X : List AV → Prop} (hx : ∀ xs, X xs → ∀ x ∈ xs, x.cells = [x])
    (h : ACalls P f args H (fun v K => ∃ xs, X xs ∧ RawRow H0 e xs v K)) :
    ACalls P f args H (fun v K => ∃ xs, X xs ∧ v = .sl xs .no ∧ HLe H0 K) := by
  intro W0 C w vs hi hargs
  refine (h W0 C w vs hi hargs).mono fun e1 w1 ⟨r, H', C', u, he1, ⟨xs, hX, hle, hcase⟩, hC, hrel, hI⟩ => ?_
  rcases hcase with ⟨rfl, rfl⟩ | ⟨g, zs, hg0, rfl, hKg, hKm⟩
  · obtain rfl := hrel.sc_inv
    exact ⟨.sl [] .no, H', C', _, he1, ⟨[], hX, rfl, hle⟩, hC, .nils _ rfl .nil, hI⟩
  · obtain rfl := hrel.sc_inv
    obtain ⟨hb, vs0, hv0, hrel0, hone0, hC0⟩ := hI.obj _ _ hKg
    obtain ⟨o1, o2, rfl, hr1, hr2⟩ := hrel0.split
    have l1 := hr1.length
    have hCC : CLe C' (commit C' g 0 o1) := commit_le fun k _ _ => hC0 k
    have hI2 : Inv W0 (commit C' g 0 o1) (H'.del g) w1 := by
      refine ⟨hI.below, fun b o u hc => ?_, fun b ob hob => ?_⟩
      · rcases commit_inv hc with ⟨rfl, _, hu⟩ | hc
        · rw [cell_of_row w1 b o _ e _ hv0]
          have hlt := (List.getElem?_eq_some_iff.1 hu).1
          simp only [Nat.sub_zero] at hu hlt
          simp [List.getElem?_append_left hlt, hu]
        · exact hI.com b o u hc
      · unfold Heap.del at hob
        by_cases hbg : b = g
        · rw [if_pos hbg] at hob; cases hob
        · rw [if_neg hbg] at hob
          exact ⟨(hI.obj b ob hob).1, (hI.obj b ob hob).2.com hCC fun o ho => by rw [commit_other hbg]; exact ho⟩
    refine ⟨.sl xs .no, H'.del g, commit C' g 0 o1, _, he1, ⟨xs, hX, rfl, fun b ob hob => ?_⟩, hC.trans hCC, ?_, hI2⟩
    · have hbg : b ≠ g := by rintro rfl; rw [hg0] at hob; cases hob
      unfold Heap.del
      rw [if_neg hbg]
      exact hle b ob hob
    · have hfl : xs.flatMap AV.cells = xs := by
        have : ∀ l : List AV, (∀ x ∈ l, x.cells = [x]) → l.flatMap AV.cells = l := by
          intro l
          induction l with
          | nil => intro _; rfl
          | cons a l ih => intro h; rw [List.flatMap_cons, h a (by simp), ih fun x hx => h x (by simp [hx])]; rfl
        exact this xs (hx xs hX)
      have hr1' : RelL (commit C' g 0 o1) (xs.flatMap AV.cells) o1 := by rw [hfl]; exact hr1.mono hCC
      exact .sl .no g 0 _ 1 hr1' (fun x hx2 => by rw [hx xs hX x hx2]; rfl) (fun q hq => hone0 q (List.mem_append.2 (.inl hq))) (fun j q hq => commit_at hq) (by omega) hKm trivial .nil
end Rg
namespace Rg
open Go Go.RowKit
variable {P : Program} {n : Nat} {Q : Post} {ρ : Nat → AV} {k : List AItem} {H : Heap}
theorem RawRow.form {H0 K : Heap} {e : TypeId} {xs : List AV} {v : AV} (h : RawRow H0 e xs v K) : ∃ A cap, v = .sc (.slice A xs.length cap) := by
  rcases h.2 with ⟨rfl, rfl⟩ | ⟨g, zs, _, rfl, _⟩
  · exact ⟨_, _, rfl⟩
  · exact ⟨_, _, rfl⟩
theorem RawRow.le {H0 H1 K : Heap} {e : TypeId} {xs : List AV} {v : AV} (hl : HLe H0 H1) (h : RawRow H1 e xs v K) : RawRow H0 e xs v K :=
  ⟨hl.trans h.1, h.2.imp id fun ⟨g, zs, h1, h2⟩ => ⟨g, zs, HLe.none hl h1, h2⟩⟩
theorem AGo.roundsB {c : Code} (i : Nat) (I : Nat → (Nat → AV) → Heap → Prop)
    (h : ∀ m ρ H, (∀ m' ρ' H', m' < m → I m' ρ' H' → AGo P n Q (.lp c :: k) ρ' H') → I m ρ H → AGo P n Q (.code c :: .lp c :: k) ρ H) {m : Nat} (hi : ρ i = .sl [] .nil)
    (hI : I m (fun j => if j = i then .sc (.slice none 0 0) else ρ j) H) : AGo P n Q (.lp c :: k) ρ H :=
  AGo.roundsN I h _ (fun j => by
    by_cases e : j = i
    · subst e; exact .inr ⟨hi, by simp⟩
    · exact .inl (by simp [e])) hI
end Rg
namespace Rg
open Go Go.RowKit
variable {P : Program} {n : Nat} {Q : Post} {ρ : Nat → AV} {k : List AItem} {H H0 : Heap}
def markL (m : Nat) (l : List Nat) : Array Bool := l.foldl (fun a i => a.setIfInBounds i true) (Array.replicate m false)
theorem markL_snoc (m : Nat) (l : List Nat) (i : Nat) : markL m (l ++ [i]) = (markL m l).setIfInBounds i true := by simp [markL]
def lexAB (full : Array Oper) (A : List Nat) : Bool := lexA full A (Array.replicate full.size false) == some (markL full.size A) && decide (A.length ≤ full.size)
def AWK (P : Program) (n : Nat) (H0 : Heap) (J : (Nat → AV) → Heap → Prop) (full : Array Oper) (d : List Nat) (ρ : Nat → AV) (H : Heap) : Prop :=
  wAny P n H0 full full.size (fun l ρ' H' => Region.ready .any full l = [] ∧ J ρ' H') (full.size - d.length) (markL full.size d) ρ H
def AQ3 (P : Program) (n : Nat) (H0 : Heap) (full : Array Oper) (K : (Nat → AV) → Prop) (l : List Oper) (ρ : Nat → AV) : Prop := AQ2 P n H0 full K l ρ
def AQ3S (P : Program) (n : Nat) (H0 : Heap) (full : Array Oper) (K : (Nat → AV) → Prop) (dst : Option Tmp) (l : List Oper) (ρ : Nat → AV) : ASR → Prop
  | .val v => AQ3 P n H0 full K l (aput n dst v ρ)
  | .call f args => ∃ v, (∀ H', HC H0 H' → ACalls P f args H' (fun r H'' => r = v ∧ H'' = H')) ∧ AQ3 P n H0 full K l (aput n dst v ρ)
  | _ => False
@[congr] theorem AQ3S_congr {x x' : ASR} (h : x = x') (full : Array Oper) (K : (Nat → AV) → Prop) (dst : Option Tmp) (l : List Oper) (ρ : Nat → AV) : AQ3S P n H0 full K dst l ρ x = AQ3S P n H0 full K dst l ρ x' := by rw [h]
@[congr] theorem AQ3_congr {ρ ρ' : Nat → AV} (h : ρ = ρ') (full : Array Oper) (K : (Nat → AV) → Prop) (l : List Oper) : AQ3 P n H0 full K l ρ = AQ3 P n H0 full K l ρ' := by rw [h]
@[congr] theorem AWK_congr {H H' : Heap} (h : H = H') (J : (Nat → AV) → Heap → Prop) (full : Array Oper) (d : List Nat) (ρ : Nat → AV) : AWK P n H0 J full d ρ H = AWK P n H0 J full d ρ H' := by rw [h]
section
variable {full : Array Oper} {K : (Nat → AV) → Prop} {l : List Oper} {dst : Option Tmp}
@[simp] theorem aq3_nil : AQ3 P n H0 full K [] ρ = K ρ := rfl
@[simp] theorem AQ3S_val (v : AV) : AQ3S P n H0 full K dst l ρ (.val v) = AQ3 P n H0 full K l (aput n dst v ρ) := rfl
theorem aq3_op {op : Op} {ty : TypeId} {pos : String} {after : Array Edge} (h : AQ3S P n H0 full K dst l ρ (astepV P op (evA ρ) H0)) : AQ3 P n H0 full K (⟨dst, op, ty, pos, after, none⟩ :: l) ρ := by
  cases hv : astepV P op (evA ρ) H0 with
  | val v => rw [hv] at h; exact ⟨v, fun _ hc => .inl ⟨rfl, .inl (astepV_HC hv hc)⟩, h⟩
  | call f args => rw [hv] at h; obtain ⟨v, h1, h2⟩ := h; exact ⟨v, fun H' hc => .inl ⟨rfl, .inr (.inl ⟨f, args, astepV_other hv (.inl ⟨_, _, rfl⟩), h1 H' hc⟩)⟩, h2⟩
  | app T e xs t ys => rw [hv] at h; exact h.elim
  | alloc cs T => rw [hv] at h; exact h.elim
  | store b off ds => rw [hv] at h; exact h.elim
  | stuck => rw [hv] at h; exact h.elim
  | lits e sz xs => rw [hv] at h; exact h.elim
  | freeze g v => rw [hv] at h; exact h.elim
  | unarr b v => rw [hv] at h; exact h.elim
end
def AWE (P : Program) (n : Nat) (H0 : Heap) (full : Array Oper) (K : (Nat → AV) → Heap → Prop) (ρ : Nat → AV) (H : Heap) : Option Oper → Prop
  | some o => AE P n H0 full o K ρ H
  | none => False
def AWS (P : Program) (n : Nat) (H0 : Heap) (K : (Nat → AV) → Heap → Prop) (dst : Option Tmp) (ρ : Nat → AV) (H : Heap) : ASR → Prop
  | .val v => K (aput n dst v ρ) H
  | .alloc cs T => ∀ b, H b = none → K (aput n dst (.sc (.pointer (some ⟨b, 0, none⟩))) ρ) (H.set b (.cells cs T))
  | .store b off ds => ∃ cs T, H b = some (.cells cs T) ∧ HC H0 (H.set b (.cells (lset cs off ds) T)) ∧ K (aput n dst (.sc undef) ρ) (H.set b (.cells (lset cs off ds) T))
  | .call f args => ∃ R, ACalls P f args H R ∧ ∀ v H', R v H' → HC H0 H' ∧ K (aput n dst v ρ) H'
  | .app T e xs t ys => ∃ sz by_, ElemOk P T e sz by_ ∧ szs sz xs = true ∧ szs sz ys = true ∧ (xs.length + ys.length) * by_ ≤ 140737488355328 ∧ xs.length + ys.length ≤ maxLen ∧
      (((t = .nil ∨ t = .full) ∧ ys = [] ∧ K (aput n dst (.sl xs t) ρ) H) ∨
       ((t = .nil ∨ t = .full) ∧ ys ≠ [] ∧ ∀ g cap, H g = none → K (aput n dst (.sl (xs ++ ys) (.own g cap sz e)) ρ) (H.set g (.open (xs.length + ys.length) cap sz e))) ∨
       (∃ g cap, t = .own g cap sz e ∧ H g = some (.open xs.length cap sz e) ∧
         ∀ g' cap', (H.del g) g' = none → K (aput n dst (.sl (xs ++ ys) (.own g' cap' sz e)) ρ) ((H.del g).set g' (.open (xs.length + ys.length) cap' sz e))))
  | _ => False
@[congr] theorem AWS_congr {x x' : ASR} (h : x = x') (K : (Nat → AV) → Heap → Prop) (dst : Option Tmp) (ρ : Nat → AV) (H : Heap) : AWS P n H0 K dst ρ H x = AWS P n H0 K dst ρ H x' := by rw [h]
@[congr] theorem AWE_congr {x x' : Option Oper} (h : x = x') (full : Array Oper) (K : (Nat → AV) → Heap → Prop) (ρ : Nat → AV) (H : Heap) : AWE P n H0 full K ρ H x = AWE P n H0 full K ρ H x' := by rw [h]
section
variable {full : Array Oper} {K : (Nat → AV) → Heap → Prop} {dst : Option Tmp}
theorem AWE.op {op : Op} {ty : TypeId} {pos : String} {after : Array Edge} {x : Option Oper} (hx : x = some ⟨dst, op, ty, pos, after, none⟩) (h : AWS P n H0 K dst ρ H (astepV P op (evA ρ) H)) : AWE P n H0 full K ρ H x := by
  subst hx
  refine .inr ⟨rfl, ?_⟩
  simp only
  cases hv : astepV P op (evA ρ) H <;> rw [hv] at h <;> first | exact h | exact h.elim
@[simp] theorem AWS_val (v : AV) : AWS P n H0 K dst ρ H (.val v) = K (aput n dst v ρ) H := rfl
theorem AWS.alloc {cs : List AV} {T : TypeId} (h : ∀ b, H b = none → K (aput n dst (.sc (.pointer (some ⟨b, 0, none⟩))) ρ) (H.set b (.cells cs T))) : AWS P n H0 K dst ρ H (.alloc cs T) := h
theorem AWS.store {b off : Nat} {ds cs : List AV} {T : TypeId} (hb : H b = some (.cells cs T)) (hc : HC H0 (H.set b (.cells (lset cs off ds) T))) (h : K (aput n dst (.sc undef) ρ) (H.set b (.cells (lset cs off ds) T))) : AWS P n H0 K dst ρ H (.store b off ds) := ⟨cs, T, hb, hc, h⟩
theorem AWS.grows0 {T e : TypeId} {xs ys : List AV} {t : Tok} {sz by_ : Nat} {G0 G : Heap} (he : ElemOk P T e sz by_) (hg : Grows G0 xs sz e t G) (hl : HLe G H)
    (hx : szs sz xs = true) (hy : szs sz ys = true) (hb : (xs.length + ys.length) * by_ ≤ 140737488355328) (hm : xs.length + ys.length ≤ maxLen)
    (h : ∀ t' K' Hn, Grows G0 (xs ++ ys) sz e t' K' → HLe K' Hn → (∀ b o, H b = some o → G b = none ∨ G0 b = some o → Hn b = some o) → K (aput n dst (.sl (xs ++ ys) t') ρ) Hn) : AWS P n H0 K dst ρ H (.app T e xs t ys) := by
  refine ⟨sz, by_, he, hx, hy, hb, hm, ?_⟩
  rcases hg with ⟨rfl, rfl, rfl⟩ | ⟨g, cap, h1, rfl, rfl⟩
  · by_cases h0 : ys = []
    · subst h0
      exact .inl ⟨.inl rfl, rfl, h _ G _ .zero hl (fun b o e _ => e)⟩
    · refine .inr (.inl ⟨.inl rfl, h0, fun g cap hgn => h _ (G.set g (.open ([].length + ys.length) cap sz e)) _ (.inr ⟨g, cap, hl.none hgn, rfl, by simp⟩) hl.set_mono fun b o e _ => ?_⟩)
      have : b ≠ g := by rintro rfl; rw [hgn] at e; cases e
      simp [this, e]
  · have hlG : HLe G0 H := (HLe.refl G0).set_new h1 |>.trans hl
    refine .inr (.inr ⟨g, cap, rfl, hl g _ (by simp [Heap.set]), fun g' cap' hgn => h _ (G0.set g' (.open (xs.length + ys.length) cap' sz e)) _ (.inr ⟨g', cap', ?_, rfl, by simp⟩) ?_ fun b o eb hb2 => ?_⟩)
    · by_cases hgg : g' = g
      · subst hgg; exact h1
      · exact hlG.none (by simpa [Heap.del, hgg] using hgn)
    · refine HLe.set_mono fun c ob hc => ?_
      have hcg : c ≠ g := by rintro rfl; rw [h1] at hc; cases hc
      simp only [Heap.del, if_neg hcg]
      exact hlG c ob hc
    · have hbg : b ≠ g := by
        rintro rfl
        rcases hb2 with hb2 | hb2
        · simp [Heap.set] at hb2
        · rw [h1] at hb2; cases hb2
      have hbg' : b ≠ g' := by
        rintro rfl
        simp only [Heap.del, if_neg hbg] at hgn
        rw [hgn] at eb
        cases eb
      simp only [Heap.set, Heap.del, if_neg hbg, if_neg hbg']
      exact eb
end
def readyB (full : Array Oper) (d l : List Nat) : Bool := decide (Region.ready .any full (markL full.size d) = l) && decide (l ≠ []) && l.all (fun i => decide (i < full.size)) && decide (d.length < full.size)
def doneB (full : Array Oper) (d : List Nat) : Bool := decide (Region.ready .any full (markL full.size d) = []) && decide (d.length = full.size)
variable {J : (Nat → AV) → Heap → Prop}
theorem AWK.step {full : Array Oper} {d : List Nat} (l : List Nat) (hr : readyB full d l = true) (h : ∀ i ∈ l, AWE P n H0 full (AWK P n H0 J full (d ++ [i])) ρ H full[i]?) : AWK P n H0 J full d ρ H := by
  simp only [readyB, Bool.and_eq_true, decide_eq_true_eq] at hr
  obtain ⟨⟨⟨h1, h2⟩, h3⟩, h4⟩ := hr
  unfold AWK
  rw [show full.size - d.length = (full.size - (d.length + 1)) + 1 by omega]
  refine ⟨by rw [h1]; exact h2, fun i hi => ?_⟩
  rw [h1] at hi
  have hlt : i < full.size := by simpa using List.all_eq_true.1 h3 i hi
  refine ⟨hlt, full[i], Array.getElem?_eq_getElem hlt, .inr ?_⟩
  have := h i hi
  rw [Array.getElem?_eq_getElem hlt] at this
  unfold AWE AWK at this
  rw [markL_snoc, List.length_append, List.length_singleton] at this
  exact this
theorem AWK.one {l0 : List Oper} {d : List Nat} (i : Nat) (hr : readyB l0.toArray d [i] = true) (h : AWE P n H0 l0.toArray (AWK P n H0 J l0.toArray (d ++ [i])) ρ H l0[i]?) : AWK P n H0 J l0.toArray d ρ H :=
  AWK.step [i] hr fun j hj => by
    obtain rfl := List.mem_singleton.1 hj
    rw [List.getElem?_toArray]
    exact h
theorem AWK.two {l0 : List Oper} {d : List Nat} (i j : Nat) (hr : readyB l0.toArray d [i, j] = true) (h1 : AWE P n H0 l0.toArray (AWK P n H0 J l0.toArray (d ++ [i])) ρ H l0[i]?)
    (h2 : AWE P n H0 l0.toArray (AWK P n H0 J l0.toArray (d ++ [j])) ρ H l0[j]?) : AWK P n H0 J l0.toArray d ρ H :=
  AWK.step [i, j] hr fun q hq => by
    rw [List.getElem?_toArray]
    rcases List.mem_cons.1 hq with rfl | hq
    · exact h1
    · obtain rfl := List.mem_singleton.1 hq
      exact h2
theorem AWK.fin {full : Array Oper} {d : List Nat} (hr : doneB full d = true) (h : J ρ H) : AWK P n H0 J full d ρ H := by
  simp only [doneB, Bool.and_eq_true, decide_eq_true_eq] at hr
  unfold AWK
  rw [show full.size - d.length = 0 by omega]
  exact ⟨hr.1, h⟩
theorem go_draw3 {id : Nat} {l : List Oper} (A : List Nat) (H0 : Heap) (hmix : P.follows .mixedOrders = true) (hd : lexAB l.toArray A = true) (hc : HC H0 H)
    (h : AQ3 P n H0 l.toArray (fun r => AWK P n H0 (AGo P n Q k) l.toArray A r H) (picks l.toArray A) ρ) : AGo P n Q (.code (.region id l.toArray true) :: k) ρ H := by
  simp only [lexAB, Bool.and_eq_true, beq_iff_eq, decide_eq_true_eq] at hd
  exact .draw3 A _ H0 _ hmix hd.1 hd.2 hc h fun _ _ h => h
theorem go_draw3J {id : Nat} {l : List Oper} (J : (Nat → AV) → Heap → Prop) (A : List Nat) (H0 : Heap) (hmix : P.follows .mixedOrders = true) (hd : lexAB l.toArray A = true) (hc : HC H0 H)
    (h : AQ3 P n H0 l.toArray (fun r => AWK P n H0 J l.toArray A r H) (picks l.toArray A) ρ) (h2 : ∀ ρ' H', J ρ' H' → AGo P n Q k ρ' H') : AGo P n Q (.code (.region id l.toArray true) :: k) ρ H := by
  simp only [lexAB, Bool.and_eq_true, beq_iff_eq, decide_eq_true_eq] at hd
  exact .draw3 A _ H0 _ hmix hd.1 hd.2 hc h h2
theorem HC.nothing {H : Heap} : HC (fun _ => none) H := fun b cs e => by simp [rd] at e
end Rg
namespace Rg
open Go Go.RowKit
variable {P : Program} {W0 w : World} {C : Com} {H : Heap} {n : Nat} {Q : Post} {ρ : Nat → AV} {k : List AItem}
theorem flat_one {l : List AV} (h : ∀ x ∈ l, x.cells = [x]) : l.flatMap AV.cells = l := by
  induction l with
  | nil => rfl
  | cons a l ih => rw [List.flatMap_cons, h a (by simp), ih fun x hx => h x (by simp [hx])]; rfl
theorem Inv.freeze {g : Nat} {xs zs : List AV} {e : TypeId} (hI : Inv W0 C H w) (hKg : H g = some (.cells (xs ++ zs) e)) (hx : ∀ x ∈ xs, x.cells = [x]) (hm : xs.length + zs.length ≤ maxLen) :
    ∃ C', CLe C C' ∧ Inv W0 C' (H.del g) w ∧ Rel C' (.sl xs .no) (.slice (some ⟨g, 0, none⟩) xs.length (xs.length + zs.length)) := by
  obtain ⟨hb, vs0, hv0, hrel0, hone0, hC0⟩ := hI.obj _ _ hKg
  obtain ⟨o1, o2, rfl, hr1, hr2⟩ := hrel0.split
  have l1 := hr1.length
  have hCC : CLe C (commit C g 0 o1) := commit_le fun k _ _ => hC0 k
  refine ⟨commit C g 0 o1, hCC, ⟨hI.below, fun b o u hc => ?_, fun b ob hob => ?_⟩, ?_⟩
  · rcases commit_inv hc with ⟨rfl, _, hu⟩ | hc
    · rw [cell_of_row w b o _ e _ hv0]
      have hlt := (List.getElem?_eq_some_iff.1 hu).1
      simp only [Nat.sub_zero] at hu hlt
      simp [List.getElem?_append_left hlt, hu]
    · exact hI.com b o u hc
  · unfold Heap.del at hob
    by_cases hbg : b = g
    · rw [if_pos hbg] at hob; cases hob
    · rw [if_neg hbg] at hob
      exact ⟨(hI.obj b ob hob).1, (hI.obj b ob hob).2.com hCC fun o ho => by rw [commit_other hbg]; exact ho⟩
  · have hr1' : RelL (commit C g 0 o1) (xs.flatMap AV.cells) o1 := by rw [flat_one hx]; exact hr1.mono hCC
    exact .sl .no g 0 _ 1 hr1' (fun x hx2 => by rw [hx x hx2]; rfl) (fun q hq => hone0 q (List.mem_append.2 (.inl hq))) (fun j q hq => commit_at hq) (by omega) hm trivial .nil
inductive FzL (b f : AV) : List AV → List AV → Prop
  | nil : FzL b f [] []
  | hit {az bs : List AV} : FzL b f az bs → FzL b f (b :: az) (f :: bs)
  | keep (a : AV) {az bs : List AV} : FzL b f az bs → FzL b f (a :: az) (a :: bs)
  | deep {xs ys : List AV} {t : Tok} {az bs : List AV} : FzL b f xs ys → (∀ x ∈ xs, x.cells = [x]) → (∀ y ∈ ys, y.cells = [y]) → FzL b f az bs → FzL b f (.sl xs t :: az) (.sl ys .no :: bs)
theorem FzL.length {b f : AV} {az bs : List AV} (h : FzL b f az bs) : az.length = bs.length := by
  induction h with
  | nil => rfl
  | hit _ ih => simp [ih]
  | keep _ _ ih => simp [ih]
  | deep _ _ _ _ _ ih => simp [ih]
theorem RawRow.get {H0 K : Heap} {e : TypeId} {xs : List AV} {v : AV} (h : RawRow H0 e xs v K) {b : Nat} {o : AObj} (hb : H0 b = some o) : K b = some o := h.1 b o hb
end Rg
