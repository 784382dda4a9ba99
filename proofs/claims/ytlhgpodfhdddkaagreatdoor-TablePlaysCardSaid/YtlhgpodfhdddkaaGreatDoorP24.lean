/- Rows of numbers: whether one is in them, twice. Rows of numbers: one that is in them twice. Rows that grow. The document's answer about graphs: place, Reach. The numbers of a row as an iterator; numbers told twice. The order of a row of nodes. -/
import Derived.Test.YtlhgpodfhdddkaaGreatDoorP14
import Derived.Test.YtlhgpodfhdddkaaGreatDoorP10
import Derived.Test.YtlhgpodfhdddkaaGreatDoorP19
import Derived.Test.YtlhgpodfhdddkaaGreatDoorP23
set_option linter.unusedSimpArgs false
set_option linter.unusedVariables false
set_option linter.unnecessarySimpa false
namespace Go.Proofs.YtlhgpodfhdddkaaGreatDoor
open Rg Go Go.RowKit
variable {H : Heap}
abbrev nuAV (l : List Nat) : List AV := l.map fun n : Nat => (.sc (.int .u64 (n : Int)) : AV)
theorem c_has13 (l : List Nat) (t : Rg.Tok) (x : Nat) (hl : l.length ≤ 1000000) : AOk Tryz.prog 60 [.sl (nuAV l) t, .sc (.int .u64 (x : Int))] H (.sc (.bool (decide (x ∈ l)))) H := by
  refine ACalls.into Tryz.func60 rfl Tryz.ntmps60 Tryz.results60 (by simp) ?_
  generalize hR : ROk _ _ = R
  simp -implicitDefEqProofs
  refine AGo.rounds (fun m ρ K => ∃ i : Nat, m = l.length - i ∧ i ≤ l.length ∧ (∀ y ∈ l.take i, y ≠ x) ∧ ρ 0 = .sl (nuAV l) t ∧ ρ 1 = .sc (.int .u64 (x : Int)) ∧ ρ 5 = .sc (.int .i64 (i : Int)) ∧ K = H) ?_ (m := l.length) (HLe.refl H)
    ⟨0, rfl, by omega, by simp, by simp, by simp, by simp, rfl⟩
  rintro m ρ K ih ⟨i, rfl, hi, hno, r0, r1, r5, rfl⟩
  by_cases hlt : i < l.length
  · have hlt' : (i : Int) < (l.length : Int) := by omega
    obtain ⟨y, hyj, hy⟩ := getAt hlt
    have w1 : IntKind.i64.wrap ((i : Int) + 1) = ((i + 1 : Nat) : Int) := by rw [wrap_i64 (by omega) (by omega)]; omega
    by_cases hyx : y = x
    · have hyx' : (y : Int) = (x : Int) := by omega
      simp -implicitDefEqProofs [r0, r1, r5, hlt, hlt', hyj, hyx, hyx']
      subst hR
      have hm : x ∈ l := by rw [← hyx]; exact List.mem_of_getElem? hy
      exact AFin.intro _ _ (wk_refl _) (HWk.refl _) ⟨by simp [hm], rfl⟩
    · have hyx' : ¬ (y : Int) = (x : Int) := by omega
      simp -implicitDefEqProofs [r0, r1, r5, hlt, hlt', hyj, hyx, hyx', w1]
      exact AGo.again ih (m' := l.length - (i + 1)) (by omega) (HLe.refl _) ⟨i + 1, rfl, by omega, fun z hz => by
        rw [List.take_add_one, hy] at hz
        rcases List.mem_append.1 hz with hz | hz
        · exact hno z hz
        · simp at hz; rw [hz]; exact hyx, by simp [r0], by simp [r1], by simp, rfl⟩
  · have hlt' : ¬ (i : Int) < (l.length : Int) := by omega
    rw [List.take_of_length_le (by omega)] at hno
    simp -implicitDefEqProofs [r0, r1, r5, hlt, hlt']
    subst hR
    have hm : ¬ x ∈ l := fun h => hno x h rfl
    exact AFin.intro _ _ (wk_refl _) (HWk.refl _) ⟨by simp [hm], rfl⟩
theorem c_indexU (l : List Nat) (t : Rg.Tok) (x : Nat) (hl : l.length ≤ 1000000) : ACalls Tryz.prog 65 [.sl (nuAV l) t, .sc (.int .u64 (x : Int))] H (fun v K => ∃ i : Int, v = .sc (.int .i64 i) ∧ (0 ≤ i ↔ x ∈ l) ∧ -1 ≤ i ∧ i < l.length ∧ K = H) := by
  refine ACalls.into Tryz.func65 rfl Tryz.ntmps65 Tryz.results65 (by simp) ?_
  generalize hR : (fun (v : AV) (K : Heap) => ∃ i : Int, v = .sc (.int .i64 i) ∧ (0 ≤ i ↔ x ∈ l) ∧ -1 ≤ i ∧ i < l.length ∧ K = H) = R
  simp -implicitDefEqProofs
  refine AGo.rounds (fun m ρ K => ∃ i : Nat, m = l.length - i ∧ i ≤ l.length ∧ (∀ y ∈ l.take i, y ≠ x) ∧ ρ 0 = .sl (nuAV l) t ∧ ρ 1 = .sc (.int .u64 (x : Int)) ∧ ρ 7 = .sc (.int .i64 (l.length : Int)) ∧ ρ 8 = .sc (.int .i64 (i : Int)) ∧ K = H) ?_ (m := l.length) (HLe.refl H)
    ⟨0, rfl, by omega, by simp, by simp, by simp, by simp, by simp, rfl⟩
  rintro m ρ K ih ⟨i, rfl, hi, hno, r0, r1, r7, r8, rfl⟩
  by_cases hlt : i < l.length
  · have hlt' : (i : Int) < (l.length : Int) := by omega
    obtain ⟨y, hyj, hy⟩ := getAt hlt
    have w1 : IntKind.i64.wrap ((i : Int) + 1) = ((i + 1 : Nat) : Int) := by rw [wrap_i64 (by omega) (by omega)]; omega
    by_cases hyx : x = y
    · have hyx' : (x : Int) = (y : Int) := by omega
      simp -implicitDefEqProofs [r0, r1, r7, r8, hlt, hlt', hyj, hyx, hyx']
      subst hR
      have hm : x ∈ l := by rw [hyx]; exact List.mem_of_getElem? hy
      exact AFin.intro _ _ (wk_refl _) (HWk.refl _) ⟨i, rfl, ⟨fun _ => hm, fun _ => by omega⟩, by omega, hlt', rfl⟩
    · have hyx' : ¬ (x : Int) = (y : Int) := by omega
      simp -implicitDefEqProofs [r0, r1, r7, r8, hlt, hlt', hyj, hyx, hyx', w1]
      exact AGo.again ih (m' := l.length - (i + 1)) (by omega) (HLe.refl _) ⟨i + 1, rfl, by omega, fun z hz => by
        rw [List.take_add_one, hy] at hz
        rcases List.mem_append.1 hz with hz | hz
        · exact hno z hz
        · simp at hz; rw [hz]; exact fun e => hyx e.symm, by simp [r0], by simp [r1], by simp [r7], by simp, rfl⟩
  · have hlt' : ¬ (i : Int) < (l.length : Int) := by omega
    rw [List.take_of_length_le (by omega)] at hno
    simp -implicitDefEqProofs [r0, r1, r7, r8, hlt, hlt']
    subst hR
    have hm : ¬ x ∈ l := fun h => hno x h rfl
    exact AFin.intro _ _ (wk_refl _) (HWk.refl _) ⟨-1, rfl, ⟨fun h => by omega, fun h => absurd h hm⟩, by omega, by omega, rfl⟩
theorem c_containsU (l : List Nat) (t : Rg.Tok) (x : Nat) (hl : l.length ≤ 1000000) : AOk Tryz.prog 48 [.sl (nuAV l) t, .sc (.int .u64 (x : Int))] H (.sc (.bool (decide (x ∈ l)))) H := by
  refine ACalls.into Tryz.func48 rfl Tryz.ntmps48 Tryz.results48 (by simp) ?_
  simp -implicitDefEqProofs
  refine ACall.intro (c_indexU l t x hl) fun v K hv => ?_
  obtain ⟨i, rfl, hi, _, _, rfl⟩ := hv
  by_cases hm : x ∈ l
  · have h0 := hi.2 hm
    simp -implicitDefEqProofs [h0, hm]
  · have h0 : ¬ 0 ≤ i := fun h => hm (hi.1 h)
    simp -implicitDefEqProofs [h0, hm]
end Go.Proofs.YtlhgpodfhdddkaaGreatDoor
namespace Go.Proofs.YtlhgpodfhdddkaaGreatDoor
open Rg Go Go.RowKit
variable {H : Heap}
theorem nodup_take {l : List Nat} {i : Nat} {y : Nat} (h : (l.take i).Nodup) (hy : l[i]? = some y) : (l.take (i + 1)).Nodup ↔ y ∉ l.take i := by
  rw [List.take_add_one, hy, Option.toList_some, List.nodup_append]
  constructor
  · rintro ⟨_, _, h3⟩ hm
    exact h3 y hm y (by simp) rfl
  · intro hm
    exact ⟨h, by simp, fun a ha b hb => by simp at hb; subst hb; rintro rfl; exact hm ha⟩
theorem c_twice13 (l : List Nat) (t : Rg.Tok) (hl : l.length ≤ 1000000) : AOk Tryz.prog 56 [.sl (nuAV l) t] H (.sc (.bool (decide (¬ l.Nodup)))) H := by
  refine ACalls.into Tryz.func56 rfl Tryz.ntmps56 Tryz.results56 (by simp) ?_
  generalize hR : ROk _ _ = R
  simp -implicitDefEqProofs
  refine AGo.rounds (fun m ρ K => ∃ i : Nat, m = l.length - i ∧ i ≤ l.length ∧ (l.take i).Nodup ∧ ρ 0 = .sl (nuAV l) t ∧ ρ 3 = .sc (.int .i64 (i : Int)) ∧ K = H) ?_ (m := l.length) (HLe.refl H)
    ⟨0, rfl, by omega, by simp, by simp, by simp, rfl⟩
  rintro m ρ K ih ⟨i, rfl, hi, hnd, r0, r3, rfl⟩
  by_cases hlt : i < l.length
  · have hlt' : (i : Int) < (l.length : Int) := by omega
    have hle' : (i : Int) ≤ (l.length : Int) := by omega
    have hle : i ≤ l.length := by omega
    obtain ⟨y, hyj, hy⟩ := getAt hlt
    have w1 : IntKind.i64.wrap ((i : Int) + 1) = ((i + 1 : Nat) : Int) := by rw [wrap_i64 (by omega) (by omega)]; omega
    have hn := nodup_take hnd hy
    have hsz : ∀ q : List Nat, szs 1 (nuAV q) = true := fun q => by simp [szs, AV.cells]
    simp -implicitDefEqProofs [r0, r3, hlt, hlt']
    refine go_draw 8 f_mixed (by decide +kernel) ?_
    simp -implicitDefEqProofs [r0, r3, hlt, hlt', hle, hle', hyj, hsz]
    rw [show List.take i (nuAV l) = nuAV (l.take i) from List.map_take.symm]
    refine AQS.eq (c_has13 (l.take i) .no y (by rw [List.length_take]; omega)) ?_
    by_cases hm : y ∈ l.take i
    · have hN : ¬ l.Nodup := fun h => hn.1 (h.sublist (List.take_sublist _ _)) hm
      simp -implicitDefEqProofs [hm]
      subst hR
      exact AFin.intro _ _ (wk_refl _) (HWk.refl _) ⟨by simp [hN], rfl⟩
    · simp -implicitDefEqProofs [hm, r3, w1]
      exact AGo.again ih (m' := l.length - (i + 1)) (by omega) (HLe.refl _) ⟨i + 1, rfl, by omega, hn.2 hm, by simp [r0], by simp, rfl⟩
  · have hlt' : ¬ (i : Int) < (l.length : Int) := by omega
    rw [List.take_of_length_le (by omega)] at hnd
    simp -implicitDefEqProofs [r0, r3, hlt, hlt']
    subst hR
    exact AFin.intro _ _ (wk_refl _) (HWk.refl _) ⟨by simp [hnd], rfl⟩
end Go.Proofs.YtlhgpodfhdddkaaGreatDoor
namespace Go.Proofs.YtlhgpodfhdddkaaGreatDoor
open Rg Go
variable {H : Heap}
def Gr (e : TypeId) (sz : Nat) (H0 : Heap) (xs : List AV) (t : Rg.Tok) (K : Heap) : Prop :=
  (((t = .nil ∧ xs = []) ∨ t = .full) ∧ K = H0) ∨ ∃ g cap, H0 g = none ∧ t = .own g cap sz e ∧ K = H0.set g (.open xs.length cap sz e)
theorem Gr.nil {e : TypeId} {sz : Nat} {H0 : Heap} : Gr e sz H0 [] .nil H0 := .inl ⟨.inl ⟨rfl, rfl⟩, rfl⟩
theorem Gr.full {e : TypeId} {sz : Nat} {H0 : Heap} {xs : List AV} : Gr e sz H0 xs .full H0 := .inl ⟨.inr rfl, rfl⟩
theorem Gr.le {e : TypeId} {sz : Nat} {H0 K : Heap} {xs : List AV} {t : Rg.Tok} (h : Gr e sz H0 xs t K) : HLe H0 K := by
  rcases h with ⟨_, rfl⟩ | ⟨g, cap, h1, _, rfl⟩
  · exact HLe.refl _
  · exact (HLe.refl _).set_new h1
theorem Grows.gr {e : TypeId} {sz : Nat} {H0 K : Heap} {xs : List AV} {t : Rg.Tok} (h : Grows H0 xs sz e t K) : Gr e sz H0 xs t K := by
  rcases h with ⟨rfl, rfl, rfl⟩ | h
  · exact .nil
  · exact .inr h
theorem Gr.base {e : TypeId} {sz : Nat} {H0 H1 K : Heap} {xs : List AV} {t : Rg.Tok} (h : Gr e sz H1 xs t K) (hl : HLe H0 H1) : ∃ K', Gr e sz H0 xs t K' ∧ HLe K' K := by
  rcases h with ⟨h1, rfl⟩ | ⟨g, cap, h1, h2, rfl⟩
  · exact ⟨H0, .inl ⟨h1, rfl⟩, hl⟩
  · exact ⟨H0.set g (.open xs.length cap sz e), .inr ⟨g, cap, hl.none h1, h2, rfl⟩, hl.set_mono⟩
theorem AApp.gr {P : Program} {n : Nat} {Q : Post} {ρ : Nat → AV} {k : List AItem} {full : Array Oper} {dst : Option Tmp} {r : List Oper} {T e : TypeId} {xs ys : List AV} {t : Rg.Tok} {sz by_ : Nat} {H0 K : Heap} (he : ElemOk P T e sz by_) (hg : Gr e sz H0 xs t K) (hl : HLe K H)
    (hx : szs sz xs = true) (hy : szs sz ys = true) (hb : (xs.length + ys.length) * by_ ≤ 140737488355328) (hm : xs.length + ys.length ≤ maxLen)
    (h : ∀ t' K' Hn, Gr e sz H0 (xs ++ ys) t' K' → HLe K' Hn → AGo P n Q (.ops full r :: k) (aput n dst (.sl (xs ++ ys) t') ρ) Hn) : AApp P n Q full dst r k ρ H T e xs t ys := by
  rcases hg with ⟨ht, rfl⟩ | hg
  · by_cases h0 : ys = []
    · subst h0
      rw [List.length_nil, Nat.add_zero] at hb hm
      refine AApp.same he hx hb hm ?_
      have := h t K H (.inl ⟨by rwa [List.append_nil], rfl⟩) hl
      rwa [List.append_nil] at this
    · refine AApp.new he (ht.imp And.left id) h0 hx hy hb hm fun g cap hgn => h _ (K.set g (.open (xs ++ ys).length cap sz e)) _ (.inr ⟨g, cap, hl.none hgn, rfl, rfl⟩) ?_
      rw [List.length_append]
      exact hl.set_mono
  · refine AApp.grows0 he (.inr hg) hl hx hy hb hm fun t' K' Hn hg' hl' => h t' K' Hn ?_ hl'
    rcases hg' with ⟨h1, h2, h3⟩ | h1
    · exact .inl ⟨.inl ⟨h2, h1⟩, h3⟩
    · exact .inr h1
theorem set_del_same {H0 : Heap} {g : Nat} {o : AObj} (h : H0 g = none) : (H0.set g o).del g = H0 := by
  funext b
  by_cases hb : b = g
  · subst hb; simp [Heap.del, h]
  · simp [Heap.del, Heap.set, hb]
theorem AApp.grE {P : Program} {n : Nat} {Q : Post} {ρ : Nat → AV} {k : List AItem} {full : Array Oper} {dst : Option Tmp} {r : List Oper} {T e : TypeId} {xs ys : List AV} {t : Rg.Tok} {sz by_ : Nat} {H0 : Heap} (he : ElemOk P T e sz by_) (hg : Gr e sz H0 xs t H)
    (hx : szs sz xs = true) (hy : szs sz ys = true) (hb : (xs.length + ys.length) * by_ ≤ 140737488355328) (hm : xs.length + ys.length ≤ maxLen)
    (h : ∀ t' Hn, Gr e sz H0 (xs ++ ys) t' Hn → AGo P n Q (.ops full r :: k) (aput n dst (.sl (xs ++ ys) t') ρ) Hn) : AApp P n Q full dst r k ρ H T e xs t ys := by
  rcases hg with ⟨ht, rfl⟩ | ⟨g, cap, h1, rfl, rfl⟩
  · by_cases h0 : ys = []
    · subst h0
      rw [List.length_nil, Nat.add_zero] at hb hm
      refine AApp.same he hx hb hm ?_
      have := h t H (.inl ⟨by rwa [List.append_nil], rfl⟩)
      rwa [List.append_nil] at this
    · refine AApp.new he (ht.imp And.left id) h0 hx hy hb hm fun g cap hgn => ?_
      rw [← List.length_append]
      exact h _ _ (.inr ⟨g, cap, hgn, rfl, rfl⟩)
  · refine AApp.own he (by simp [Heap.set]) hx hy hb hm fun g' cap' hgn => ?_
    rw [set_del_same h1] at hgn ⊢
    rw [← List.length_append]
    exact h _ _ (.inr ⟨g', cap', hgn, rfl, rfl⟩)
theorem Gr.box {e : TypeId} {sz : Nat} {H0 K : Heap} {xs : List AV} {t : Rg.Tok} {b : Nat} {o : AObj} (h : Gr e sz H0 xs t K) (hb : K b = none) : Gr e sz (H0.set b o) xs t (K.set b o) := by
  rcases h with ⟨h1, rfl⟩ | ⟨g, cap, h1, h2, rfl⟩
  · exact .inl ⟨h1, rfl⟩
  · have hgb : g ≠ b := by rintro rfl; simp [Heap.set] at hb
    refine .inr ⟨g, cap, by simp [Heap.set, hgb, h1], h2, ?_⟩
    funext q
    by_cases hq : q = b
    · subst hq; simp [Heap.set, Ne.symm hgb]
    · by_cases hqg : q = g
      · subst hqg; simp [Heap.set, hq]
      · simp [Heap.set, hq, hqg]
end Go.Proofs.YtlhgpodfhdddkaaGreatDoor
namespace Go.Proofs.YtlhgpodfhdddkaaGreatDoor
open Rg Go Go.RowKit
variable {H : Heap}
abbrev ndAV (n : Nd) : AV := .agg [.sc (.int .u64 (n.1 : Int)), .sl (nuAV n.2) .no]
abbrev ndsAV (l : List Nd) : List AV := l.map ndAV
theorem hc_le {H K : Heap} (h : HLe H K) : HC H K := fun b cs hb => by
  cases h2 : H b with
  | none => rw [h2] at hb; cases hb
  | some o => rw [h _ _ h2, ← h2]; exact hb
def placeG : List Nd → Nat → Nat → Int
  | [], _, _ => -1
  | n :: l, x, i => if n.1 = x then (i : Int) else placeG l x (i + 1)
theorem placeG_mem : ∀ (l : List Nd) (x i : Nat), (0 ≤ placeG l x i ↔ x ∈ idsN l) ∧ (¬ 0 ≤ placeG l x i → placeG l x i = -1)
  | [], x, i => by simp [placeG, idsN]
  | n :: l, x, i => by
    unfold placeG
    by_cases h : n.1 = x
    · rw [if_pos h]
      refine ⟨⟨fun _ => by simp [idsN, h], fun _ => by omega⟩, fun h2 => by omega⟩
    · rw [if_neg h]
      have := placeG_mem l x (i + 1)
      refine ⟨this.1.trans ?_, this.2⟩
      simp only [idsN, List.map_cons, List.mem_cons]
      exact ⟨.inr, fun h2 => h2.elim (fun e => absurd e.symm h) id⟩
theorem c_place13 (l : List Nd) (t : Rg.Tok) (x : Nat) (hl : l.length ≤ 1000000) : AOk Tryz.prog 55 [.sl (ndsAV l) t, .sc (.int .u64 (x : Int))] H (.sc (.int .i64 (placeG l x 0))) H := by
  obtain ⟨res, hres⟩ : ∃ r, placeG l x 0 = r := ⟨_, rfl⟩
  rw [hres]
  refine ACalls.into Tryz.func55 rfl Tryz.ntmps55 Tryz.results55 (by simp) ?_
  generalize hR : ROk _ _ = R
  simp -implicitDefEqProofs
  refine AGo.rounds (fun m ρ K => ∃ i : Nat, m = l.length - i ∧ i ≤ l.length ∧ placeG (l.drop i) x i = res ∧ ρ 0 = .sl (ndsAV l) t ∧ ρ 1 = .sc (.int .u64 (x : Int)) ∧ ρ 5 = .sc (.int .i64 (i : Int)) ∧ K = H) ?_ (m := l.length) (HLe.refl H)
    ⟨0, rfl, by omega, hres, by simp, by simp, by simp, rfl⟩
  clear hres
  rintro m ρ K ih ⟨i, rfl, hi, hno, r0, r1, r5, rfl⟩
  by_cases hlt : i < l.length
  · have hlt' : (i : Int) < (l.length : Int) := by omega
    obtain ⟨y, hyj, hy⟩ := getAt hlt
    have w1 : IntKind.i64.wrap ((i : Int) + 1) = ((i + 1 : Nat) : Int) := by rw [wrap_i64 (by omega) (by omega)]; omega
    rw [List.drop_eq_getElem_cons hlt, hyj] at hno
    unfold placeG at hno
    by_cases hyx : y.1 = x
    · have hyx' : (y.1 : Int) = (x : Int) := by omega
      rw [if_pos hyx] at hno
      simp -implicitDefEqProofs [r0, r1, r5, hlt, hlt', hyj, hyx, hyx']
      subst hR
      exact AFin.intro _ _ (wk_refl _) (HWk.refl _) ⟨by rw [← hno], rfl⟩
    · have hyx' : ¬ (y.1 : Int) = (x : Int) := by omega
      rw [if_neg hyx] at hno
      simp -implicitDefEqProofs [r0, r1, r5, hlt, hlt', hyj, hyx, hyx', w1]
      exact AGo.again ih (m' := l.length - (i + 1)) (by omega) (HLe.refl _) ⟨i + 1, rfl, by omega, hno, by simp [r0], by simp [r1], by simp, rfl⟩
  · have hlt' : ¬ (i : Int) < (l.length : Int) := by omega
    rw [List.drop_of_length_le (by omega)] at hno
    unfold placeG at hno
    simp -implicitDefEqProofs [r0, r1, r5, hlt, hlt']
    subst hR
    exact AFin.intro _ _ (wk_refl _) (HWk.refl _) ⟨by rw [← hno], rfl⟩
theorem closed_no {l : List Nd} {seen : List Nat} {a b : Nat} (h : ∀ n ∈ l, n.1 ∈ seen → ∀ d ∈ n.2, d ≠ b ∧ d ∈ seen) (ha : a ∈ seen) {c : Nat} (hc : Comes (Waits l) a c) : c ≠ b ∧ c ∈ seen := by
  induction hc with
  | one hr => obtain ⟨d, h1, h2⟩ := hr; exact h _ h1 ha _ h2
  | more _ hr ih => obtain ⟨d, h1, h2⟩ := hr; exact h _ h1 ih.2 _ h2
theorem ids_len (l : List Nd) : (idsN l).length = l.length := List.length_map _
set_option maxHeartbeats 4000000 in
theorem c_reach13 (l : List Nd) (t : Rg.Tok) (a b : Nat) (hl : l.length ≤ 64) (h8 : ∀ n ∈ l, n.2.length ≤ 8) (hd : ¬ noneN l) (ha : a ∈ idsN l) :
    ACalls Tryz.prog 57 [.sl (ndsAV l) t, .sc (.int .u64 (a : Int)), .sc (.int .u64 (b : Int))] H (fun v K => ∃ r : Bool, v = .sc (.bool r) ∧ (r = true ↔ Comes (Waits l) a b) ∧ HLe H K) := by
  refine ACalls.into Tryz.func57 rfl Tryz.ntmps57 Tryz.results57 (by simp) ?_
  generalize hR : (fun (v : AV) (K : Heap) => ∃ r : Bool, v = .sc (.bool r) ∧ (r = true ↔ Comes (Waits l) a b) ∧ HLe H K) = R
  have h64 : ¬ 64 < (l.length : Int) := by omega
  have hsz : ∀ q : List Nat, szs 1 (nuAV q) = true := fun q => by simp [szs, AV.cells]
  simp -implicitDefEqProofs [h64]
  refine AGo.rounds (fun m ρ K => ∃ (seen : List Nat) (first : Bool) (ts : Rg.Tok) (Ks : Heap), m = 2 * (65 - seen.length) + (if first = true then 1 else 0) ∧ seen.Nodup ∧ (∀ x ∈ seen, x ∈ idsN l) ∧ a ∈ seen ∧ (∀ x ∈ seen, x = a ∨ Comes (Waits l) a x) ∧
      Gr 28 1 H (nuAV seen) ts Ks ∧ HLe Ks K ∧ ρ 0 = .sl (ndsAV l) t ∧ ρ 2 = .sc (.int .u64 (b : Int)) ∧ ρ 7 = .sl (nuAV seen) ts ∧ ρ 8 = .sc (.bool first)) ?_ (m := 2 * (65 - 1) + 1) (HLe.refl H)
    ⟨[a], true, .full, H, rfl, by simp, by simpa using ha, by simp, by simp, .full, HLe.refl _, by simp, by simp, by simp, by simp⟩
  rintro m ρ K ih ⟨seen, first, ts, Ks, hm, hsn, hsi, has, hsc, hgs, hKs, r0, r2, r7, r8⟩
  have hsl : seen.length ≤ 64 := by
    have := nodup_len _ _ hsn hsi
    rw [ids_len] at this
    omega
  simp -implicitDefEqProofs [r0, r2, r7, r8]
  refine AGo.rounds (fun m ρ K' => ∃ (i : Nat) (more : List Nat) (tm : Rg.Tok), m = l.length - i ∧ i ≤ l.length ∧ more.Nodup ∧ (∀ x ∈ more, x ∉ seen) ∧ (∀ d ∈ more, ∃ x ∈ seen, Waits l x d) ∧ (∀ n ∈ l.take i, n.1 ∈ seen → ∀ d ∈ n.2, d ≠ b ∧ (d ∈ seen ∨ d ∈ more)) ∧ Gr 28 1 K (nuAV more) tm K' ∧
      ρ 0 = .sl (ndsAV l) t ∧ ρ 2 = .sc (.int .u64 (b : Int)) ∧ ρ 7 = .sl (nuAV seen) ts ∧ ρ 8 = .sc (.bool first) ∧ ρ 9 = .sl (nuAV more) tm ∧ ρ 10 = .sc (.int .i64 (i : Int))) ?_ (m := l.length) (HLe.refl _)
    ⟨0, [], .nil, rfl, by omega, by simp, by simp, by simp, by simp, .nil, by simp [r0], by simp [r2], by simp [r7], by simp [r8], by simp, by simp⟩
  clear r0 r2 r7 r8
  rintro m2 ρ K2 ih2 ⟨i, more, tm, rfl, hi, hmn, hms, hmw, hdone, hgm, r0, r2, r7, r8, r9, r10⟩
  have hml : more.length ≤ 64 := by
    have := nodup_len more (idsN l) hmn fun d hd' => by
      obtain ⟨x, _, q, h1, h2⟩ := hmw d hd'
      exact Classical.byContradiction fun h => hd ⟨_, h1, d, h2, h⟩
    rw [ids_len] at this
    omega
  by_cases hlt : i < l.length
  · have hlt' : (i : Int) < (l.length : Int) := by omega
    obtain ⟨y, hyj, hy⟩ := getAt hlt
    have hyl := List.mem_of_getElem? hy
    have hy8 := h8 y hyl
    have w1 : IntKind.i64.wrap ((i : Int) + 1) = ((i + 1 : Nat) : Int) := by rw [wrap_i64 (by omega) (by omega)]; omega
    have htk : ∀ n, n ∈ l.take (i + 1) → n ∈ l.take i ∨ n = y := fun n hn => by
      rw [List.take_add_one, hy] at hn
      rcases List.mem_append.1 hn with hn | hn
      · exact .inl hn
      · exact .inr (by simpa using hn)
    simp -implicitDefEqProofs [r0, r2, r7, r8, r9, r10, hlt, hlt', hyj]
    refine ACall.eq (c_has13 seen ts y.1 (by omega)) ?_
    by_cases hys : y.1 ∈ seen
    · simp -implicitDefEqProofs [hys]
      refine AGo.rounds (fun m ρ K' => ∃ (k : Nat) (more : List Nat) (tm : Rg.Tok), m = y.2.length - k ∧ k ≤ y.2.length ∧ more.Nodup ∧ (∀ x ∈ more, x ∉ seen) ∧ (∀ d ∈ more, ∃ x ∈ seen, Waits l x d) ∧ (∀ n ∈ l.take i, n.1 ∈ seen → ∀ d ∈ n.2, d ≠ b ∧ (d ∈ seen ∨ d ∈ more)) ∧ (∀ d ∈ y.2.take k, d ≠ b ∧ (d ∈ seen ∨ d ∈ more)) ∧ Gr 28 1 K (nuAV more) tm K' ∧
          ρ 0 = .sl (ndsAV l) t ∧ ρ 2 = .sc (.int .u64 (b : Int)) ∧ ρ 7 = .sl (nuAV seen) ts ∧ ρ 8 = .sc (.bool first) ∧ ρ 9 = .sl (nuAV more) tm ∧ ρ 10 = .sc (.int .i64 (i : Int)) ∧ ρ 11 = .sc (.int .i64 (k : Int))) ?_ (m := y.2.length) (HLe.refl _)
        ⟨0, more, tm, rfl, by omega, hmn, hms, hmw, hdone, by simp, hgm, by simp [r0], by simp [r2], by simp [r7], by simp [r8], by simp [r9], by simp [r10], by simp⟩
      clear r0 r2 r7 r8 r9 r10 hmn hms hmw hdone hgm hml more tm
      rintro m3 ρ K3 ih3 ⟨k, more, tm, rfl, hk, hmn, hms, hmw, hdone, hdk, hgm, r0, r2, r7, r8, r9, r10, r11⟩
      have hml : more.length ≤ 64 := by
        have := nodup_len more (idsN l) hmn fun d hd' => by
          obtain ⟨x, _, q, h1, h2⟩ := hmw d hd'
          exact Classical.byContradiction fun h => hd ⟨_, h1, d, h2, h⟩
        rw [ids_len] at this
        omega
      by_cases hkt : k < y.2.length
      · have hkt' : (k : Int) < (y.2.length : Int) := by omega
        obtain ⟨z, hzj, hz⟩ := getAt hkt
        have w2 : IntKind.i64.wrap ((k : Int) + 1) = ((k + 1 : Nat) : Int) := by rw [wrap_i64 (by omega) (by omega)]; omega
        have hwz : Waits l y.1 z := ⟨y.2, hyl, List.mem_of_getElem? hz⟩
        by_cases hzb : z = b
        · have hzb' : (z : Int) = (b : Int) := by omega
          simp -implicitDefEqProofs [r0, r2, r7, r8, r9, r10, r11, hlt, hlt', hyj, hkt, hkt', hzj, hzb']
          subst hR
          refine AFin.intro _ _ (wk_refl _) (HWk.refl _) ⟨true, rfl, ⟨fun _ => ?_, fun _ => rfl⟩, hgs.le.trans (hKs.trans hgm.le)⟩
          rw [← hzb]
          rcases hsc _ hys with e | e
          · rw [← e]; exact .one hwz
          · exact .more e hwz
        · have hzb' : ¬ (z : Int) = (b : Int) := by omega
          simp -implicitDefEqProofs [r0, r2, r7, r8, r9, r10, r11, hlt, hlt', hyj, hkt, hkt', hzj, hzb']
          refine ACall.eq (c_has13 seen ts z (by omega)) ?_
          by_cases hzs : z ∈ seen
          · simp -implicitDefEqProofs [hzs, r11, w2]
            exact AGo.again ih3 (m' := y.2.length - (k + 1)) (by omega) (HLe.refl _) ⟨k + 1, more, tm, rfl, by omega, hmn, hms, hmw, hdone, fun d hd' => by
              rw [List.take_add_one, hz] at hd'
              rcases List.mem_append.1 hd' with hd' | hd'
              · exact hdk d hd'
              · simp at hd'; subst hd'; exact ⟨hzb, .inl hzs⟩, hgm, by simp [r0], by simp [r2], by simp [r7], by simp [r8], by simp [r9], by simp [r10], by simp⟩
          · simp -implicitDefEqProofs [hzs, r9]
            refine ACall.eq (c_has13 more tm z (by omega)) ?_
            by_cases hzm : z ∈ more
            · simp -implicitDefEqProofs [hzm, r11, w2]
              exact AGo.again ih3 (m' := y.2.length - (k + 1)) (by omega) (HLe.refl _) ⟨k + 1, more, tm, rfl, by omega, hmn, hms, hmw, hdone, fun d hd' => by
                rw [List.take_add_one, hz] at hd'
                rcases List.mem_append.1 hd' with hd' | hd'
                · exact hdk d hd'
                · simp at hd'; subst hd'; exact ⟨hzb, .inr hzm⟩, hgm, by simp [r0], by simp [r2], by simp [r7], by simp [r8], by simp [r9], by simp [r10], by simp⟩
            · have hap : nuAV more ++ [(.sc (.int .u64 (z : Int)) : AV)] = nuAV (more ++ [z]) := by simp
              simp -implicitDefEqProofs [hzm, r9]
              refine AApp.grE el_31 hgm (hsz _) (by simp [szs, AV.cells]) (by simp; omega) (by simp [maxLen]; omega) fun t' Hn hgm' => ?_
              rw [hap] at hgm' ⊢
              simp -implicitDefEqProofs [r11, w2]
              exact AGo.again ih3 (m' := y.2.length - (k + 1)) (by omega) (HLe.refl _) ⟨k + 1, more ++ [z], t', rfl, by omega, by
                rw [List.nodup_append]
                exact ⟨hmn, by simp, fun p hp q hq => by rw [List.mem_singleton.1 hq]; rintro rfl; exact hzm hp⟩, fun x hx => by
                rcases List.mem_append.1 hx with hx | hx
                · exact hms x hx
                · rw [List.mem_singleton.1 hx]; exact hzs, fun d hd' => by
                rcases List.mem_append.1 hd' with hd' | hd'
                · exact hmw d hd'
                · rw [List.mem_singleton.1 hd']; exact ⟨_, hys, hwz⟩, fun n hn h1 d h2 => by
                have := hdone n hn h1 d h2
                exact ⟨this.1, this.2.imp id fun h => List.mem_append.2 (.inl h)⟩, fun d hd' => by
                rw [List.take_add_one, hz] at hd'
                rcases List.mem_append.1 hd' with hd' | hd'
                · have := hdk d hd'
                  exact ⟨this.1, this.2.imp id fun h => List.mem_append.2 (.inl h)⟩
                · simp at hd'; subst hd'; exact ⟨hzb, .inr (by simp)⟩, hgm', by simp [r0], by simp [r2], by simp [r7], by simp [r8], by simp, by simp [r10], by simp⟩
      · have hkt' : ¬ (k : Int) < (y.2.length : Int) := by omega
        rw [List.take_of_length_le (by omega)] at hdk
        simp -implicitDefEqProofs [r0, r2, r7, r8, r9, r10, r11, hlt, hlt', hyj, hkt, hkt', w1]
        exact AGo.again ih2 (m' := l.length - (i + 1)) (by omega) (HLe.refl _) ⟨i + 1, more, tm, rfl, by omega, hmn, hms, hmw, fun n hn h1 d h2 => by
          rcases htk n hn with hn | rfl
          · exact hdone n hn h1 d h2
          · exact hdk d h2, hgm, by simp [r0], by simp [r2], by simp [r7], by simp [r8], by simp [r9], by simp⟩
    · simp -implicitDefEqProofs [hys, r10, w1]
      exact AGo.again ih2 (m' := l.length - (i + 1)) (by omega) (HLe.refl _) ⟨i + 1, more, tm, rfl, by omega, hmn, hms, hmw, fun n hn h1 d h2 => by
        rcases htk n hn with hn | rfl
        · exact hdone n hn h1 d h2
        · exact absurd h1 hys, hgm, by simp [r0], by simp [r2], by simp [r7], by simp [r8], by simp [r9], by simp⟩
  · have hlt' : ¬ (i : Int) < (l.length : Int) := by omega
    rw [List.take_of_length_le (by omega)] at hdone
    by_cases hm0 : more = []
    · subst hm0
      cases first with
      | false =>
        simp -implicitDefEqProofs [r0, r2, r7, r8, r9, r10, hlt, hlt']
        subst hR
        refine AFin.intro _ _ (wk_refl _) (HWk.refl _) ⟨false, rfl, ⟨fun h => by simp at h, fun h => ?_⟩, hgs.le.trans (hKs.trans hgm.le)⟩
        exact absurd rfl (closed_no (fun n hn h1 d h2 => ⟨(hdone n hn h1 d h2).1, by simpa using (hdone n hn h1 d h2).2⟩) has h).1
      | true =>
        simp -implicitDefEqProofs [r0, r2, r7, r8, r9, r10, hlt, hlt']
        refine AApp.gr el_31 hgs (hKs.trans hgm.le) (hsz _) (by simp [szs]) (by simp; omega) (by simp [maxLen]; omega) fun t' K' Hn hg' hl' => ?_
        rw [List.append_nil] at hg' ⊢
        simp -implicitDefEqProofs
        exact AGo.again ih (m' := 2 * (65 - seen.length)) (by rw [hm]; simp) (HLe.refl _) ⟨seen, false, t', K', by simp, hsn, hsi, has, hsc, hg', hl', by simp [r0], by simp [r2], by simp, by simp⟩
    · have hml0 : ¬ more.length = 0 := fun h => hm0 (List.length_eq_zero_iff.1 h)
      have hml1 : ¬ (more.length : Int) = 0 := by omega
      have hap : nuAV seen ++ nuAV more = nuAV (seen ++ more) := by simp
      simp -implicitDefEqProofs [r0, r2, r7, r8, r9, r10, hlt, hlt', hml0, hml1, hm0]
      refine AApp.gr el_31 hgs (hKs.trans hgm.le) (hsz _) (hsz _) (by simp; omega) (by simp [maxLen]; omega) fun t' K' Hn hg' hl' => ?_
      rw [hap] at hg' ⊢
      simp -implicitDefEqProofs
      have hm2 : 2 * (65 - (seen ++ more).length) < m := by
        rw [hm, List.length_append]
        omega
      exact AGo.again ih (m' := 2 * (65 - (seen ++ more).length)) hm2 (HLe.refl _) ⟨seen ++ more, false, t', K', by simp, by
        rw [List.nodup_append]
        exact ⟨hsn, hmn, fun p hp q hq => by rintro rfl; exact hms p hq hp⟩, fun x hx => by
        rcases List.mem_append.1 hx with hx | hx
        · exact hsi x hx
        · obtain ⟨q, _, e, h1, h2⟩ := hmw x hx
          exact Classical.byContradiction fun h => hd ⟨_, h1, x, h2, h⟩, List.mem_append.2 (.inl has), fun x hx => by
        rcases List.mem_append.1 hx with hx | hx
        · exact hsc x hx
        · obtain ⟨q, hq, hw⟩ := hmw x hx
          rcases hsc q hq with e | e
          · subst e; exact .inr (.one hw)
          · exact .inr (.more e hw), hg', hl', by simp [r0], by simp [r2], by simp, by simp⟩
end Go.Proofs.YtlhgpodfhdddkaaGreatDoor
namespace Go.Proofs.YtlhgpodfhdddkaaGreatDoor
open Rg Go Go.RowKit
variable {H : Heap}
theorem c_values (l : List Nat) (t : Rg.Tok) : ACalls Tryz.prog 64 [.sl (nuK l) t] H (fun v K => ∃ b, v = .sc (.func (.func 78) #[] #[.pointer (some ⟨b, 0, none⟩)]) ∧ HLe H K ∧ K b = some (.cells [.sl (nuK l) t] 31)) := by
  refine ACalls.into Tryz.func64 rfl Tryz.ntmps64 Tryz.results64 (by simp) ?_
  simp -implicitDefEqProofs [AV.cells]
  refine AAlloc.intro fun b hb => ?_
  simp -implicitDefEqProofs
  exact ⟨_, _, wk_refl _, HWk.refl _, b, rfl, HLe.set_fresh hb, by simp [Heap.set]⟩
theorem iter_values {b1 : Nat} {T : TypeId} {l : List Nat} {t : Rg.Tok} (hl : l.length ≤ 1000000) (k1 : H b1 = some (.cells [.sl (nuK l) t] T)) :
    IterU 78 [.sc (.pointer (some ⟨b1, 0, none⟩))] l.length H (fun ks => ks = l) := by
  refine ⟨by simp, ?_⟩
  intro H' ly J Jx hle hJ hL hS hY h0
  have k1' := hle _ _ k1
  generalize hR : (fun (_ : AV) (K : Heap) => (∃ ks : List Nat, ks = l ∧ J ks K) ∨ Jx K) = R
  refine ACalls.into Tryz.func78 rfl Tryz.ntmps78 Tryz.results78 (by simp) ?_
  simp -implicitDefEqProofs [k1']
  refine AGo.rounds (fun m ρ K => ∃ i : Nat, m = l.length - i ∧ i ≤ l.length ∧ ρ 0 = .sc (.func (.yield ly) #[] #[]) ∧ ρ 5 = .sl (nuK l) t ∧ ρ 6 = .sc (.int .i64 (l.length : Int)) ∧ ρ 7 = .sc (.int .i64 (i : Int)) ∧ J (l.take i) K) ?_ (m := l.length) (HLe.refl _)
    ⟨0, rfl, by omega, by simp, by simp, by simp, by simp, by simpa using h0⟩
  rintro m ρ K ih ⟨i, rfl, hi, r0, r5, r6, r7, hJK⟩
  by_cases hlt : i < l.length
  · have hlt' : (i : Int) < (l.length : Int) := by omega
    obtain ⟨y, hyj, hy⟩ := getAt hlt
    have w1 : IntKind.i64.wrap ((i : Int) + 1) = ((i + 1 : Nat) : Int) := by rw [wrap_i64 (by omega) (by omega)]; omega
    have ht : l.take (i + 1) = l.take i ++ [y] := by rw [List.take_add_one, hy]; rfl
    simp -implicitDefEqProofs [r0, r5, r6, r7, hlt, hlt', hyj]
    refine ACall.intro (hY _ _ y (by rw [List.length_take]; omega) hJK) fun v K4 hv => ?_
    obtain ⟨_, hv⟩ := hv
    rcases hv with ⟨rfl, hJ4⟩ | ⟨rfl, hJx⟩
    · simp -implicitDefEqProofs [r7, w1]
      exact AGo.again ih (m' := l.length - (i + 1)) (by omega) (HLe.refl _) ⟨i + 1, rfl, by omega, by simp [r0], by simp [r5], by simp [r6], by simp, by rw [ht]; exact hJ4⟩
    · simp -implicitDefEqProofs
      subst hR
      exact AFin.intro _ _ (wk_refl _) (HWk.refl _) (.inr hJx)
  · have hlt' : ¬ (i : Int) < (l.length : Int) := by omega
    rw [List.take_of_length_le (by omega)] at hJK
    simp -implicitDefEqProofs [r0, r5, r6, r7, hlt, hlt']
    subst hR
    exact AFin.intro _ _ (wk_refl _) (HWk.refl _) (.inl ⟨_, rfl, hJK⟩)
theorem c_compactNil : AOk Tryz.prog 59 [.sc (.slice none 0 0)] H (.sc (.slice none 0 0)) H := by
  refine ACalls.into Tryz.func59 rfl Tryz.ntmps59 Tryz.results59 (by simp) ?_
  simp -implicitDefEqProofs
set_option maxHeartbeats 4000000 in
theorem c_compact {b n cap : Nat} {T : TypeId} {rest : List AV} {d : Array Nat} (hn : d.size = n) (hl : n ≤ 1000000) (hc : n ≤ cap) (h : H b = some (rowC T d rest)) :
    ACalls Tryz.prog 59 [slV b n cap] H (fun v K => ∃ (k : Nat) (cs : List AV), v = slV b k cap ∧ k ≤ n ∧ (0 < n → 0 < k) ∧ (k < n ↔ ∃ i : Nat, i + 1 < n ∧ d[i]! = d[i + 1]!) ∧ K = H.set b (.cells cs T)) := by
  generalize hR : (fun (v : AV) (K : Heap) => ∃ (k : Nat) (cs : List AV), v = slV b k cap ∧ k ≤ n ∧ (0 < n → 0 < k) ∧ (k < n ↔ ∃ i : Nat, i + 1 < n ∧ d[i]! = d[i + 1]!) ∧ K = H.set b (.cells cs T)) = R
  have hT : Tryz.prog.underlying 31 = some (.slice 28) := by kernel_rfl
  have htz : tzero Tryz.prog 28 = some (.int .u64 0) := by kernel_rfl
  refine ACalls.into Tryz.func59 rfl Tryz.ntmps59 Tryz.results59 (by simp) ?_
  by_cases h2 : n < 2
  · have h2' : (n : Int) < 2 := by omega
    simp -implicitDefEqProofs [h2']
    subst hR
    exact AFin.intro _ _ (wk_refl _) (HWk.refl _) ⟨n, _, rfl, Nat.le_refl _, id, ⟨fun h => by omega, fun ⟨i, h, _⟩ => by omega⟩, (set_same h).symm⟩
  have h2' : ¬ (n : Int) < 2 := by omega
  simp -implicitDefEqProofs [h2']
  refine AGo.rounds (fun m ρ K => ∃ k : Nat, m = n - k ∧ 1 ≤ k ∧ k ≤ n ∧ (∀ i : Nat, i + 1 < k → d[i]! ≠ d[i + 1]!) ∧ ρ 0 = slV b n cap ∧ ρ 3 = .sc (.int .i64 (k : Int)) ∧ K = H) ?_ (m := n - 1) (HLe.refl _)
    ⟨1, rfl, by omega, by omega, fun i hi => by omega, by simp, by simp, rfl⟩
  rintro m ρ K ih ⟨k, rfl, hk1, hk, hno, r0, r3, rfl⟩
  by_cases hlt : k < n
  · have hlt' : (k : Int) < (n : Int) := by omega
    obtain ⟨q, rfl⟩ : ∃ q, k = q + 1 := ⟨k - 1, by omega⟩
    have g1 := row_get (rest := rest) (show q + 1 < d.size by omega)
    have g0 := row_get (rest := rest) (show q < d.size by omega)
    have w0 : IntKind.i64.wrap (q : Int) = (q : Int) := wrap_i64 (by omega) (by omega)
    have w2 : IntKind.i64.wrap ((q : Int) + 1 + 1) = ((q + 1 + 1 : Nat) : Int) := by rw [wrap_i64 (by omega) (by omega)]; omega
    have tq : ((q : Int) + 1).toNat = q + 1 := by omega
    have nq : ¬ (q : Int) + 1 < 0 := by omega
    have hqn : q < n := by omega
    have hlt'' : (q : Int) + 1 < (n : Int) := by omega
    obtain ⟨x1, hx1⟩ : ∃ x, d[q + 1]! = x := ⟨_, rfl⟩
    obtain ⟨x0, hx0⟩ : ∃ x, d[q]! = x := ⟨_, rfl⟩
    rw [hx1] at g1
    rw [hx0] at g0
    simp -implicitDefEqProofs [r0, r3, hlt, hlt'']
    refine go_draw 10 f_mixed (by decide +kernel) ?_
    by_cases he : x1 = x0
    · have he' : (x1 : Int) = (x0 : Int) := by omega
      simp -implicitDefEqProofs [r0, r3, w0, tq, nq, h, rd_row, g1, g0, hlt, hlt'', hqn, he']
      have hfr := c_sliceFrom (H := K) (k := .i64) (T := 31) (sz := 1) hT (by kernel_rfl) (g := b) (o := 0) (len := n) (cap := cap) (lo := q + 1) (by omega) hc
      have hoff : (if cap = q + 1 then 0 else 0 + (q + 1) * 1) = q + 1 := by rw [if_neg (by omega), Nat.zero_add, Nat.mul_one]
      rw [hoff] at hfr
      obtain ⟨p, hp⟩ : ∃ p, n - (q + 1) = p := ⟨_, rfl⟩
      obtain ⟨pc, hpc⟩ : ∃ p, cap - (q + 1) = p := ⟨_, rfl⟩
      rw [hp, hpc] at hfr
      refine ACall.eq hfr ?_
      simp -implicitDefEqProofs
      clear ih hno g1 g0 he' hfr hoff
      refine AGo.rounds (fun m ρ K' => ∃ (j k' : Nat) (d' : Array Nat), m = p - j ∧ 1 ≤ j ∧ j ≤ p ∧ q + 1 ≤ k' ∧ k' < q + 1 + j ∧ d'.size = n ∧ ρ 0 = slV b n cap ∧ ρ 3 = .sc (.int .i64 (k' : Int)) ∧ ρ 4 = .sc (.slice (some ⟨b, q + 1, none⟩) p pc) ∧ ρ 5 = .sc (.int .i64 (j : Int)) ∧ K' = K.set b (rowC T d' rest)) ?_ (m := p - 1) (HLe.refl _)
        ⟨1, q + 1, d, rfl, by omega, by omega, by omega, by omega, hn, by simp [r0], by simp [r3], by simp, by simp, (set_same h).symm⟩
      clear r0 r3
      rintro m ρ K' ih ⟨j, k', d', rfl, hj1, hj, hk1, hk2, hdn, r0, r3, r4, r5, rfl⟩
      by_cases hjt : j < p
      · obtain ⟨r, rfl⟩ : ∃ r, j = r + 1 := ⟨j - 1, by omega⟩
        have g1 := row_get (rest := rest) (show q + 1 + (r + 1) < d'.size by omega)
        have g0 := row_get (rest := rest) (show q + 1 + r < d'.size by omega)
        have w0 : IntKind.i64.wrap (r : Int) = (r : Int) := wrap_i64 (by omega) (by omega)
        have w2 : IntKind.i64.wrap ((r : Int) + 1 + 1) = ((r + 1 + 1 : Nat) : Int) := by rw [wrap_i64 (by omega) (by omega)]; omega
        have w3 : IntKind.i64.wrap ((k' : Int) + 1) = ((k' + 1 : Nat) : Int) := by rw [wrap_i64 (by omega) (by omega)]; omega
        have tr : ((r : Int) + 1).toNat = r + 1 := by omega
        have nr : ¬ (r : Int) + 1 < 0 := by omega
        have hjt'' : (r : Int) + 1 < (p : Int) := by omega
        have hrp : r < p := by omega
        have hkn : k' < n := by omega
        obtain ⟨y1, hy1⟩ : ∃ x, d'[q + 1 + (r + 1)]! = x := ⟨_, rfl⟩
        obtain ⟨y0, hy0⟩ : ∃ x, d'[q + 1 + r]! = x := ⟨_, rfl⟩
        rw [hy1] at g1
        rw [hy0] at g0
        simp -implicitDefEqProofs [r0, r3, r4, r5, hjt'']
        refine go_draw 10 f_mixed (by decide +kernel) ?_
        by_cases hy : y1 = y0
        · have hy' : (y1 : Int) = (y0 : Int) := by omega
          simp -implicitDefEqProofs [r0, r3, r4, r5, w0, tr, nr, rd_row, g1, g0, hjt, hjt'', hrp, hy', w2]
          exact AGo.again ih (m' := p - (r + 1 + 1)) (by omega) (HLe.refl _) ⟨r + 1 + 1, k', d', rfl, by omega, by omega, by omega, by omega, hdn, by simp [r0], by simp [r3], by simp [r4], by simp, rfl⟩
        · have hy' : ¬ (y1 : Int) = (y0 : Int) := by omega
          have rs : (d'.toList.map uAV ++ rest).set k' (uAV y1) = (d'.setIfInBounds k' y1).toList.map uAV ++ rest := row_set (by omega)
          simp -implicitDefEqProofs [r0, r3, r4, r5, w0, tr, nr, rd_row, g1, g0, hjt, hjt'', hrp, hy', w2, w3, hkn]
          have hks : k' + 1 ≤ d'.size + rest.length := by omega
          simp -implicitDefEqProofs [st_row, hks]
          rw [rs, ← st_row]
          simp -implicitDefEqProofs [r3, w3, r5, w2]
          exact AGo.again ih (m' := p - (r + 1 + 1)) (by omega) (HLe.refl _) ⟨r + 1 + 1, k' + 1, d'.setIfInBounds k' y1, rfl, by omega, by omega, by omega, by omega, by simpa using hdn, by simp [r0], by simp, by simp [r4], by simp, rfl⟩
      · have hjp : j = p := by omega
        subst hjp
        have hlt' : ¬ (j : Int) < (j : Int) := by omega
        simp -implicitDefEqProofs [r0, r3, r4, r5]
        have hfr := fun K => c_sliceFrom (H := K) (k := .i64) (T := 31) (sz := 1) hT (by kernel_rfl) (g := b) (o := 0) (len := n) (cap := cap) (lo := k') (by omega) hc
        have hoff : (if cap = k' then 0 else 0 + k' * 1) = k' := by rw [if_neg (by omega), Nat.zero_add, Nat.mul_one]
        rw [hoff] at hfr
        have kg : (K.set b (rowC T d' rest)) b = some (.cells (d'.toList.map uAV ++ rest) T) := by simp [Heap.set, rowC]
        have hcl := c_clearBare (P := Tryz.prog) (n := n - k') (c := cap - k') (o := k') (sz := 1) hT htz (fun q hq => by simp [Value.cells] at hq; subst hq; rfl) rfl (by omega) kg (by simp; omega)
        have hto := fun K => c_sliceTo (H := K) (k := .i64) (T := 31) (sz := 1) hT (by kernel_rfl) (g := b) (o := 0) (len := n) (cap := cap) (hi := k') (by omega)
        refine ACall.eq (hfr _) ?_
        simp -implicitDefEqProofs
        refine ACall.eq hcl ?_
        simp -implicitDefEqProofs [r0, r3]
        refine ACall.eq (hto _) ?_
        simp -implicitDefEqProofs
        subst hR
        exact AFin.intro _ _ (wk_refl _) (HWk.refl _) ⟨k', _, rfl, by omega, fun _ => by omega, ⟨fun _ => ⟨q, by omega, by rw [hx0, hx1, he]⟩, fun _ => by omega⟩, rfl⟩
    · have he' : ¬ (x1 : Int) = (x0 : Int) := by omega
      simp -implicitDefEqProofs [r0, r3, w0, w2, tq, nq, h, rd_row, g1, g0, hlt, hlt'', hqn, he']
      exact AGo.again ih (m' := n - (q + 1 + 1)) (by omega) (HLe.refl _) ⟨q + 1 + 1, rfl, by omega, by omega, fun i hi => by
        by_cases hiq : i = q
        · subst hiq; rw [hx0, hx1]; exact fun e => he e.symm
        · exact hno i (by omega), by simp [r0], by simp, rfl⟩
  · have hlt' : ¬ (k : Int) < (n : Int) := by omega
    simp -implicitDefEqProofs [r0, r3, hlt, hlt']
    subst hR
    exact AFin.intro _ _ (wk_refl _) (HWk.refl _) ⟨n, _, rfl, Nat.le_refl _, id, ⟨fun h => by omega, fun ⟨i, h, e⟩ => absurd e (hno i (by omega))⟩, (set_same h).symm⟩
end Go.Proofs.YtlhgpodfhdddkaaGreatDoor
namespace Go.Proofs.YtlhgpodfhdddkaaGreatDoor
open Rg Go Go.RowKit
variable {H : Heap}
theorem st_lookup {P : Program} {T : TypeId} {x i : Operand} {ok : Bool} {ev : Operand → AV} : astepV P (.lookup T x i ok) ev H = .call P.funcs.size (pa (if ok then 2 else 1) T [ev x, ev i]) := rfl
theorem st_update {P : Program} {T : TypeId} {m k x : Operand} {ev : Operand → AV} : astepV P (.mapUpdate T m k x) ev H = .call P.funcs.size (pa 3 T [ev m, ev k, ev x]) := rfl
theorem st_make {P : Program} {T : TypeId} {ev : Operand → AV} : astepV P (.makeMap T none) ev H = .call P.funcs.size (pa 4 T []) := rfl
theorem nodup_idx {l : List Nat} (h : l.Nodup) {i j a : Nat} (hi : l[i]? = some a) (hj : l[j]? = some a) : i = j := by
  obtain ⟨h1, e1⟩ := List.getElem?_eq_some_iff.1 hi
  obtain ⟨h2, e2⟩ := List.getElem?_eq_some_iff.1 hj
  have hp := List.pairwise_iff_getElem.1 h
  rcases Nat.lt_trichotomy i j with hlt | e | hlt
  · exact absurd (e1.trans e2.symm) (hp i j h1 h2 hlt)
  · exact e
  · exact absurd (e2.trans e1.symm) (hp j i h2 h1 hlt)
theorem ty_of {P : Program} {T : TypeId} (h : (P.underlying T).isSome = true) : ∃ d, P.underlying T = some d := Option.isSome_iff_exists.1 h
theorem aeqv_n (k x : Nat) : aeqv Tryz.prog 5 28 (uAV k) (uAV x) = some (decide (k = x)) := by
  have e : decide (k = x) = decide ((k : Int) = (x : Int)) := by
    by_cases h : k = x
    · subst h; simp
    · have : ¬ (k : Int) = (x : Int) := by omega
      simp [h, this]
  rw [e]
  unfold aeqv
  simp [tkd_28]
  rfl
theorem acheck_n (k : Nat) : acheck Tryz.prog 3 28 (uAV k) = true := by kernel_rfl
theorem hit_me {L : List ME} (hk : (L.map fun e => e.1).Nodup) {i : Nat} {e : ME} (he : L[i]? = some e) : afind Tryz.prog 28 (uAV e.1) (L.map meAV) 0 = some (some (i, e.2.1)) := by
  have := afind_hit (P := Tryz.prog) (kt := 28) (k := uAV e.1) (fun p : ME => uAV p.1) (fun p => p.2.1) (fun p => p.2.2) (fun p => decide (e.1 = p.1)) L 0 i e (fun p _ => aeqv_n e.1 p.1) he (by simp) fun j p hj hp => by
    simp only [decide_eq_false_iff_not]
    intro h
    have h1 : (L.map fun e => e.1)[i]? = some e.1 := by rw [List.getElem?_map, he]; rfl
    have h2 : (L.map fun e => e.1)[j]? = some e.1 := by rw [List.getElem?_map, hp, h]; rfl
    have := nodup_idx hk h1 h2
    omega
  rw [Nat.zero_add] at this
  exact this
theorem miss_me {L : List ME} {k : Nat} (h : ∀ e ∈ L, e.1 ≠ k) : afind Tryz.prog 28 (uAV k) (L.map meAV) 0 = some none :=
  afind_miss (P := Tryz.prog) (kt := 28) (k := uAV k) (fun p : ME => uAV p.1) (fun p => p.2.1) (fun p => p.2.2) (fun p => decide (k = p.1)) L 0 (fun p _ => aeqv_n k p.1) fun p hp => by
    simp only [decide_eq_false_iff_not]
    exact fun e => h p hp e.symm
theorem c_order1 (out : List Nat) (t : Rg.Tok) (x b6 : Nat) (hl : out.length ≤ 1000000) (k6 : H b6 = some (.cells [.sl (nuK out) t] 31)) :
    AOk Tryz.prog 68 [uAV x, .sc (.pointer (some ⟨b6, 0, none⟩))] H (.sc (.bool (decide (x ∉ out)))) H := by
  refine ACalls.into Tryz.func68 rfl Tryz.ntmps68 Tryz.results68 (by simp) ?_
  simp -implicitDefEqProofs [k6]
  refine ACall.eq (c_containsU out t x hl) ?_
  by_cases h : x ∈ out
  · simp -implicitDefEqProofs [h]
  · simp -implicitDefEqProofs [h]
theorem c_indexF (l out : List Nat) (tl t : Rg.Tok) (b6 : Nat) (hll : l.length ≤ 1000000) (hl : out.length ≤ 1000000) (k6 : H b6 = some (.cells [.sl (nuK out) t] 31)) :
    ACalls Tryz.prog 80 [.sl (nuK l) tl, .sc (.func (.func 68) #[] #[.pointer (some ⟨b6, 0, none⟩)])] H (fun v K => ∃ i : Int, v = .sc (.int .i64 i) ∧ (0 ≤ i ↔ ∃ d ∈ l, d ∉ out) ∧ K = H) := by
  generalize hR : (fun (v : AV) (K : Heap) => ∃ i : Int, v = .sc (.int .i64 i) ∧ (0 ≤ i ↔ ∃ d ∈ l, d ∉ out) ∧ K = H) = R
  refine ACalls.into Tryz.func80 rfl Tryz.ntmps80 Tryz.results80 (by simp) ?_
  simp -implicitDefEqProofs
  refine AGo.rounds (fun m ρ K => ∃ i : Nat, m = l.length - i ∧ i ≤ l.length ∧ (∀ y ∈ l.take i, y ∈ out) ∧ ρ 0 = .sl (nuK l) tl ∧ ρ 1 = .sc (.func (.func 68) #[] #[.pointer (some ⟨b6, 0, none⟩)]) ∧ ρ 7 = .sc (.int .i64 (l.length : Int)) ∧ ρ 8 = .sc (.int .i64 (i : Int)) ∧ K = H) ?_ (m := l.length) (HLe.refl H)
    ⟨0, rfl, by omega, by simp, by simp, by simp, by simp, by simp, rfl⟩
  rintro m ρ K ih ⟨i, rfl, hi, hno, r0, r1, r7, r8, rfl⟩
  by_cases hlt : i < l.length
  · have hlt' : (i : Int) < (l.length : Int) := by omega
    obtain ⟨y, hyj, hy⟩ := getAt hlt
    have w1 : IntKind.i64.wrap ((i : Int) + 1) = ((i + 1 : Nat) : Int) := by rw [wrap_i64 (by omega) (by omega)]; omega
    simp -implicitDefEqProofs [r0, r1, r7, r8, hlt, hlt', hyj]
    refine ACall.eq (c_order1 out t y b6 hl k6) ?_
    by_cases h : y ∈ out
    · simp -implicitDefEqProofs [h, r8, w1]
      exact AGo.again ih (m' := l.length - (i + 1)) (by omega) (HLe.refl _) ⟨i + 1, rfl, by omega, fun z hz => by
        rw [List.take_add_one, hy] at hz
        rcases List.mem_append.1 hz with hz | hz
        · exact hno z hz
        · simp at hz; rw [hz]; exact h, by simp [r0], by simp [r1], by simp [r7], by simp, rfl⟩
    · simp -implicitDefEqProofs [h]
      subst hR
      exact AFin.intro _ _ (wk_refl _) (HWk.refl _) ⟨i, rfl, ⟨fun _ => ⟨y, List.mem_of_getElem? hy, h⟩, fun _ => by omega⟩, rfl⟩
  · have hlt' : ¬ (i : Int) < (l.length : Int) := by omega
    rw [List.take_of_length_le (by omega)] at hno
    simp -implicitDefEqProofs [r0, r1, r7, r8, hlt, hlt']
    subst hR
    exact AFin.intro _ _ (wk_refl _) (HWk.refl _) ⟨-1, rfl, ⟨fun h => by omega, fun ⟨d, h1, h2⟩ => absurd (hno d h1) h2⟩, rfl⟩
theorem c_containsF (l out : List Nat) (tl t : Rg.Tok) (b6 : Nat) (hll : l.length ≤ 1000000) (hl : out.length ≤ 1000000) (k6 : H b6 = some (.cells [.sl (nuK out) t] 31)) :
    ACalls Tryz.prog 67 [.sl (nuK l) tl, .sc (.func (.func 68) #[] #[.pointer (some ⟨b6, 0, none⟩)])] H (fun v K => ∃ r : Bool, v = .sc (.bool r) ∧ (r = true ↔ ∃ d ∈ l, d ∉ out) ∧ K = H) := by
  generalize hR : (fun (v : AV) (K : Heap) => ∃ r : Bool, v = .sc (.bool r) ∧ (r = true ↔ ∃ d ∈ l, d ∉ out) ∧ K = H) = R
  refine ACalls.into Tryz.func67 rfl Tryz.ntmps67 Tryz.results67 (by simp) ?_
  simp -implicitDefEqProofs
  refine ACall.intro (c_indexF l out tl t b6 hll hl k6) fun v K hv => ?_
  obtain ⟨i, rfl, hi, rfl⟩ := hv
  simp -implicitDefEqProofs
  subst hR
  exact AFin.intro _ _ (wk_refl _) (HWk.refl _) ⟨decide (0 ≤ i), rfl, by simpa using hi, rfl⟩
structure OrdOk (l : List Nd) (out : List Nat) : Prop where
  nd : out.Nodup
  sub : ∀ a ∈ out, a ∈ idsN l
  ord : ∀ (i a : Nat), out[i]? = some a → ∃ ds, (a, ds) ∈ l ∧ ∀ d ∈ ds, d ∈ out.take i
theorem OrdOk.app {l : List Nd} {out : List Nat} (h : OrdOk l out) {y : Nd} (hy : y ∈ l) (hn : y.1 ∉ out) (hd : ∀ d ∈ y.2, d ∈ out) : OrdOk l (out ++ [y.1]) := by
  refine ⟨?_, fun a ha => ?_, fun i a ha => ?_⟩
  · rw [List.nodup_append]
    exact ⟨h.nd, by simp, fun p hp q hq => by rw [List.mem_singleton.1 hq]; rintro rfl; exact hn hp⟩
  · rcases List.mem_append.1 ha with ha | ha
    · exact h.sub a ha
    · rw [List.mem_singleton.1 ha]; exact List.mem_map_of_mem hy
  · by_cases hi : i < out.length
    · rw [List.getElem?_append_left hi] at ha
      obtain ⟨ds, h1, h2⟩ := h.ord i a ha
      refine ⟨ds, h1, fun d hd' => ?_⟩
      rw [List.take_append_of_le_length (by omega)]
      exact h2 d hd'
    · rw [List.getElem?_append_right (by omega)] at ha
      have hi0 : i - out.length = 0 := by
        have := (List.getElem?_eq_some_iff.1 ha).1
        simp at this
        omega
      rw [hi0] at ha
      simp at ha
      subst ha
      have : i = out.length := by omega
      subst this
      exact ⟨y.2, hy, fun d hd' => by rw [List.take_left']; exact hd d hd'; rfl⟩
theorem ord_circ {l : List Nd} {out : List Nat} (h : OrdOk l out) (hn : (idsN l).Nodup) (hd : ¬ noneN l) (hs : ∀ n ∈ l, n.1 ∉ out → ∃ d ∈ n.2, d ∉ out) : out.length < l.length ↔ Circ l := by
  constructor
  · intro hlt
    obtain ⟨S, hS⟩ : ∃ S, (idsN l).filter (fun a => decide (a ∉ out)) = S := ⟨_, rfl⟩
    have hmem : ∀ a, a ∈ S ↔ a ∈ idsN l ∧ a ∉ out := fun a => by rw [← hS, List.mem_filter, decide_eq_true_eq]
    have hne : S ≠ [] := fun e => by
      have : ∀ a ∈ idsN l, a ∈ out := fun a ha => Classical.byContradiction fun h2 => by
        have := (hmem a).2 ⟨ha, h2⟩
        rw [e] at this
        cases this
      have := nodup_len _ _ hn this
      rw [ids_len] at this
      omega
    obtain ⟨a, ha, hc⟩ := circle_of S.length S (Waits l) (Nat.le_refl _) hne fun a ha => by
      obtain ⟨h1, h2⟩ := (hmem a).1 ha
      obtain ⟨n, hnl, rfl⟩ := List.mem_map.1 h1
      obtain ⟨d, hd1, hd2⟩ := hs n hnl h2
      refine ⟨d, (hmem d).2 ⟨Classical.byContradiction fun h3 => hd ⟨n, hnl, d, hd1, h3⟩, hd2⟩, n.2, hnl, hd1⟩
    exact ⟨a, ((hmem a).1 ha).1, hc⟩
  · rintro ⟨a, ha, hc⟩
    refine Classical.byContradiction fun hlt => ?_
    have hall : a ∈ out := by
      refine Classical.byContradiction fun hao => ?_
      have := nodup_len (a :: out) (idsN l) (List.nodup_cons.2 ⟨hao, h.nd⟩) fun x hx => by
        rcases List.mem_cons.1 hx with rfl | hx
        · exact ha
        · exact h.sub x hx
      rw [ids_len] at this
      simp only [List.length_cons] at this
      omega
    obtain ⟨i, hi, hie⟩ := List.getElem_of_mem hall
    have h1 : out[i]? = some a := by rw [List.getElem?_eq_getElem hi, hie]
    obtain ⟨j, hji, hj⟩ := no_circle (R := Waits l) (out := out) (fun i a hia d hw => by
      obtain ⟨ds, h2, h3⟩ := h.ord i a hia
      obtain ⟨ds', h4, h5⟩ := hw
      have : (a, ds) = (a, ds') := map_inj (f := fun n : Nd => n.1) hn h2 h4 rfl
      cases this
      exact h3 d h5) hc i h1
    have := nodup_idx h.nd h1 hj
    omega
end Go.Proofs.YtlhgpodfhdddkaaGreatDoor
