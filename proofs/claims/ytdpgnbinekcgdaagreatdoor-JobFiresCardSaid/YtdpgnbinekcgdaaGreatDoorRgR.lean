/- The kit's contracts of Go's library, as contracts on abstract values; package variables. -/
import Derived.Test.YtdpgnbinekcgdaaGreatDoorRgP
import Derived.Deep.Draws
import Derived.Lib.Strings
namespace Rg
open Go Go.RowKit

variable {P : Program} {W0 w w' : World} {C : Com} {H K : Heap} {f : FuncId} {args : List AV}

theorem Inv.step (hi : Inv W0 C H w) (hb : Below w.heap.size w w') : Inv W0 C H w' := by
  have hs := hi.below.size
  refine ⟨hi.below.trans ⟨hb.os, hb.tape, hb.output, hb.size, fun k hk => hb.block k (by omega)⟩, fun b o u hu => ?_, fun b ob hob => ?_⟩
  · rw [World.cell?_of_block (w := w) (a := ⟨b, o, none⟩) (hb.block b (com_lt hi hu))]
    exact hi.com b o u hu
  · have h := hi.obj b ob hob
    exact ⟨h.1, h.2.heap (hb.block b h.2.lt)⟩

theorem below_drewN (w : World) (n : Nat) : Below w.heap.size w (w.drewN n) := by
  induction n with
  | zero => exact Below.refl _ _
  | succ n ih => exact ih.drew

/-- A value of the machine's, as an abstract one. -/
def avOf : Value → AV
  | .tuple us => .tup (us.toList.map AV.sc)
  | v => .sc v
theorem relL_scs (us : List Value) : RelL C (us.map AV.sc) us := by
  induction us with
  | nil => exact .nil
  | cons u us ih => exact .sc u ih
theorem rel_avOf (v : Value) : Rel C (avOf v) v := by
  unfold avOf
  split
  · rename_i us
    have := RelL.tup (C := C) (as := []) (vs := []) (relL_scs us.toList) .nil
    simpa [Rel] using this
  · exact Rel.sc _
theorem scs_of {vs us : List Value} (h : RelL C (vs.map AV.sc) us) : us = vs := by
  induction vs generalizing us with
  | nil => exact h.nil_inv
  | cons v vs ih =>
    obtain ⟨u, us', rfl, hu, hr⟩ := RelL.uncons h
    rw [hu.sc_inv, ih hr]

/-- A contract of the kit's: plain values go in and come out; what was there stays. -/
theorem AOk.kit {vs : List Value} {r : Value} (h : ∀ (W0 : World) (C : Com) (w : World), Inv W0 C H w → Calls P f vs.toArray w fun e w' => e = .returned r ∧ Below w.heap.size w w') : AOk P f (vs.map AV.sc) H (avOf r) H := by
  intro W0 C w us hi ha
  obtain rfl := scs_of ha
  exact .inl ((h W0 C w hi).mono fun e w' ⟨h1, h2⟩ => ⟨_, _, C, r, h1, ⟨rfl, rfl⟩, CLe.refl C, rel_avOf r, hi.step h2⟩)

/-- Strings, in a slice. -/
abbrev strAV (s : ByteArray) : AV := .sc (.string s)
abbrev strsAV (l : List ByteArray) : AV := .sl (l.map strAV) .no

theorem flat_strs (l : List ByteArray) : (l.map strAV).flatMap AV.cells = (l.map Value.string).map AV.sc := by
  induction l with
  | nil => rfl
  | cons s l ih => simp [AV.cells] at ih ⊢; exact ih

attribute [simp] AV.one
theorem HWk.dels {K H : Heap} {b : Nat} (hb : K b = Option.none) (h : HWk K H) : HWk K (H.del b) := fun c ob e => by
  obtain ⟨ob', h1, h2⟩ := h c ob e
  refine ⟨ob', ?_, h2⟩
  unfold Heap.del
  rw [if_neg (fun hc => by subst hc; rw [hb] at e; cases e)]
  exact h1
theorem ba_ext {a b : ByteArray} (h : a.data.toList = b.data.toList) : a = b := by
  apply ByteArray.ext
  exact Array.ext' h
@[simp] theorem ba_size (l : List UInt8) : (⟨l.toArray⟩ : ByteArray).size = l.length := by
  show l.toArray.size = l.length
  simp
@[simp] theorem ba_list (l : List UInt8) : (⟨l.toArray⟩ : ByteArray).toList = l := by rw [ByteArray.toList_eq]
@[simp] theorem ba_append (l m : List UInt8) : (⟨l.toArray⟩ : ByteArray) ++ ⟨m.toArray⟩ = ⟨(l ++ m).toArray⟩ := by
  apply ba_ext
  rw [ByteArray.data_append]
  simp
@[simp] theorem ba_extract (l : List UInt8) (a b : Nat) : (⟨l.toArray⟩ : ByteArray).extract a b = ⟨((l.take b).drop a).toArray⟩ := by
  apply ba_ext
  rw [Lib.extract_data]
  simp [List.drop_take]
@[simp] theorem sbin_eql (l m : List UInt8) : sbin .eql ⟨l.toArray⟩ ⟨m.toArray⟩ = .val (.sc (.bool (l == m))) := by simp [sbin]
@[simp] theorem sbin_neq (l m : List UInt8) : sbin .neq ⟨l.toArray⟩ ⟨m.toArray⟩ = .val (.sc (.bool !(l == m))) := by simp [sbin]
@[simp] theorem sbin_add (l m : List UInt8) : sbin .add ⟨l.toArray⟩ ⟨m.toArray⟩ = if l.length + m.length ≤ 9223372036854775807 then .val (.sc (.string ⟨(l ++ m).toArray⟩)) else .stuck := by simp [sbin]
theorem ba_inj {l m : List UInt8} : ((⟨l.toArray⟩ : ByteArray) = ⟨m.toArray⟩) = (l = m) := by
  apply propext
  exact ⟨fun h => by rw [← ba_list l, h, ba_list], fun h => by rw [h]⟩

/-- A contract that gives a new slice of strings. -/
theorem AOk.kitStrs {vs : List Value} {l : List ByteArray} {T : TypeId} (hl : l.length ≤ maxLen) (h : ∀ (W0 : World) (C : Com) (w : World), Inv W0 C H w → Calls P f vs.toArray w fun e w' => e = .returned (.slice (some ⟨w.heap.size, 0, none⟩) l.length l.length) ∧ w' = w.alloc (.cells (l.map Value.string).toArray T)) :
    AOk P f (vs.map AV.sc) H (strsAV l) H := by
  intro W0 C w us hi ha
  obtain rfl := scs_of ha
  refine .inl ((h W0 C w hi).mono fun e w' ⟨h1, h2⟩ => ?_)
  obtain ⟨hI, hC⟩ := hi.allocCom (l.map Value.string) [] T (0, 0)
  simp only [List.append_nil] at hI
  subst h2
  refine ⟨_, _, _, _, h1, ⟨rfl, rfl⟩, hC, ?_, hI⟩
  have hlen : l.length = (l.map strAV).length := by simp
  rw [hlen]
  refine RelL.sl .no w.heap.size 0 _ 1 (by rw [flat_strs]; exact relL_scs _) (fun x hx => by obtain ⟨s, _, rfl⟩ := List.mem_map.1 hx; rfl) (fun u hu => by obtain ⟨s, _, rfl⟩ := List.mem_map.1 hu; rfl) (fun j u hu => commit_at hu) (by simp) (by simpa using hl) trivial .nil

/-- What a slice of strings is in a world. -/
theorem strs_open {l : List ByteArray} {t : Tok} {v : Value} (hi : Inv W0 C H w) (h : Rel C (.sl (l.map strAV) t) v) :
    ∃ a cap, v = .slice a l.length cap ∧ l.length ≤ cap ∧ cap ≤ maxLen ∧ (l = [] ∨ ∃ b o, a = some ⟨b, o, none⟩ ∧ b < w.heap.size ∧ ∀ (j : Nat) s, l[j]? = some s → w.cell? ⟨b, o + j, none⟩ = some (.string s)) := by
  have hk := h
  obtain ⟨a, cap, rfl, h1, h2⟩ := h.sl_form
  rw [List.length_map] at h1
  refine ⟨a, cap, by rw [List.length_map], h1, h2, ?_⟩
  cases l with
  | nil => exact .inl rfl
  | cons s0 l =>
    right
    unfold Rel at hk
    cases hk with
    | @sl _ _ _ us t b o cap sz h1 h2 h3 h4 h5 h6 h7 _ =>
      rw [flat_strs] at h1
      have hus := scs_of h1
      subst hus
      have h0 := h4 0 (.string s0) (by simp)
      exact ⟨b, o, rfl, com_lt hi h0, fun j s hs => hi.com _ _ _ (h4 j _ (by rw [List.getElem?_map, hs]; rfl))⟩

/-- A package variable's cells. -/
theorem Inv.ro (hi : Inv W0 C H w) {g : Nat} {us : List Value} (h : H g = some (.ro us)) {j : Nat} {u : Value} (hu : us[j]? = some u) : w.cell? ⟨g, j, none⟩ = some u :=
  hi.com _ _ _ ((hi.obj g _ h).2.2.2 j u hu)

end Rg
