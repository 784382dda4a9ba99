/- The keys of a map, gone over. A cell, one of whose places holds a row that grows. The first firing behind a moment, as the program looks for it. The firings of a time, gone over by a loop: next.All, next.Count. slices.Sort at nil. Rows of one's own made by an append onto nothing, to be changed in place; such a row handed on. An iterator of numbers, gathered in a row that may be changed in place; the row sorted. An iterator's numbers, sorted. The keys of a map of rows, gone over. -/
import Derived.Test.YtlhgpodfhdddkaaGreatDoorP22
import Derived.Test.YtlhgpodfhdddkaaGreatDoorP10
import Derived.Test.YtlhgpodfhdddkaaGreatDoorP14
set_option linter.unusedSimpArgs false
set_option linter.unusedVariables false
set_option linter.unnecessarySimpa false
namespace Go.Proofs.YtlhgpodfhdddkaaGreatDoor
open Rg Go Go.RowKit
variable {H : Heap}
def NotOpM (o : AObj) : Prop := ∃ m a l c, o = .iter m a l c
theorem NotOpM.iter {m : Option Nat} {a c : Nat} {l : List Nat} : NotOpM (.iter m a l c) := ⟨_, _, _, _, rfl⟩
theorem NotOpM.no {o : AObj} (h : NotOpM o) : ∀ n cap sz e, o ≠ .open n cap sz e := by
  obtain ⟨_, _, _, _, rfl⟩ := h
  intro _ _ _ _ h
  cases h
def KeepM (H K K' : Heap) : Prop := ∀ p o, H p = none → K p = some o → NotOpM o → K' p = some o
theorem st_range {P : Program} {T : TypeId} {x : Operand} {ev : Operand → AV} : astepV P (.range T x) ev H = .call P.funcs.size (pa 8 T [ev x]) := rfl
theorem st_next {P : Program} {it : Operand} {s : Bool} {ev : Operand → AV} : astepV P (.next it s) ev H = .call P.funcs.size (pa 9 0 [.sc (.bool s), ev it]) := rfl
theorem st_entry {P : Program} {it : Operand} {ev : Operand → AV} : astepV P (.entry it) ev H = .call P.funcs.size (pa 10 0 [ev it]) := rfl
theorem nodup_len : ∀ (A B : List Nat), A.Nodup → (∀ a ∈ A, a ∈ B) → A.length ≤ B.length
  | [], B, _, _ => Nat.zero_le _
  | a :: A, B, hn, hs => by
    rw [List.nodup_cons] at hn
    have ha := hs a (by simp)
    have := nodup_len A (B.erase a) hn.2 fun x hx => (List.mem_erase_of_ne (by rintro rfl; exact hn.1 hx)).2 (hs x (by simp [hx]))
    rw [List.length_erase_of_mem ha] at this
    have hp := List.length_pos_of_mem ha
    simp only [List.length_cons]
    omega
theorem map_inj {α : Type} {f : α → Nat} : ∀ {L : List α}, (L.map f).Nodup → ∀ {x y : α}, x ∈ L → y ∈ L → f x = f y → x = y
  | [], _, _, _, h, _, _ => by simp at h
  | a :: L, hn, x, y, hx, hy, hf => by
    rw [List.map_cons, List.nodup_cons] at hn
    rcases List.mem_cons.1 hx with h1 | h1
    · rcases List.mem_cons.1 hy with h2 | h2
      · rw [h1, h2]
      · exact absurd (by rw [← h1, hf]; exact List.mem_map_of_mem h2) hn.1
    · rcases List.mem_cons.1 hy with h2 | h2
      · exact absurd (by rw [← h2, ← hf]; exact List.mem_map_of_mem h1) hn.1
      · exact map_inj hn.2 h1 h2 hf
theorem nodup_of {α : Type} {f : α → Nat} : ∀ {L : List α}, (L.map f).Nodup → L.Nodup
  | [], _ => .nil
  | a :: L, hn => by
    rw [List.map_cons, List.nodup_cons] at hn
    exact List.nodup_cons.2 ⟨fun h => hn.1 (List.mem_map_of_mem h), nodup_of hn.2⟩
abbrev ME := Nat × AV × Nat
abbrev meAV (e : ME) : AV × AV × Nat := (uAV e.1, e.2.1, e.2.2)
theorem m_jobs : Tryz.prog.underlying 58 = some (.map 28 33) := by kernel_rfl
set_option maxHeartbeats 2000000 in
theorem c_keysIt {ly b1 m ck : Nat} {T : TypeId} (L : List ME) (hbk : ∀ e ∈ L, e.2.2 < ck) (hnd : (L.map fun e => e.2.2).Nodup)
    (J : List Nat → Heap → Prop) (Jx : Heap → Prop)
    (hJ : ∀ ks K, J ks K → K m = some (.map (L.map meAV) ck))
    (hL : ∀ ks K K', J ks K → HLe K K' → J ks K')
    (hS : ∀ ks K p o o', J ks K → H p = none → K p = some o → NotOpM o → J ks (K.set p o'))
    (hY : ∀ (ks : List Nat) (K : Heap) (k : Nat), ks.length < L.length → J ks K →
      ACalls Tryz.prog (Tryz.prog.funcs.size + 1 + ly) [uAV k] K (fun v K' => KeepM H K K' ∧ ((v = .sc (.bool true) ∧ J (ks ++ [k]) K') ∨ (v = .sc (.bool false) ∧ Jx K'))))
    (h0 : J [] H) (k1 : H b1 = some (.cells [.sc (.map (some m))] T)) :
    ACalls Tryz.prog 63 [.sc (.func (.yield ly) #[] #[]), .sc (.pointer (some ⟨b1, 0, none⟩))] H (fun _ K => (∃ ks, ks.Perm (L.map fun e => e.1) ∧ J ks K) ∨ Jx K) := by
  generalize hR : (fun (_ : AV) (K : Heap) => (∃ ks : List Nat, ks.Perm (L.map fun e => e.1) ∧ J ks K) ∨ Jx K) = R
  have hm := hJ _ _ h0
  refine ACalls.into Tryz.func63 rfl Tryz.ntmps63 Tryz.results63 (by simp) ?_
  simp -implicitDefEqProofs [k1, st_range]
  refine ACall.intro (c_rangeMap m_jobs hm) fun v K hv => ?_
  obtain ⟨it, eit, rfl, rfl⟩ := hv
  have hJ1 := hL _ _ _ h0 (HLe.set_fresh (o := .iter (some m) ck [] ck) eit)
  simp -implicitDefEqProofs
  refine AGo.rounds (fun μ ρ K => ∃ S : List ME, μ = L.length - S.length ∧ (∀ e ∈ S, e ∈ L) ∧ (S.map fun e => e.2.2).Nodup ∧ ρ 0 = .sc (.func (.yield ly) #[] #[]) ∧ ρ 5 = .sc (.pointer (some ⟨it, 0, none⟩)) ∧ K it = some (.iter (some m) ck (S.map fun e => e.2.2) ck) ∧ J (S.map fun e => e.1) K) ?_ (m := L.length) (HLe.refl _)
    ⟨[], rfl, by simp, by simp, by simp, by simp, by simp [Heap.set], hJ1⟩
  clear hJ1 hm h0 k1
  rintro μ ρ K ih ⟨S, rfl, hSL, hSn, r0, r5, hit, hJK⟩
  have hm := hJ _ _ hJK
  simp -implicitDefEqProofs [r5, st_next]
  refine ACall.intro (c_nextMap hit hm (fun e he => by obtain ⟨q, hq, rfl⟩ := List.mem_map.1 he; exact hbk q hq)) fun v K2 hv => ?_
  have hlt : ∀ x : ME, x ∈ L → x.2.2 ∉ (S.map fun e => e.2.2) → (S ++ [x]).length ≤ L.length := fun x hx hn => by
    have h1 : ((S ++ [x]).map fun e => e.2.2).Nodup := by
      rw [List.map_append, List.nodup_append]
      exact ⟨hSn, by simp, fun a ha b hb => by simp at hb; subst hb; rintro rfl; exact hn ha⟩
    have h2 : ∀ a ∈ (S ++ [x]).map fun e => e.2.2, a ∈ L.map fun e => e.2.2 := fun a ha => by
      obtain ⟨q, hq, rfl⟩ := List.mem_map.1 ha
      rcases List.mem_append.1 hq with hq | hq
      · exact List.mem_map_of_mem (hSL q hq)
      · rw [List.mem_singleton.1 hq]; exact List.mem_map_of_mem hx
    have := nodup_len _ _ h1 h2
    simpa using this
  rcases hv with ⟨e, he, hen, rfl, rfl⟩ | ⟨hall, rfl, rfl⟩
  · obtain ⟨x, hx, rfl⟩ := List.mem_map.1 he
    have hc := c_entry (P := Tryz.prog) (H := K.set it (.iter (some m) ck ((S.map fun e => e.2.2) ++ [x.2.2]) ck)) (it := it) (m := m) (ck := ck) (s := x.2.2) (seen := S.map fun e => e.2.2) (es := L.map meAV) (e := meAV x) (by simp [Heap.set])
      (by have : m ≠ it := (by rintro rfl; rw [hm] at hit; cases hit); simp [Heap.set, this, hm]) he rfl
      (fun e' he' hb => by
        obtain ⟨q, hq, rfl⟩ := List.mem_map.1 he'
        rw [show q = x from map_inj hnd hq hx hb])
    have hsn := hlt x hx hen
    have hJ2 := hS _ _ _ _ (.iter (some m) ck ((S.map fun e => e.2.2) ++ [x.2.2]) ck) hJK eit hit .iter
    have hit2 : (K.set it (.iter (some m) ck ((S.map fun e => e.2.2) ++ [x.2.2]) ck)) it = some (.iter (some m) ck ((S.map fun e => e.2.2) ++ [x.2.2]) ck) := by simp [Heap.set]
    generalize Heap.set K it _ = K3 at *
    simp -implicitDefEqProofs [r5, st_entry]
    refine ACall.eq hc ?_
    simp -implicitDefEqProofs [r0]
    refine ACall.intro (hY _ _ x.1 (by simp only [List.length_append, List.length_singleton, List.length_map] at hsn ⊢; omega) hJ2) fun v K4 hv => ?_
    obtain ⟨hk, hv⟩ := hv
    have hit4 := hk _ _ eit hit2 .iter
    rcases hv with ⟨rfl, hJ4⟩ | ⟨rfl, hJx⟩
    · simp -implicitDefEqProofs
      exact AGo.again ih (m' := L.length - (S ++ [x]).length) (by simp only [List.length_append, List.length_singleton] at hsn ⊢; omega) (HLe.refl _) ⟨S ++ [x], rfl, fun a ha => by
          rcases List.mem_append.1 ha with ha | ha
          · exact hSL a ha
          · rw [List.mem_singleton.1 ha]; exact hx, by
          rw [List.map_append, List.nodup_append]
          exact ⟨hSn, by simp, fun a ha b hb => by simp at hb; subst hb; rintro rfl; exact hen ha⟩, by simp [r0], by simp [r5], by simpa using hit4, by simpa using hJ4⟩
    · simp -implicitDefEqProofs
      subst hR
      exact AFin.intro _ _ (wk_refl _) (HWk.refl _) (.inr hJx)
  · simp -implicitDefEqProofs
    subst hR
    refine AFin.intro _ _ (wk_refl _) (HWk.refl _) (.inl ⟨_, ?_, hJK⟩)
    refine List.Perm.map _ ((List.perm_ext_iff_of_nodup (nodup_of hSn) (nodup_of hnd)).2 fun a => ⟨hSL a, fun ha => ?_⟩)
    have h1 := hall (meAV a) (List.mem_map_of_mem ha)
    obtain ⟨q, hq, hqa⟩ := List.mem_map.1 h1
    rw [← map_inj hnd (hSL q hq) ha hqa]
    exact hq
end Go.Proofs.YtlhgpodfhdddkaaGreatDoor
namespace Go.Proofs.YtlhgpodfhdddkaaGreatDoor
open Rg Go
variable {H : Heap}
structure RowZ (sz : Nat) (e T : TypeId) (H0 : Heap) (c n : Nat) (F : Rg.Tok → List AV) (K : Heap) : Prop where
  le : HLe H0 K
  no : H0 c = none
  row : ∃ t, K c = some (.cells (F t) T) ∧ ((t = .nil ∧ n = 0) ∨ ∃ g cap, g ≠ c ∧ H0 g = none ∧ t = .own g cap sz e ∧ K g = some (.open n cap sz e))
theorem RowZ.new {sz : Nat} {e T : TypeId} {H0 K : Heap} {c n p : Nat} {F : Rg.Tok → List AV} {o : AObj} (h : RowZ sz e T H0 c n F K) (hp : K p = none) : RowZ sz e T H0 c n F (K.set p o) := by
  obtain ⟨t, h1, h2⟩ := h.row
  have hpc : c ≠ p := by rintro rfl; rw [h1] at hp; cases hp
  refine ⟨h.le.trans (HLe.set_fresh hp), h.no, t, by simp [Heap.set, hpc, h1], h2.imp id ?_⟩
  rintro ⟨g, cap, g1, g2, g3, g4⟩
  have : g ≠ p := by rintro rfl; rw [hp] at g4; cases g4
  exact ⟨g, cap, g1, g2, g3, by simp [Heap.set, this, g4]⟩
theorem RowZ.grows {sz : Nat} {e T : TypeId} {H0 K : Heap} {c : Nat} {F : Rg.Tok → List AV} {xs : List AV} (h : RowZ sz e T H0 c xs.length F K) :
    ∃ t G0 G, K c = some (.cells (F t) T) ∧ Grows G0 xs sz e t G ∧ HLe G K ∧ HLe H0 G0 ∧ G0 c = some (.cells (F t) T) ∧ ∀ p cs T', K p = some (.cells cs T') → G0 p = some (.cells cs T') := by
  obtain ⟨t, h1, ⟨rfl, hn⟩ | ⟨g, cap, h2, h3, rfl, h4⟩⟩ := h.row
  · obtain rfl := List.length_eq_zero_iff.1 hn
    exact ⟨_, K, K, h1, .zero, HLe.refl _, h.le, h1, fun _ _ _ h => h⟩
  · refine ⟨_, K.del g, (K.del g).set g (.open xs.length cap sz e), h1, .inr ⟨g, cap, by simp [Heap.del], rfl, rfl⟩, fun b ob hb => ?_, HLe.del_new h.le h3, by simp [Heap.del, Ne.symm h2, h1], fun p cs T' hp => ?_⟩
    · by_cases hbg : b = g
      · subst hbg
        simp only [Heap.set, if_true] at hb
        rw [← hb]; exact h4
      · simpa [Heap.set, Heap.del, hbg] using hb
    · have : p ≠ g := by rintro rfl; rw [h4] at hp; cases hp
      simp [Heap.del, this, hp]
theorem RowZ.stored {sz : Nat} {e T : TypeId} {H0 G0 K' Hn : Heap} {c : Nat} {xs : List AV} {F : Rg.Tok → List AV} {t' : Rg.Tok} {o : AObj} (h1 : HLe H0 G0) (h2 : H0 c = none) (h3 : G0 c = some o) (h4 : Grows G0 xs sz e t' K') (h5 : HLe K' Hn) :
    RowZ sz e T H0 c xs.length F (Hn.set c (.cells (F t') T)) := by
  have hle := (h1.trans h4.le).trans h5
  refine ⟨HLe.set_new hle h2, h2, t', by simp [Heap.set], ?_⟩
  rcases h4 with ⟨rfl, rfl, rfl⟩ | ⟨g, cap, g1, rfl, rfl⟩
  · exact .inl ⟨rfl, rfl⟩
  · have hgc : g ≠ c := by rintro rfl; rw [h3] at g1; cases g1
    exact .inr ⟨g, cap, hgc, h1.none g1, rfl, by simp [Heap.set, hgc]; exact h5 g _ (by simp [Heap.set])⟩
theorem RowZ.setO {sz : Nat} {e T : TypeId} {H0 K : Heap} {c n p : Nat} {F : Rg.Tok → List AV} {o o' : AObj} (h : RowZ sz e T H0 c n F K) (hp0 : H0 p = none) (hpc : p ≠ c) (hp : K p = some o) (ho : ∀ n cap sz e, o ≠ .open n cap sz e) : RowZ sz e T H0 c n F (K.set p o') := by
  obtain ⟨t, h1, h2⟩ := h.row
  refine ⟨HLe.set_new h.le hp0, h.no, t, by simp [Heap.set, hpc.symm, h1], h2.imp id ?_⟩
  rintro ⟨g, cap, g1, g2, g3, g4⟩
  have : g ≠ p := by rintro rfl; rw [hp] at g4; cases g4; exact ho _ _ _ _ rfl
  exact ⟨g, cap, g1, g2, g3, by simp [Heap.set, this, g4]⟩
theorem RowZ.grows' {sz : Nat} {e T : TypeId} {H0 K : Heap} {c : Nat} {F : Rg.Tok → List AV} {xs : List AV} (h : RowZ sz e T H0 c xs.length F K) :
    ∃ t G0 G, K c = some (.cells (F t) T) ∧ Grows G0 xs sz e t G ∧ HLe G K ∧ HLe H0 G0 ∧ G0 c = some (.cells (F t) T) ∧ ∀ p o, K p = some o → (∀ n cap sz e, o ≠ .open n cap sz e) → G0 p = some o := by
  obtain ⟨t, h1, ⟨rfl, hn⟩ | ⟨g, cap, h2, h3, rfl, h4⟩⟩ := h.row
  · obtain rfl := List.length_eq_zero_iff.1 hn
    exact ⟨_, K, K, h1, .zero, HLe.refl _, h.le, h1, fun _ _ h _ => h⟩
  · refine ⟨_, K.del g, (K.del g).set g (.open xs.length cap sz e), h1, .inr ⟨g, cap, by simp [Heap.del], rfl, rfl⟩, fun b ob hb => ?_, HLe.del_new h.le h3, by simp [Heap.del, Ne.symm h2, h1], fun p o hp ho => ?_⟩
    · by_cases hbg : b = g
      · subst hbg
        simp only [Heap.set, if_true] at hb
        rw [← hb]; exact h4
      · simpa [Heap.set, Heap.del, hbg] using hb
    · have : p ≠ g := by rintro rfl; rw [h4] at hp; cases hp; exact ho _ _ _ _ rfl
      simp [Heap.del, this, hp]
theorem RowZ.cell {sz : Nat} {e T : TypeId} {H0 K : Heap} {c n : Nat} {F F' : Rg.Tok → List AV} {t : Rg.Tok} {cs : List AV} (h : RowZ sz e T H0 c n F K) (hc : K c = some (.cells cs T)) (ht : ∀ t', cs = F t' → F' t' = F' t) : RowZ sz e T H0 c n F' (K.set c (.cells (F' t) T)) := by
  obtain ⟨t', h1, h2⟩ := h.row
  rw [hc] at h1
  have h1' : cs = F t' := by simpa using h1
  refine ⟨HLe.set_new h.le h.no, h.no, t', by simp [Heap.set, ht t' h1'], h2.imp id ?_⟩
  rintro ⟨g, cap, g1, g2, g3, g4⟩
  exact ⟨g, cap, g1, g2, g3, by simp [Heap.set, g1, g4]⟩
theorem RowZ.up {sz : Nat} {e T : TypeId} {H0 K K' : Heap} {c n : Nat} {F : Rg.Tok → List AV} (h : RowZ sz e T H0 c n F K) (hle : HLe K K') : RowZ sz e T H0 c n F K' := by
  obtain ⟨r1, r2, t, r3, r4⟩ := h
  refine ⟨r1.trans hle, r2, t, hle _ _ r3, r4.imp id ?_⟩
  rintro ⟨g, cap, g1, g2, g3, g4⟩
  exact ⟨g, cap, g1, g2, g3, hle _ _ g4⟩
def GrowsS (H0 : Heap) (xs : List AV) (sz : Nat) (e : TypeId) (t : Rg.Tok) (K : Heap) : Prop :=
  (t = .full ∧ K = H0) ∨ ∃ g cap, H0 g = none ∧ t = .own g cap sz e ∧ K = H0.set g (.open xs.length cap sz e)
theorem GrowsS.le {H0 K : Heap} {xs : List AV} {sz : Nat} {e : TypeId} {t : Rg.Tok} (h : GrowsS H0 xs sz e t K) : HLe H0 K := by
  rcases h with ⟨_, rfl⟩ | ⟨g, cap, h1, _, rfl⟩
  · exact HLe.refl _
  · exact (HLe.refl _).set_new h1
def GrowsK (H0 : Heap) (n sz : Nat) (e : TypeId) (t : Rg.Tok) (K : Heap) : Prop := (t = .nil ∧ n = 0) ∨ ∃ g cap, H0 g = none ∧ t = .own g cap sz e ∧ K g = some (.open n cap sz e)
theorem GrowsK.up {H0 K K' : Heap} {n sz : Nat} {e : TypeId} {t : Rg.Tok} (h : GrowsK H0 n sz e t K) (hle : HLe K K') : GrowsK H0 n sz e t K' :=
  h.imp id fun ⟨g, cap, h1, h2, h3⟩ => ⟨g, cap, h1, h2, hle _ _ h3⟩
theorem GrowsK.grows {H0 K : Heap} {xs : List AV} {sz : Nat} {e : TypeId} {t : Rg.Tok} (h : GrowsK H0 xs.length sz e t K) (hl : HLe H0 K) :
    ∃ G0 G, Grows G0 xs sz e t G ∧ HLe G K ∧ HLe H0 G0 ∧ ∀ p o, K p = some o → (∀ n cap, o ≠ .open n cap sz e) → G0 p = some o := by
  rcases h with ⟨rfl, hn⟩ | ⟨g, cap, h3, rfl, h4⟩
  · obtain rfl := List.length_eq_zero_iff.1 hn
    exact ⟨K, K, .zero, HLe.refl _, hl, fun _ _ h _ => h⟩
  · refine ⟨K.del g, (K.del g).set g (.open xs.length cap sz e), .inr ⟨g, cap, by simp [Heap.del], rfl, rfl⟩, fun b ob hb => ?_, HLe.del_new hl h3, fun p o hp ho => ?_⟩
    · by_cases hbg : b = g
      · subst hbg
        simp only [Heap.set, if_true] at hb
        rw [← hb]; exact h4
      · simpa [Heap.set, Heap.del, hbg] using hb
    · have : p ≠ g := by rintro rfl; rw [h4] at hp; cases hp; exact ho _ _ rfl
      simp [Heap.del, this, hp]
theorem GrowsK.of {H0 G0 K' Hn : Heap} {xs : List AV} {sz : Nat} {e : TypeId} {t' : Rg.Tok} (h1 : HLe H0 G0) (h4 : Grows G0 xs sz e t' K') (h5 : HLe K' Hn) : GrowsK H0 xs.length sz e t' Hn ∧ HLe H0 Hn := by
  refine ⟨?_, (h1.trans h4.le).trans h5⟩
  rcases h4 with ⟨rfl, rfl, rfl⟩ | ⟨g, cap, g1, rfl, rfl⟩
  · exact .inl ⟨rfl, rfl⟩
  · exact .inr ⟨g, cap, h1.none g1, rfl, h5 g _ (by simp [Heap.set])⟩
theorem set_del {H : Heap} {g : Nat} {o : AObj} (h : H g = none) : (H.set g o).del g = H := by
  funext b
  by_cases hb : b = g
  · subst hb; simp [Heap.del, h]
  · simp [Heap.del, Heap.set, hb]
theorem aes_growsF {P : Program} {n : Nat} {Q : Post} {ρ : Nat → AV} {k : List AItem} {full : Array Oper} {dst : Option Tmp} {l rest : List Oper} {T e : TypeId} {xs ys : List AV} {t : Rg.Tok} {sz by_ : Nat} {H0 H1 K : Heap} (he : ElemOk P T e sz by_) (hg : GrowsF H1 xs sz e t K)
    (hx : szs sz xs = true) (hy : szs sz ys = true) (hb : (xs.length + ys.length) * by_ ≤ 140737488355328) (hm : xs.length + ys.length ≤ maxLen)
    (h : ∀ t' K', GrowsF H1 (xs ++ ys) sz e t' K' → ABK P n H0 Q full l rest k (aput n dst (.sl (xs ++ ys) t') ρ) K') : AES P n H0 Q full dst l rest k ρ K (.app T e xs t ys) := by
  rcases hg with ⟨rfl, ht, rfl⟩ | ⟨g, cap, hg1, rfl, rfl⟩
  · by_cases h0 : ys = []
    · subst h0
      refine AES.same he ht hx (by simp) (by simp [maxLen]) ?_
      exact h t _ (.inl ⟨rfl, ht, rfl⟩)
    · exact AES.new he ht h0 hx hy hb hm fun g cap hgn => h _ _ (.inr ⟨g, cap, hgn, rfl, by simp⟩)
  · refine AES.own he (by simp [Heap.set]) hx hy hb hm fun g' cap' hg' => ?_
    rw [set_del hg1] at hg' ⊢
    exact h _ _ (.inr ⟨g', cap', hg', rfl, by simp⟩)
end Go.Proofs.YtlhgpodfhdddkaaGreatDoor
namespace Go.Proofs.YtlhgpodfhdddkaaGreatDoor
open Rg Go Go.RowKit
variable {W0 w : World} {C : Com} {H : Heap}
def GlobT (H : Heap) : Prop := ∃ us, H 7 = some (.ro us) ∧ ∀ j, j < Lib.deBruijn64tab.length → us[j]? = some (.int .u8 (Lib.deBruijn64tab.getD j 0))
theorem GlobT.wk {H K : Heap} (h : GlobT H) (hk : HLe H K) : GlobT K := by
  obtain ⟨us, h1, h2⟩ := h
  exact ⟨us, hk _ _ h1, h2⟩
theorem GlobT.new {H : Heap} {b : Nat} {o : AObj} (h : GlobT H) (hb : H b = none) : GlobT (H.set b o) := h.wk (HLe.set_fresh hb)
theorem GlobT.tab (h : GlobT H) (hi : Inv W0 C H w) : TabAt 7 Lib.deBruijn64tab w := by
  obtain ⟨u, h1, g1⟩ := h
  exact fun j hj => hi.ro h1 (g1 j hj)
end Go.Proofs.YtlhgpodfhdddkaaGreatDoor
namespace Go.Proofs.YtlhgpodfhdddkaaGreatDoor
open Rg Go
variable {H : Heap}
abbrev ptr (b : Nat) : AV := .sc (.pointer (some ⟨b, 0, none⟩))
theorem GlobT.set {H : Heap} {b : Nat} {o : AObj} (h : GlobT H) (hb : ∀ us, H b ≠ some (.ro us)) : GlobT (H.set b o) := by
  obtain ⟨us, h1, h2⟩ := h
  refine ⟨us, ?_, h2⟩
  unfold Heap.set
  split
  · rename_i hc; subst hc; exact absurd h1 (hb us)
  · exact h1
theorem del_apply {H : Heap} {b c : Nat} : Heap.del H b c = if c = b then none else H c := rfl
theorem mark_nrm {Q : Post} {D : Nat} : (Q.mark D).nrm = fun ρ H => H D = some .dfr ∧ Q.nrm ρ (H.del D) := rfl
theorem mark_ret {Q : Post} {D : Nat} : (Q.mark D).ret = fun ρ H => H D = some .dfr ∧ Q.ret ρ (H.del D) := rfl
end Go.Proofs.YtlhgpodfhdddkaaGreatDoor
namespace Go.Proofs.YtlhgpodfhdddkaaGreatDoor
open Rg Go Go.RowKit
variable {H : Heap}
theorem c_insNil : AOk Tryz.prog 88 [.sl [] .nil, .sc (.int .i64 0), .sc (.int .i64 0)] H (.tup []) H := by
  have w1 : IntKind.i64.wrap 1 = 1 := by decide
  refine ACalls.into Tryz.func88 rfl Tryz.ntmps88 Tryz.results88 (by simp) ?_
  generalize hR : ROk _ _ = R
  simp -implicitDefEqProofs [w1]
  refine AGo.rounds (fun m ρ K => ρ 2 = .sc (.int .i64 0) ∧ ρ 6 = .sc (.int .i64 1) ∧ K = H) ?_ (m := 0) (HLe.refl H) ⟨by simp, by simp, rfl⟩
  rintro m ρ K ih ⟨r2, r6, rfl⟩
  simp -implicitDefEqProofs [r2, r6]
  subst hR
  exact AFin.intro _ _ (wk_refl _) (HWk.refl _) ⟨rfl, rfl⟩
theorem c_pdqNil : AOk Tryz.prog 75 [.sl [] .nil, .sc (.int .i64 0), .sc (.int .i64 0), .sc (.int .i64 0)] H (.tup []) H := by
  have w0 : IntKind.i64.wrap 0 = 0 := by decide
  refine ACalls.into Tryz.func75 rfl Tryz.ntmps75 Tryz.results75 (by simp) ?_
  generalize hR : ROk _ _ = R
  simp -implicitDefEqProofs
  refine AGo.rounds (fun m ρ K => ρ 0 = .sl [] .nil ∧ ρ 1 = .sc (.int .i64 0) ∧ ρ 2 = .sc (.int .i64 0) ∧ K = H) ?_ (m := 0) (HLe.refl H) ⟨by simp, by simp, by simp, rfl⟩
  rintro m ρ K ih ⟨r0, r1, r2, rfl⟩
  simp -implicitDefEqProofs [r0, r1, r2, w0]
  refine ACall.eq c_insNil ?_
  simp -implicitDefEqProofs
  subst hR
  exact AFin.intro _ _ (wk_refl _) (HWk.refl _) ⟨rfl, rfl⟩
theorem c_sortNil : AOk Tryz.prog 58 [.sl [] .nil] H (.tup []) H := by
  have w0 : IntKind.u64.wrap 0 = 0 := by decide
  have hc : AOk Tryz.prog 76 [.sc (.int .u64 0)] H (.sc (.int .i64 0)) H := c_len (H := H) 0 (by omega)
  refine ACalls.into Tryz.func58 rfl Tryz.ntmps58 Tryz.results58 (by simp) ?_
  simp -implicitDefEqProofs [w0]
  refine ACall.eq hc ?_
  simp -implicitDefEqProofs
  refine ACall.eq c_pdqNil ?_
  simp -implicitDefEqProofs
end Go.Proofs.YtlhgpodfhdddkaaGreatDoor
namespace Rg
open Go Go.RowKit
variable {P : Program} {W0 w : World} {C : Com} {H : Heap}
theorem appC_raw {T e : TypeId} {sz by_ : Nat} (he : ElemOk P T e sz by_) (hzero : ∀ z, tzero P e = some z → ∀ q ∈ z.cells.toList, q.oneCell' = true) {ys : List AV} {t : Tok} (ht : t = .nil ∨ t = .full) (hy : szs sz ys = true) (h0 : ys ≠ [])
    (hb : ys.length * by_ ≤ 140737488355328) (hm : ys.length ≤ maxLen) :
    AppC P T [] t ys H (fun v K => ∃ g zs cap, H g = none ∧ v = .sc (.slice (some ⟨g, 0, none⟩) ys.length cap) ∧ K = H.set g (.cells (ys.flatMap AV.cells ++ zs) e) ∧ (ys.flatMap AV.cells ++ zs).length = cap * sz ∧ ys.length ≤ cap ∧ cap ≤ maxLen) := by
  intro W0 C w ty u v t' hi hu hv
  obtain ⟨i, z, hinf, hsz, hby, hz1, hz2⟩ := he.info
  have hT := telem_spec he.el
  have htz : tzero P e = some z := by unfold tzero; rw [hinf]; simpa using hz1
  obtain ⟨b, o, cp, news, rfl, n1, n2, n3, _, n5⟩ := src_cells hi hv hy h0
  have hylen : 0 < ys.length := List.length_pos_iff.2 h0
  have hm' : ys.length ≤ 9223372036854775807 := by simpa [maxLen] using hm
  have grow0 : ∀ a : Addr, u = .slice (some a) 0 0 → (Builtin.append_ #[T, T] ty #[u, .slice (some ⟨b, o, none⟩) ys.length cp]).run P w =
      .ok (.slice (some ⟨w.heap.size, 0, none⟩) ys.length (grownCap w ys.length 0 e)) (w.drew.alloc (.cells (news.toArray ++ Builtin.zeroCells z.cells (grownCap w ys.length 0 e - ys.length)) e)) := by
    rintro a rfl
    have := run_append_grow (P := P) w T ty e i z hT hinf hz1 a 0 0 [] (by simp) (by simp) ⟨b, o, none⟩ ys.length cp news (by rw [n3, hsz]) n5 (by omega) (by simp; omega) (growslice_fits (by omega) (by rw [hby]; simpa using hb))
    simpa using this
  have hcap := grownCap_ge w ys.length 0 e
  have hcm := grownCap_le_maxLen w ys.length 0 e hm
  have hrun : (Builtin.append_ #[T, T] ty #[u, .slice (some ⟨b, o, none⟩) ys.length cp]).run P w =
      .ok (.slice (some ⟨w.heap.size, 0, none⟩) ys.length (grownCap w ys.length 0 e)) (w.drew.alloc (.cells (news.toArray ++ Builtin.zeroCells z.cells (grownCap w ys.length 0 e - ys.length)) e)) := by
    have hk := hu
    unfold Rel at hk
    cases hk with
    | nils => exact run_append_nil (P := P) w T ty e i z hT hinf hz1 ⟨b, o, none⟩ ys.length cp news (by rw [n3, hsz]) n5 hylen (by omega) (by rw [hby]; omega)
    | emp t a cap h1 h2 _ =>
      have : cap = 0 := by
        rcases h1 with h1 | h1 | ⟨_, h1⟩
        · subst h1; rcases ht with h | h <;> cases h
        · subst h1; rcases ht with h | h <;> cases h
        · exact h1
      subst this
      exact grow0 a rfl
    | sl t b' o' cap sz' h1 h2 h3 h4 h5 h6 h7 _ =>
      rcases ht with rfl | rfl
      · exact h7.elim
      · simp [TokOk] at h7
        subst h7
        exact grow0 _ rfl
  obtain ⟨zl, hzl⟩ : ∃ zl, (Builtin.zeroCells z.cells (grownCap w ys.length 0 e - ys.length)).toList = zl := ⟨_, rfl⟩
  have hzlen : zl.length = (grownCap w ys.length 0 e - ys.length) * sz := by rw [← hzl, Array.length_toList, size_zeroCells, hz2]
  have hz1c : ∀ q ∈ zl, q.oneCell' = true := by rw [← hzl]; exact zero_one (hzero z htz) (by rw [hz2]; exact he.pos) _
  have hfl : (ys.flatMap AV.cells).length = ys.length * sz := flat_length (szs_spec hy)
  have hI := hi.draw.allocObj (ys.flatMap AV.cells ++ zl.map .sc) (news ++ zl) e (n1.append (relL_scs zl)) (by
    intro q hq
    rcases List.mem_append.1 hq with hq | hq
    · exact n2 q hq
    · exact hz1c q hq)
  have ea : (news.toArray ++ Builtin.zeroCells z.cells (grownCap w ys.length 0 e - ys.length)) = (news ++ zl).toArray := by
    rw [← hzl]; apply Array.toList_inj.1; simp
  rw [ea] at hrun
  refine ⟨_, _, _, _, C, hrun, ⟨w.heap.size, zl.map .sc, grownCap w ys.length 0 e, hi.heap_fresh, rfl, rfl, ?_, by simpa using hcap, hcm⟩, CLe.refl C, Rel.sc _, hI⟩
  rw [List.length_append, List.length_map, hfl, hzlen, ← Nat.add_mul]
  congr 1
  have : ys.length ≤ grownCap w ys.length 0 e := by simpa using hcap
  omega
theorem ACalls.bareNil {f : FuncId} {post : List AV} {R : AV → Heap → Prop} (h : ACalls P f (.sl [] .nil :: post) H R) : ACalls P f (.sc (.slice none 0 0) :: post) H R := by
  intro W0 C w vs hi ha
  obtain ⟨v, vs', rfl, hv, hr⟩ := ha.uncons
  obtain rfl := hv.sc_inv
  exact h W0 C w _ hi (RelL.cons (.nils _ rfl .nil) hr)
theorem c_clearBare {T e : TypeId} {z : Value} {sz : Nat} (hT : P.underlying T = some (.slice e)) (hz : tzero P e = some z) (hone : ∀ q ∈ z.cells.toList, q.oneCell' = true) (hzs : z.cells.size = sz) (hpos : 0 < sz) {g o n c : Nat} {cs : List AV} {e' : TypeId}
    (hg : H g = some (.cells cs e')) (hfit : o + n * sz ≤ cs.length) : AOk P P.funcs.size (pa 19 T [.sc (.slice (some ⟨g, o, none⟩) n c)]) H (.tup []) (H.set g (.cells (cs.take o ++ (Builtin.zeroCells z.cells n).toList.map .sc ++ cs.drop (o + n * sz)) e')) := by
  refine ACalls.prim fun W0 C w vs hi ha ty => ?_
  obtain ⟨x, vs', rfl, hx, ha⟩ := ha.uncons
  obtain rfl := ha.nil_inv
  obtain rfl := hx.sc_inv
  have g0 : (#[T] : Array TypeId)[0]? = some T := rfl
  have g1 : (#[Value.slice (some ⟨g, o, none⟩) n c] : Array Value)[0]? = some (.slice (some ⟨g, o, none⟩) n c) := rfl
  have hzv : ∀ w, (zeroValue e).run P w = .ok z w := fun w => by
    obtain ⟨i, hi1, hi2⟩ : ∃ i, P.info? e = some i ∧ i.zero = some z := by
      unfold tzero at hz
      cases hinf : P.info? e with
      | none => rw [hinf] at hz; cases hz
      | some i => rw [hinf] at hz; exact ⟨i, rfl, by simpa using hz⟩
    simp [zeroValue, typeInfo, hi1, hi2]
  obtain ⟨hW, us, hcur, hrel, hone0, hcom⟩ := hi.obj _ _ hg
  cases n with
  | zero =>
    refine ⟨.tuple #[], w, by simp [primRun, Builtin.clear_, g0, g1, Sem.run_bind, run_underlying hT w], .tup [], _, C, ⟨rfl, rfl⟩, CLe.refl C, .tup .nil .nil, ?_⟩
    have e1 : cs.take o ++ (Builtin.zeroCells z.cells 0).toList.map .sc ++ cs.drop (o + 0 * sz) = cs := by
      have : (Builtin.zeroCells z.cells 0).toList = [] := List.length_eq_zero_iff.1 (by rw [Array.length_toList, size_zeroCells, Nat.zero_mul])
      rw [this, Nat.zero_mul, Nat.add_zero, List.map_nil, List.append_nil, List.take_append_drop]
    rw [e1]
    have e2 : H.set g (.cells cs e') = H := by
      funext b
      unfold Heap.set
      split
      · rename_i hb; rw [hb, hg]
      · rfl
    rw [e2]
    exact hi
  | succ m =>
    obtain ⟨zl, hzl⟩ : ∃ zl, (Builtin.zeroCells z.cells (m + 1)).toList = zl := ⟨_, rfl⟩
    have hzlen : zl.length = (m + 1) * sz := by rw [← hzl, Array.length_toList, size_zeroCells, hzs]
    have hz1 : ∀ q ∈ zl, q.oneCell' = true := by rw [← hzl]; exact zero_one hone (by omega) _
    have hul := hrel.length
    have hst := run_storeCells_at P g o e' zl 0 us.toArray w hcur (by simp; omega) hz1
    simp only [Nat.add_zero] at hst
    rw [hzl]
    refine ⟨.tuple #[], w.setRow g (us.take o ++ zl ++ us.drop (o + zl.length)).toArray, ?_, .tup [], _, C, ⟨rfl, rfl⟩, CLe.refl C, .tup .nil .nil, ?_⟩
    · simp only [primRun, Builtin.clear_, g0, g1, Sem.run_bind, run_underlying hT w, Result.andThen_ok, hzv, hzl, hst, Sem.run_pure]
    · rw [← hzlen]
      refine hi.setRow hg ?_ ?_
      · rw [← List.take_append_drop o cs] at hrel
        obtain ⟨o1, o2, ho, hr1, hr2⟩ := hrel.split
        have l1 := hr1.length
        rw [List.length_take, Nat.min_eq_left (by omega)] at l1
        have t1 : us.take o = o1 := by rw [ho]; exact List.take_left' l1.symm
        have hr3 : RelL C (cs.drop (o + zl.length)) (us.drop (o + zl.length)) := by
          have h2 := hr2
          rw [← List.take_append_drop zl.length (cs.drop o)] at h2
          obtain ⟨p1, p2, hp, k1, k2⟩ := h2.split
          have l2 := k1.length
          rw [List.length_take, List.length_drop, Nat.min_eq_left (by omega)] at l2
          rw [List.drop_drop] at k2
          have : us.drop (o + zl.length) = p2 := by
            rw [ho, hp, ← List.append_assoc]
            exact List.drop_left' (by rw [List.length_append]; omega)
          rw [this]
          exact k2
        rw [t1]
        exact (hr1.append (relL_scs zl)).append hr3
      · intro q hq
        rcases List.mem_append.1 hq with hq | hq
        · rcases List.mem_append.1 hq with hq | hq
          · exact hone0 q (List.mem_of_mem_take hq)
          · exact hz1 q hq
        · exact hone0 q (List.mem_of_mem_drop hq)
theorem flat_split {xs : List AV} {i : Nat} {c : AV} (hx : xs[i]? = some c) : xs.flatMap AV.cells = (xs.take i).flatMap AV.cells ++ (c.cells ++ (xs.drop (i + 1)).flatMap AV.cells) := by
  obtain ⟨hi, e⟩ := List.getElem?_eq_some_iff.1 hx
  conv => lhs; rw [← List.take_append_drop i xs, List.drop_eq_getElem_cons hi, e]
  rw [List.flatMap_append, List.flatMap_cons]
theorem flat_take_len {xs : List AV} {sz i : Nat} (h : szs sz xs = true) (hi : i ≤ xs.length) : ((xs.take i).flatMap AV.cells).length = i * sz := by
  rw [flat_length (szs_spec (szs_take h i)), List.length_take, Nat.min_eq_left hi]
theorem flat_row {xs zs : List AV} {sz i : Nat} {c : AV} (h : szs sz xs = true) (hx : xs[i]? = some c) : ((xs.flatMap AV.cells ++ zs).drop (i * sz)).take sz = c.cells := by
  have hi := (List.getElem?_eq_some_iff.1 hx).1
  rw [flat_split hx, List.append_assoc, List.append_assoc, List.drop_left' (flat_take_len h (by omega))]
  exact List.take_left' (szs_spec h c (List.mem_of_getElem? hx))
theorem flat_fits {xs zs : List AV} {sz i : Nat} (h : szs sz xs = true) (hi : i < xs.length) : i * sz + sz ≤ (xs.flatMap AV.cells ++ zs).length := by
  rw [List.length_append, flat_length (szs_spec h)]
  have : (i + 1) * sz ≤ xs.length * sz := Nat.mul_le_mul_right _ hi
  rw [Nat.add_mul, Nat.one_mul] at this
  omega
theorem flat_cell {xs zs : List AV} {sz i k : Nat} {c : AV} (h : szs sz xs = true) (hx : xs[i]? = some c) (hk : k < sz) : (xs.flatMap AV.cells ++ zs)[i * sz + k]? = c.cells[k]? := by
  have hr := flat_row (zs := zs) h hx
  have := congrArg (fun l => l[k]?) hr
  rw [List.getElem?_take, if_pos hk, List.getElem?_drop] at this
  exact this
theorem flat_setZ {xs zs : List AV} {sz i k : Nat} {cs : List AV} {v : AV} (h : szs sz xs = true) (hx : xs[i]? = some (.agg cs)) (hk : k < sz) : (xs.flatMap AV.cells ++ zs).set (i * sz + k) v = (xs.set i (.agg (cs.set k v))).flatMap AV.cells ++ zs := by
  obtain ⟨hi, e⟩ := List.getElem?_eq_some_iff.1 hx
  have hl := flat_take_len h (Nat.le_of_lt hi)
  have hcs : cs.length = sz := szs_spec h _ (List.mem_of_getElem? hx)
  have hx' : (xs.set i (.agg (cs.set k v)))[i]? = some (.agg (cs.set k v)) := by rw [List.getElem?_set_self hi]
  have e1 : xs.flatMap AV.cells ++ zs = (xs.take i).flatMap AV.cells ++ (cs ++ ((xs.drop (i + 1)).flatMap AV.cells ++ zs)) := by
    rw [flat_split hx]; simp [AV.cells]
  have e2 : (xs.set i (.agg (cs.set k v))).flatMap AV.cells ++ zs = (xs.take i).flatMap AV.cells ++ (cs.set k v ++ ((xs.drop (i + 1)).flatMap AV.cells ++ zs)) := by
    rw [flat_split hx', List.take_set_of_le (Nat.le_refl i), List.drop_set_of_lt (by omega)]; simp [AV.cells]
  rw [e1, e2, List.set_append_right _ _ (by omega), hl, Nat.add_sub_cancel_left, List.set_append_left _ _ (by omega)]
end Rg
namespace Go.Proofs.YtlhgpodfhdddkaaGreatDoor
open Rg Go Go.RowKit
variable {H : Heap}
abbrev nuK (l : List Nat) : List AV := l.map fun n : Nat => (.sc (.int .u64 (n : Int)) : AV)
theorem uZero : ∀ z, tzero Tryz.prog 28 = some z → ∀ q ∈ z.cells.toList, q.oneCell' = true := by
  intro z hz q hq
  have : tzero Tryz.prog 28 = some (.int .u64 0) := by kernel_rfl
  rw [this] at hz
  cases hz
  simp [Value.cells] at hq
  subst hq
  rfl
structure RawCell (H : Heap) (b : Nat) (T e : TypeId) (xs : List AV) (K : Heap) : Prop where
  le : HLe H K
  new : H b = none
  ex : ∃ v, K b = some (.cells [v] T) ∧ ((xs = [] ∧ v = .sc (.slice none 0 0)) ∨ ∃ g zs, H g = none ∧ g ≠ b ∧ v = .sc (.slice (some ⟨g, 0, none⟩) xs.length (xs.length + zs.length)) ∧ K g = some (.cells (xs ++ zs) e) ∧ xs.length + zs.length ≤ maxLen)
theorem RawCell.up {b : Nat} {T e : TypeId} {xs : List AV} {K K' : Heap} (h : RawCell H b T e xs K) (hl : HLe K K') : RawCell H b T e xs K' := by
  obtain ⟨v, h1, h2⟩ := h.ex
  refine ⟨h.le.trans hl, h.new, v, hl _ _ h1, h2.imp id ?_⟩
  rintro ⟨g, zs, a1, a2, a3, a4, a5⟩
  exact ⟨g, zs, a1, a2, a3, hl _ _ a4, a5⟩
theorem RawCell.setO {b p : Nat} {T e : TypeId} {xs : List AV} {K : Heap} {o o' : AObj} (h : RawCell H b T e xs K) (hp : H p = none) (hK : K p = some o) (ho : ∀ cs T, o ≠ .cells cs T) : RawCell H b T e xs (K.set p o') := by
  obtain ⟨v, h1, h2⟩ := h.ex
  have pb : b ≠ p := by rintro rfl; rw [h1] at hK; cases hK; exact ho _ _ rfl
  refine ⟨HLe.set_new h.le hp, h.new, v, by simp [Heap.set, pb, h1], h2.imp id ?_⟩
  rintro ⟨g, zs, a1, a2, a3, a4, a5⟩
  have pg : g ≠ p := by rintro rfl; rw [a4] at hK; cases hK; exact ho _ _ rfl
  exact ⟨g, zs, a1, a2, a3, by simp [Heap.set, pg, a4], a5⟩
theorem RawCell.row {b : Nat} {T e : TypeId} {xs : List AV} {K : Heap} (h : RawCell H b T e xs K) : ∃ A cap H1, K b = some (.cells [.sc (.slice A xs.length cap)] T) ∧ RawRow H1 e xs (.sc (.slice A xs.length cap)) K ∧
    ∀ xs' v' K', RawRow H1 e xs' v' K' → RawCell H b T e xs' (K'.set b (.cells [v'] T)) ∧ K' b = some (.cells [.sc (.slice A xs.length cap)] T) ∧ ∀ p o, K p = some o → (∀ cs T, o ≠ .cells cs T) → K' p = some o := by
  obtain ⟨v, h1, h2⟩ := h.ex
  rcases h2 with ⟨rfl, rfl⟩ | ⟨g, zs, a1, a2, rfl, a4, a5⟩
  · refine ⟨none, 0, K, h1, ⟨HLe.refl _, .inl ⟨rfl, rfl⟩⟩, ?_⟩
    rintro xs' v' K' ⟨hl, hc⟩
    refine ⟨⟨HLe.set_new (h.le.trans hl) h.new, h.new, v', by simp [Heap.set], hc.imp id ?_⟩, hl _ _ h1, fun p o hp _ => hl _ _ hp⟩
    rintro ⟨g, zs, c1, c2, c3, c4⟩
    have : g ≠ b := by rintro rfl; rw [h1] at c1; cases c1
    exact ⟨g, zs, h.le.none c1, this, c2, by simp [Heap.set, this, c3], c4⟩
  · refine ⟨_, _, K.del g, h1, ⟨fun q o hq => ?_, .inr ⟨g, zs, by simp [Heap.del], rfl, a4, a5⟩⟩, ?_⟩
    · unfold Heap.del at hq
      split at hq
      · cases hq
      · exact hq
    · rintro xs' v' K' ⟨hl, hc⟩
      have h3 : HLe H K' := (HLe.del_new h.le a1).trans hl
      refine ⟨⟨HLe.set_new h3 h.new, h.new, v', by simp [Heap.set], hc.imp id ?_⟩, hl _ _ (by simp [Heap.del, a2.symm, h1]), fun p o hp ho => hl _ _ ?_⟩
      · rintro ⟨g', zs', c1, c2, c3, c4⟩
        have n1 : g' ≠ b := by
          rintro rfl
          simp [Heap.del, a2.symm, h1] at c1
        have n2 : H g' = none := by
          by_cases e : g' = g
          · rw [e]; exact a1
          · exact h.le.none (by simpa [Heap.del, e] using c1)
        exact ⟨g', zs', n2, n1, c2, by simp [Heap.set, n1, c3], c4⟩
      · have : p ≠ g := by rintro rfl; rw [a4] at hp; cases hp; exact ho _ _ rfl
        simp [Heap.del, this, hp]
theorem app_rawF {K H1 : Heap} {xs : List AV} {v y : AV} {t : Rg.Tok} (hr : RawRow H1 28 xs v K) (hy : y.cells = [y]) (hb : xs.length ≤ 1000000) :
    ACalls Tryz.prog Tryz.prog.funcs.size [.sc (.int .i64 ((31 : Nat) : Int)), v, .sl [y] t] K (fun v' K' => RawRow H1 28 (xs ++ [y]) v' K') :=
  app_raw el_31 uZero hr hy (by omega) (by simp [maxLen]; omega)
def IterU (gf : FuncId) (lb : List AV) (N : Nat) (H0 : Heap) (Pk : List Nat → Prop) : Prop :=
  canCall Tryz.prog gf = true ∧ ∀ (H : Heap) (ly : Nat) (J : List Nat → Heap → Prop) (Jx : Heap → Prop), HLe H0 H →
    (∀ ks K, J ks K → HLe H0 K) →
    (∀ ks K K', J ks K → HLe K K' → J ks K') →
    (∀ ks K p o o', J ks K → H p = none → K p = some o → NotOpM o → J ks (K.set p o')) →
    (∀ (ks : List Nat) (K : Heap) (k : Nat), ks.length < N → J ks K →
      ACalls Tryz.prog (Tryz.prog.funcs.size + 1 + ly) [uAV k] K (fun v K' => KeepM H K K' ∧ ((v = .sc (.bool true) ∧ J (ks ++ [k]) K') ∨ (v = .sc (.bool false) ∧ Jx K')))) →
    J [] H →
    ACalls Tryz.prog gf (.sc (.func (.yield ly) #[] #[]) :: lb) H (fun _ K => (∃ ks, Pk ks ∧ J ks K) ∨ Jx K)
theorem iter_keys {b1 m ck : Nat} {T : TypeId} {L : List ME} (hbk : ∀ e ∈ L, e.2.2 < ck) (hnd : (L.map fun e => e.2.2).Nodup) (hm : H m = some (.map (L.map meAV) ck)) (k1 : H b1 = some (.cells [.sc (.map (some m))] T)) :
    IterU 63 [.sc (.pointer (some ⟨b1, 0, none⟩))] L.length H (fun ks => ks.Perm (L.map fun e => e.1)) := by
  refine ⟨by simp, ?_⟩
  intro H' ly J Jx hle hJ hL hS hY h0
  exact c_keysIt L hbk hnd J Jx (fun ks K h => hJ ks K h _ _ hm) hL hS hY h0 (hle _ _ k1)
theorem c_keys {m : Nat} : ACalls Tryz.prog 44 [.sc (.map (some m))] H (fun v K => ∃ b, v = .sc (.func (.func 63) #[] #[.pointer (some ⟨b, 0, none⟩)]) ∧ HLe H K ∧ K b = some (.cells [.sc (.map (some m))] 58)) := by
  refine ACalls.into Tryz.func44 rfl Tryz.ntmps44 Tryz.results44 (by simp) ?_
  simp -implicitDefEqProofs
  refine AAlloc.intro fun b hb => ?_
  simp -implicitDefEqProofs
  exact ⟨_, _, wk_refl _, HWk.refl _, b, rfl, HLe.set_fresh hb, by simp [Heap.set]⟩
structure JGath (H0 : Heap) (b5 l D : Nat) (r : ARec) (ks : List Nat) (K : Heap) : Prop where
  row : RawCell H0 b5 31 28 (nuK ks) K
  kl : K l = some (.lrec r)
  kD : K D = some .dfr
set_option maxHeartbeats 2000000 in
theorem c_gather {gf : FuncId} {lb : Array Value} {N : Nat} {Pk : List Nat → Prop} (hN : N ≤ 1000000) (hit : IterU gf (lb.toList.map .sc) N H Pk) :
    ACalls Tryz.prog 77 [.sc (.slice none 0 0), .sc (.func (.func gf) #[] lb)] H (fun v K => ∃ ks, Pk ks ∧ RawRow H 28 (nuK ks) v K) := by
  generalize hR : (fun (v : AV) (K : Heap) => ∃ ks, Pk ks ∧ RawRow H 28 (nuK ks) v K) = R
  refine ACalls.into Tryz.func77 rfl Tryz.ntmps77 Tryz.results77 (by simp) ?_
  simp -implicitDefEqProofs [AV.cells]
  refine AAlloc.intro fun b5 e5 => ?_
  simp -implicitDefEqProofs
  generalize hK : Heap.set H b5 _ = K3
  have r53 : RawCell H b5 31 28 [] K3 := by rw [← hK]; exact ⟨HLe.set_fresh e5, e5, _, by simp [Heap.set], .inl ⟨rfl, rfl⟩⟩
  clear hK
  have hHK3 := r53.le
  refine AGo.rangeF (gf := gf) (lb := lb)
    (fun D l _ K => K D = some .dfr ∧ (∃ r, K l = some (.lrec r) ∧ r.st ≠ .busy ∧ r.pe = none) ∧ ∃ ks : List Nat, Pk ks ∧ RawCell H b5 31 28 (nuK ks) K) rfl (by simp) hit.1 ?_ ?_ ?_
  · intro D l hD hl
    generalize hr : ARec.mk _ _ _ _ _ _ _ _ = r0
    have hst : r0.st = .ready := by rw [← hr]
    have hpe : r0.pe = none := by rw [← hr]
    have hps : r0.ps.size = 1 := by rw [← hr]; rfl
    have hDl : D ≠ l := by intro e; subst e; simp [Heap.set] at hl
    have hl3 : K3 l = none := by simpa [Heap.set, hDl.symm] using hl
    have el : H l = none := hHK3.none hl3
    have eD : H D = none := hHK3.none hD
    generalize hKs : (K3.set D .dfr).set l (.lrec r0) = Ks
    have ls : HLe K3 Ks := by rw [← hKs]; exact (HLe.set_fresh hD).trans (HLe.set_fresh hl)
    have sl : Ks l = some (.lrec r0) := by rw [← hKs]; simp [Heap.set]
    have sD : Ks D = some .dfr := by rw [← hKs]; simp [Heap.set, hDl]
    have s5 := r53.up ls
    have sH : HLe H Ks := hHK3.trans ls
    clear hKs
    refine (hit.2 Ks l (JGath H b5 l D r0) (fun _ => False) sH ?_ ?_ ?_ ?_ ?_).mono ?_
    · exact fun ks K h => h.row.le
    · rintro ks K K' ⟨h1, h2, h3⟩ hk
      exact ⟨h1.up hk, hk _ _ h2, hk _ _ h3⟩
    · rintro ks K p o o' ⟨h1, h2, h3⟩ hp hKp ho
      have pl : p ≠ l := by rintro rfl; rw [sl] at hp; cases hp
      have pD : p ≠ D := by rintro rfl; rw [sD] at hp; cases hp
      obtain ⟨_, _, _, _, rfl⟩ := ho
      exact ⟨h1.setO (sH.none hp) hKp (fun _ _ h => by cases h), by simp [Heap.set, pl.symm, h2], by simp [Heap.set, pD.symm, h3]⟩
    · rintro ks K k hkl ⟨h1, h2, h3'⟩
      have hd : nuK ks ++ [(.sc (.int .u64 (k : Int)) : AV)] = nuK (ks ++ [k]) := by simp
      obtain ⟨ys, hys⟩ : ∃ ys, nuK (ks ++ [k]) = ys := ⟨_, rfl⟩
      rw [hys] at hd
      refine ACalls.round h2 (by simp [hps]) ?_
      obtain ⟨r9', hr9⟩ : ∃ r9, r0 = r9 := ⟨_, rfl⟩
      clear hps hst hpe
      subst hr
      simp -implicitDefEqProofs [aputs]
      refine AGo.bgn rfl h2 rfl ?_
      rw [hr9] at h2 sl ⊢
      generalize hrb : ARec.mk _ _ _ _ _ _ _ _ = rb
      generalize hKb : Heap.set K l _ = Kb
      have rowb : RawCell H b5 31 28 (nuK ks) Kb := by rw [← hKb]; exact h1.setO el h2 (fun _ _ h => by cases h)
      have ml : Kb l = some (.lrec rb) := by rw [← hKb]; simp [Heap.set]
      have mD : Kb D = some .dfr := by rw [← hKb]; simp only [Heap.set, if_neg hDl]; exact h3'
      have hkeep : ∀ p o, Ks p = none → K p = some o → Kb p = some o := by
        intro p o hp hKp
        have : p ≠ l := by rintro rfl; rw [sl] at hp; cases hp
        rw [← hKb]
        simp only [Heap.set, if_neg this]
        exact hKp
      clear hKb
      obtain ⟨A, cap, H1, kb5, hrw, hnx⟩ := rowb.row
      have hxs : (nuK ks).length ≤ 1000000 := by simp; omega
      generalize hxs0 : nuK ks = xs at *
      simp -implicitDefEqProofs [kb5]
      refine ACall.intro (app_rawF hrw rfl hxs) fun v' K' hv' => ?_
      rw [hd] at hv'
      obtain ⟨A', cap', rfl⟩ := hv'.form
      obtain ⟨n1, n2, n3⟩ := hnx _ _ _ hv'
      have l5 : b5 ≠ l := by rintro rfl; rw [kb5] at ml; cases ml
      have l6 : b5 ≠ D := by rintro rfl; rw [kb5] at mD; cases mD
      have ml' := n3 _ _ ml (fun _ _ h => by cases h)
      have mD' := n3 _ _ mD (fun _ _ h => by cases h)
      simp -implicitDefEqProofs [n2]
      refine ⟨rb, by simp [Heap.set, l5.symm, ml'], ?_, rfl, ⟨by rw [hys]; exact n1.setO el (by simp [Heap.set, l5.symm, ml']; rfl) (fun _ _ h => by cases h), by simp [Heap.set]; rw [← hrb, ← hr9], by simp [Heap.set, hDl, l6.symm, mD']⟩⟩
      intro p o hp hKp ho
      obtain ⟨_, _, _, _, rfl⟩ := ho
      have pl : p ≠ l := by rintro rfl; rw [sl] at hp; cases hp
      have p5 : p ≠ b5 := by rintro rfl; obtain ⟨_, h5, _⟩ := s5.ex; rw [h5] at hp; cases hp
      simp only [Heap.set, if_neg pl, if_neg p5]
      exact n3 _ _ (hkeep p _ hp hKp) (fun _ _ h => by cases h)
    · exact ⟨s5, sl, sD⟩
    · rintro v K (⟨ks, hp, h1, h2, h3⟩ | h)
      · exact ⟨h3, ⟨_, h2, by rw [hst]; simp, hpe⟩, ks, hp, h1⟩
      · exact h.elim
  · rintro D l v K hD hl ⟨_, ⟨r, h1, h2, _⟩, _⟩
    exact ⟨r, h1, h2⟩
  · rintro D l v K r hD hl ⟨gD, ⟨r', gl, _, hpe⟩, ks, hp, row⟩ hK
    have hDl : D ≠ l := by intro e; subst e; simp [Heap.set] at hl
    have hl3 : K3 l = none := by simpa [Heap.set, hDl.symm] using hl
    have eD : H D = none := hHK3.none hD
    have el : H l = none := hHK3.none hl3
    rw [gl] at hK
    cases hK
    obtain ⟨v5, k5', hex⟩ := row.ex
    have m5l : b5 ≠ l := by rintro rfl; rw [k5'] at gl; simp at gl
    have lT : HLe H (K.del l) := HLe.del_new row.le el
    have kT5 : (K.del l) b5 = some (.cells [v5] 31) := by simp [Heap.del, m5l, k5']
    have hDT : (K.del l) D = some .dfr := by simp [Heap.del, hDl, gD]
    have hex' : RawRow H 28 (nuK ks) v5 ((K.del l).del D) := by
      refine ⟨HLe.del_new lT eD, hex.imp id ?_⟩
      rintro ⟨g, zs, a1, a2, a3, a4, a5⟩
      have gl' : g ≠ l := by rintro rfl; rw [a4] at gl; cases gl
      have gD' : g ≠ D := by rintro rfl; rw [a4] at gD; cases gD
      exact ⟨g, zs, a1, a3, by simp [Heap.del, gl', gD', a4], a5⟩
    generalize K.del l = KT at *
    simp -implicitDefEqProofs [hpe, kT5, mark_ret, mark_nrm, hDT]
    subst hR
    exact AFin.intro _ _ (wk_refl _) (HWk.refl _) ⟨ks, hp, hex'⟩
end Go.Proofs.YtlhgpodfhdddkaaGreatDoor
namespace Go.Proofs.YtlhgpodfhdddkaaGreatDoor
open Rg Go Go.RowKit
variable {H : Heap}
theorem c_collect {gf : FuncId} {lb : Array Value} {N : Nat} {Pk : List Nat → Prop} (hN : N ≤ 1000000) (hit : IterU gf (lb.toList.map .sc) N H Pk) :
    ACalls Tryz.prog 62 [.sc (.func (.func gf) #[] lb)] H (fun v K => ∃ ks, Pk ks ∧ RawRow H 28 (nuK ks) v K) := by
  generalize hR : (fun (v : AV) (K : Heap) => ∃ ks, Pk ks ∧ RawRow H 28 (nuK ks) v K) = R
  refine ACalls.into Tryz.func62 rfl Tryz.ntmps62 Tryz.results62 (by simp) ?_
  simp -implicitDefEqProofs
  refine ACall.intro (ACalls.nilArg (pre := []) (c_gather hN hit)) fun v K hv => ?_
  obtain ⟨ks, hp, hr⟩ := hv
  obtain ⟨A, cap, rfl⟩ := hr.form
  rw [List.length_map] at hr ⊢
  simp -implicitDefEqProofs
  subst hR
  exact AFin.intro _ _ (wk_refl _) (HWk.refl _) ⟨ks, hp, hr⟩
theorem nuK_arr (ks : List Nat) : nuK ks = ks.toArray.toList.map uAV := by simp
theorem c_sorted {gf : FuncId} {lb : Array Value} {N : Nat} {Pk : List Nat → Prop} (hN : N ≤ 1000000) (hit : IterU gf (lb.toList.map .sc) N H Pk) (hlen : ∀ ks, Pk ks → ks.length < 50) :
    ACalls Tryz.prog 43 [.sc (.func (.func gf) #[] lb)] H (fun v K => ∃ ks, (∃ k0, Pk k0 ∧ ks.Perm k0) ∧ ks.Pairwise (· ≤ ·) ∧ RawRow H 28 (nuK ks) v K) := by
  generalize hR : (fun (v : AV) (K : Heap) => ∃ ks, (∃ k0, Pk k0 ∧ ks.Perm k0) ∧ ks.Pairwise (· ≤ ·) ∧ RawRow H 28 (nuK ks) v K) = R
  refine ACalls.into Tryz.func43 rfl Tryz.ntmps43 Tryz.results43 (by simp) ?_
  simp -implicitDefEqProofs
  refine ACall.intro (c_collect hN hit) fun v K hv => ?_
  obtain ⟨ks, hp, hl, hc⟩ := hv
  rcases hc with ⟨hn, rfl⟩ | ⟨g, zs, h1, rfl, h2, h3⟩
  · have hks : ks = [] := by simpa using hn
    subst hks
    simp -implicitDefEqProofs
    refine ACall.intro (ACalls.bareNil c_sortNil) fun v K2 hv => ?_
    obtain ⟨rfl, rfl⟩ := hv
    simp -implicitDefEqProofs
    subst hR
    exact AFin.intro _ _ (wk_refl _) (HWk.refl _) ⟨[], ⟨[], hp, .refl _⟩, .nil, hl, .inl ⟨rfl, rfl⟩⟩
  · have e1 : (nuK ks).length = ks.length := by simp
    rw [e1] at h3 ⊢
    have h2' : K g = some (rowC 28 ks.toArray zs) := by rw [st_row, h2, nuK_arr]
    simp -implicitDefEqProofs
    refine ACall.intro (c_sort (n := ks.length) (cap := ks.length + zs.length) (by simp) (hlen ks hp) h2') fun v K2 hv => ?_
    obtain ⟨rfl, d, d1, d2, d3, d4⟩ := hv
    simp -implicitDefEqProofs
    subst hR
    refine AFin.intro _ _ (wk_refl _) (HWk.refl _) ⟨d.toList, ⟨ks, hp, by simpa using d2⟩, d3, (HLe.set_new hl h1).trans d4, .inr ⟨g, zs, h1, by simp [d1], ?_, by simp [d1]; exact h3⟩⟩
    rw [d4 _ _ (show _ = some (rowC 28 d zs) by simp [Heap.set]), st_row]
theorem c_sortedF {gf : FuncId} {lb : Array Value} {N : Nat} {Pk : List Nat → Prop} (hN : N ≤ 1000000) (hit : IterU gf (lb.toList.map .sc) N H Pk) (hlen : ∀ ks, Pk ks → ks.length < 50) :
    ACalls Tryz.prog 43 [.sc (.func (.func gf) #[] lb)] H (fun v K => ∃ ks, (∃ k0, Pk k0 ∧ ks.Perm k0) ∧ ks.Pairwise (· ≤ ·) ∧ v = .sl (nuK ks) .no ∧ HLe H K) := by
  have h1 : ACalls Tryz.prog 43 [.sc (.func (.func gf) #[] lb)] H (fun v K => ∃ xs, (∃ ks, xs = nuK ks ∧ (∃ k0, Pk k0 ∧ ks.Perm k0) ∧ ks.Pairwise (· ≤ ·)) ∧ RawRow H 28 xs v K) :=
    (c_sorted hN hit hlen).mono fun v K ⟨ks, h1, h2, h3⟩ => ⟨nuK ks, ⟨ks, rfl, h1, h2⟩, h3⟩
  have h2 := ACalls.freeze (X := fun xs => ∃ ks, xs = nuK ks ∧ (∃ k0, Pk k0 ∧ ks.Perm k0) ∧ ks.Pairwise (· ≤ ·)) (fun xs hx x hm => by
    obtain ⟨ks, rfl, _⟩ := hx
    obtain ⟨n, _, rfl⟩ := List.mem_map.1 hm
    rfl) h1
  exact h2.mono fun v K ⟨xs, ⟨ks, e, h1, h2⟩, h3, h4⟩ => ⟨ks, h1, h2, by rw [h3, e], h4⟩
end Go.Proofs.YtlhgpodfhdddkaaGreatDoor
namespace Go.Proofs.YtlhgpodfhdddkaaGreatDoor
open Rg Go Go.RowKit
variable {H : Heap}
theorem m_deps : Tryz.prog.underlying 94 = some (.map 28 31) := by kernel_rfl
set_option maxHeartbeats 2000000 in
theorem c_keysIt2 {ly b1 m ck : Nat} {T : TypeId} (L : List ME) (hbk : ∀ e ∈ L, e.2.2 < ck) (hnd : (L.map fun e => e.2.2).Nodup)
    (J : List Nat → Heap → Prop) (Jx : Heap → Prop)
    (hJ : ∀ ks K, J ks K → K m = some (.map (L.map meAV) ck))
    (hL : ∀ ks K K', J ks K → HLe K K' → J ks K')
    (hS : ∀ ks K p o o', J ks K → H p = none → K p = some o → NotOpM o → J ks (K.set p o'))
    (hY : ∀ (ks : List Nat) (K : Heap) (k : Nat), ks.length < L.length → J ks K →
      ACalls Tryz.prog (Tryz.prog.funcs.size + 1 + ly) [uAV k] K (fun v K' => KeepM H K K' ∧ ((v = .sc (.bool true) ∧ J (ks ++ [k]) K') ∨ (v = .sc (.bool false) ∧ Jx K'))))
    (h0 : J [] H) (k1 : H b1 = some (.cells [.sc (.map (some m))] T)) :
    ACalls Tryz.prog 79 [.sc (.func (.yield ly) #[] #[]), .sc (.pointer (some ⟨b1, 0, none⟩))] H (fun _ K => (∃ ks, ks.Perm (L.map fun e => e.1) ∧ J ks K) ∨ Jx K) := by
  generalize hR : (fun (_ : AV) (K : Heap) => (∃ ks : List Nat, ks.Perm (L.map fun e => e.1) ∧ J ks K) ∨ Jx K) = R
  have hm := hJ _ _ h0
  refine ACalls.into Tryz.func79 rfl Tryz.ntmps79 Tryz.results79 (by simp) ?_
  simp -implicitDefEqProofs [k1, st_range]
  refine ACall.intro (c_rangeMap m_deps hm) fun v K hv => ?_
  obtain ⟨it, eit, rfl, rfl⟩ := hv
  have hJ1 := hL _ _ _ h0 (HLe.set_fresh (o := .iter (some m) ck [] ck) eit)
  simp -implicitDefEqProofs
  refine AGo.rounds (fun μ ρ K => ∃ S : List ME, μ = L.length - S.length ∧ (∀ e ∈ S, e ∈ L) ∧ (S.map fun e => e.2.2).Nodup ∧ ρ 0 = .sc (.func (.yield ly) #[] #[]) ∧ ρ 5 = .sc (.pointer (some ⟨it, 0, none⟩)) ∧ K it = some (.iter (some m) ck (S.map fun e => e.2.2) ck) ∧ J (S.map fun e => e.1) K) ?_ (m := L.length) (HLe.refl _)
    ⟨[], rfl, by simp, by simp, by simp, by simp, by simp [Heap.set], hJ1⟩
  clear hJ1 hm h0 k1
  rintro μ ρ K ih ⟨S, rfl, hSL, hSn, r0, r5, hit, hJK⟩
  have hm := hJ _ _ hJK
  simp -implicitDefEqProofs [r5, st_next]
  refine ACall.intro (c_nextMap hit hm (fun e he => by obtain ⟨q, hq, rfl⟩ := List.mem_map.1 he; exact hbk q hq)) fun v K2 hv => ?_
  have hlt : ∀ x : ME, x ∈ L → x.2.2 ∉ (S.map fun e => e.2.2) → (S ++ [x]).length ≤ L.length := fun x hx hn => by
    have h1 : ((S ++ [x]).map fun e => e.2.2).Nodup := by
      rw [List.map_append, List.nodup_append]
      exact ⟨hSn, by simp, fun a ha b hb => by simp at hb; subst hb; rintro rfl; exact hn ha⟩
    have h2 : ∀ a ∈ (S ++ [x]).map fun e => e.2.2, a ∈ L.map fun e => e.2.2 := fun a ha => by
      obtain ⟨q, hq, rfl⟩ := List.mem_map.1 ha
      rcases List.mem_append.1 hq with hq | hq
      · exact List.mem_map_of_mem (hSL q hq)
      · rw [List.mem_singleton.1 hq]; exact List.mem_map_of_mem hx
    have := nodup_len _ _ h1 h2
    simpa using this
  rcases hv with ⟨e, he, hen, rfl, rfl⟩ | ⟨hall, rfl, rfl⟩
  · obtain ⟨x, hx, rfl⟩ := List.mem_map.1 he
    have hc := c_entry (P := Tryz.prog) (H := K.set it (.iter (some m) ck ((S.map fun e => e.2.2) ++ [x.2.2]) ck)) (it := it) (m := m) (ck := ck) (s := x.2.2) (seen := S.map fun e => e.2.2) (es := L.map meAV) (e := meAV x) (by simp [Heap.set])
      (by have : m ≠ it := (by rintro rfl; rw [hm] at hit; cases hit); simp [Heap.set, this, hm]) he rfl
      (fun e' he' hb => by
        obtain ⟨q, hq, rfl⟩ := List.mem_map.1 he'
        rw [show q = x from map_inj hnd hq hx hb])
    have hsn := hlt x hx hen
    have hJ2 := hS _ _ _ _ (.iter (some m) ck ((S.map fun e => e.2.2) ++ [x.2.2]) ck) hJK eit hit .iter
    have hit2 : (K.set it (.iter (some m) ck ((S.map fun e => e.2.2) ++ [x.2.2]) ck)) it = some (.iter (some m) ck ((S.map fun e => e.2.2) ++ [x.2.2]) ck) := by simp [Heap.set]
    generalize Heap.set K it _ = K3 at *
    simp -implicitDefEqProofs [r5, st_entry]
    refine ACall.eq hc ?_
    simp -implicitDefEqProofs [r0]
    refine ACall.intro (hY _ _ x.1 (by simp only [List.length_append, List.length_singleton, List.length_map] at hsn ⊢; omega) hJ2) fun v K4 hv => ?_
    obtain ⟨hk, hv⟩ := hv
    have hit4 := hk _ _ eit hit2 .iter
    rcases hv with ⟨rfl, hJ4⟩ | ⟨rfl, hJx⟩
    · simp -implicitDefEqProofs
      exact AGo.again ih (m' := L.length - (S ++ [x]).length) (by simp only [List.length_append, List.length_singleton] at hsn ⊢; omega) (HLe.refl _) ⟨S ++ [x], rfl, fun a ha => by
          rcases List.mem_append.1 ha with ha | ha
          · exact hSL a ha
          · rw [List.mem_singleton.1 ha]; exact hx, by
          rw [List.map_append, List.nodup_append]
          exact ⟨hSn, by simp, fun a ha b hb => by simp at hb; subst hb; rintro rfl; exact hen ha⟩, by simp [r0], by simp [r5], by simpa using hit4, by simpa using hJ4⟩
    · simp -implicitDefEqProofs
      subst hR
      exact AFin.intro _ _ (wk_refl _) (HWk.refl _) (.inr hJx)
  · simp -implicitDefEqProofs
    subst hR
    refine AFin.intro _ _ (wk_refl _) (HWk.refl _) (.inl ⟨_, ?_, hJK⟩)
    refine List.Perm.map _ ((List.perm_ext_iff_of_nodup (nodup_of hSn) (nodup_of hnd)).2 fun a => ⟨hSL a, fun ha => ?_⟩)
    have h1 := hall (meAV a) (List.mem_map_of_mem ha)
    obtain ⟨q, hq, hqa⟩ := List.mem_map.1 h1
    rw [← map_inj hnd (hSL q hq) ha hqa]
    exact hq
theorem iter_keys2 {b1 m ck : Nat} {T : TypeId} {L : List ME} (hbk : ∀ e ∈ L, e.2.2 < ck) (hnd : (L.map fun e => e.2.2).Nodup) (hm : H m = some (.map (L.map meAV) ck)) (k1 : H b1 = some (.cells [.sc (.map (some m))] T)) :
    IterU 79 [.sc (.pointer (some ⟨b1, 0, none⟩))] L.length H (fun ks => ks.Perm (L.map fun e => e.1)) := by
  refine ⟨by simp, ?_⟩
  intro H' ly J Jx hle hJ hL hS hY h0
  exact c_keysIt2 L hbk hnd J Jx (fun ks K h => hJ ks K h _ _ hm) hL hS hY h0 (hle _ _ k1)
theorem c_keys2 {m : Nat} : ACalls Tryz.prog 66 [.sc (.map (some m))] H (fun v K => ∃ b, v = .sc (.func (.func 79) #[] #[.pointer (some ⟨b, 0, none⟩)]) ∧ HLe H K ∧ K b = some (.cells [.sc (.map (some m))] 94)) := by
  refine ACalls.into Tryz.func66 rfl Tryz.ntmps66 Tryz.results66 (by simp) ?_
  simp -implicitDefEqProofs
  refine AAlloc.intro fun b hb => ?_
  simp -implicitDefEqProofs
  exact ⟨_, _, wk_refl _, HWk.refl _, b, rfl, HLe.set_fresh hb, by simp [Heap.set]⟩
end Go.Proofs.YtlhgpodfhdddkaaGreatDoor
