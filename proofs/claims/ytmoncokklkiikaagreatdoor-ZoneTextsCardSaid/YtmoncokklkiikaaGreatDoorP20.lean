/- Zones: the package variables that are read; numbers' and offsets' texts. Zones in the document's type: which may be, offsets, moments. Zones, as the document has them. Zones, as the document has them: offsets at moments, moments of a clock, when it begins. The chapter's rows on zones. The chapter's rows on zones, all of them. ZoneTells. Zones' texts, as the document has them. What zone a text tells, as the document has it. -/
import Derived.Test.YtmoncokklkiikaaGreatDoorP19
import Derived.Lib.AppendIntMem
import Derived.Test.YtmoncokklkiikaaGreatDoorP17
set_option linter.unusedSimpArgs false
set_option linter.unusedVariables false
set_option linter.unnecessarySimpa false
namespace Go.Proofs.YtmoncokklkiikaaGreatDoor
open Rg Go Go.RowKit
structure GlobZ (H : Heap) : Prop where
  tab : GlobT H
  pow : H 1 = some (.ro (Lib.pow10Tab.map fun z => Value.int .u64 z))
theorem GlobZ.le {H K : Heap} (h : GlobZ H) (hk : HLe H K) : GlobZ K := ⟨h.tab.wk hk, hk _ _ h.pow⟩
theorem GlobZ.new {H : Heap} {b : Nat} {o : AObj} (h : GlobZ H) (hb : H b = none) : GlobZ (H.set b o) := h.le (HLe.set_fresh hb)
theorem GlobZ.set {H : Heap} {b : Nat} {o : AObj} (h : GlobZ H) (hb : ∀ us, H b ≠ some (.ro us)) : GlobZ (H.set b o) := by
  refine ⟨h.tab.set hb, ?_⟩
  unfold Heap.set
  split
  · rename_i hc; subst hc; exact absurd h.pow (hb _)
  · exact h.pow
variable {H : Heap} {W0 w : World} {C : Com}
theorem GlobZ.isTab (h : GlobZ H) (hi : Inv W0 C H w) : Lib.TabIs Tryz.prog w "internal/strconv.uint64pow10" .u64 Lib.pow10Tab := by
  obtain ⟨T, fr, hw⟩ := hi.whole h.pow (by simp [Lib.pow10Tab_length])
  unfold Lib.TabIs World.var?
  rw [show Tryz.prog.globalNamed "internal/strconv.uint64pow10" = some 1 by kernel_rfl]
  simp only [Option.bind_some]
  rw [hw]
theorem below_growZ (w : World) (n : Nat) (os : Array Obj) : Below w.heap.size w (Go.Sort.grow (w.drewN n) os) := Lib.below_grow _ w (Nat.le_refl _) n os
theorem c_formatInt (hG : GlobZ H) (n : Int) (h0 : -9223372036854775808 ≤ n) (h1 : n ≤ 9223372036854775807) : AOk Tryz.prog 116 [.sc (.int .i64 n), .sc (.int .i64 10)] H (str (Lib.itoa n)) H :=
  AOk.kit (vs := [.int .i64 n, .int .i64 10]) (r := .string ⟨(Lib.itoa n).toArray⟩) fun W0 C w hi => (Tryz.strconv_FormatInt_10 n h0 h1 w (hG.isTab hi)).mono fun e w' ⟨h1, k, os, h2⟩ => ⟨h1, h2 ▸ below_growZ w k os⟩
theorem c_itoaZ (hG : GlobZ H) (n : Int) (h0 : -9223372036854775808 ≤ n) (h1 : n ≤ 9223372036854775807) : AOk Tryz.prog 160 [.sc (.int .i64 n)] H (str (Lib.itoa n)) H :=
  AOk.kit (vs := [.int .i64 n]) (r := .string ⟨(Lib.itoa n).toArray⟩) fun W0 C w hi => (Tryz.strconv_Itoa n h0 h1 w (hG.isTab hi)).mono fun e w' ⟨h1, k, os, h2⟩ => ⟨h1, h2 ▸ below_growZ w k os⟩
theorem dec_five {k : Nat} (h : k < 10000) : Lib.decDigits (10000 + k) = 49 :: four k := by
  have e : ∀ u, ¬ u < 10 → Lib.decDigits u = Lib.decDigits (u / 10) ++ [UInt8.ofNat (48 + u % 10)] := fun u hu => by rw [Lib.decDigits, dif_neg hu]
  have e1 : Lib.decDigits ((10000 + k) / 10 / 10 / 10 / 10) = [49] := by
    rw [show (10000 + k) / 10 / 10 / 10 / 10 = 1 by omega, Lib.decDigits, dif_pos (by omega)]
    rfl
  rw [e _ (by omega), e _ (by omega), e _ (by omega), e _ (by omega), e1]
  unfold four dg8
  rw [show (10000 + k) / 10 / 10 / 10 % 10 = k / 1000 % 10 by omega, show (10000 + k) / 10 / 10 % 10 = k / 100 % 10 by omega, show (10000 + k) / 10 % 10 = k / 10 % 10 by omega, show (10000 + k) % 10 = k % 10 by omega]
  rfl
set_option maxHeartbeats 1000000 in
theorem c_written (hG : GlobZ H) {n : Int} (ho : offOk n = true) : AOk Tryz.prog 115 [.sc (.int .i64 n)] H (str (wrZ n)) H := by
  have ho' := offOk_iff.1 ho
  obtain ⟨m, hm⟩ : ∃ m, n.natAbs = m := ⟨_, rfl⟩
  obtain ⟨a, ha⟩ : ∃ x, m / 3600 = x := ⟨_, rfl⟩
  obtain ⟨b, hb⟩ : ∃ x, a * 100 = x := ⟨_, rfl⟩
  obtain ⟨c, hc⟩ : ∃ x, 10000 + b = x := ⟨_, rfl⟩
  obtain ⟨d, hd⟩ : ∃ x, m / 60 = x := ⟨_, rfl⟩
  obtain ⟨e, he⟩ : ∃ x, d % 60 = x := ⟨_, rfl⟩
  obtain ⟨f, hf⟩ : ∃ x, c + e = x := ⟨_, rfl⟩
  have w1 : IntKind.i64.wrap ((m : Int) / 3600) = (a : Int) := wdiv (b := 3600) ha (by omega)
  have w2 : IntKind.i64.wrap ((a : Int) * 100) = (b : Int) := wmul (b := 100) hb (by omega)
  have w3 : IntKind.i64.wrap (10000 + (b : Int)) = (c : Int) := wadd (a := 10000) hc (by omega)
  have w4 : IntKind.i64.wrap ((m : Int) / 60) = (d : Int) := wdiv (b := 60) hd (by omega)
  have w5 : (d : Int).tmod 60 = (e : Int) := wmod (b := 60) he
  have w6 : IntKind.i64.wrap ((c : Int) + (e : Int)) = (f : Int) := wadd hf (by omega)
  have hk : hhmm m < 10000 := by have := hhmm_lt (n := m) (by omega); omega
  have hfk : f = 10000 + hhmm m := by unfold hhmm; omega
  have hi : Lib.itoa (f : Int) = 49 :: four (hhmm m) := by rw [itoa_nat (by omega), Int.toNat_natCast, hfk, dec_five hk]
  unfold wrZ
  rw [hm]
  have h41 : (1 : Int) ≤ ((four (hhmm m)).length : Int) + 1 := by omega
  have h42 : 1 + (four (hhmm m)).length ≤ 9223372036854775807 := by simp [four]
  generalize hhmm m = q at *
  refine ACalls.into Tryz.func115 rfl Tryz.ntmps115 Tryz.results115 (by simp) ?_
  by_cases hn : n < 0
  · have w0 : IntKind.i64.wrap (-n) = (m : Int) := by rw [wrap_i64 (by omega) (by omega)]; omega
    simp -implicitDefEqProofs [hn, w0, w1, w2, w3, w4, w5, w6]
    refine ACall.eq (c_itoaZ hG f (by omega) (by omega)) ?_
    rw [hi]
    simp -implicitDefEqProofs [h41, h42]
  · obtain rfl : n = (m : Int) := by omega
    simp -implicitDefEqProofs [hn, w1, w2, w3, w4, w5, w6]
    refine ACall.eq (c_itoaZ hG f (by omega) (by omega)) ?_
    rw [hi]
    simp -implicitDefEqProofs [h41, h42]
def GrowsS (H0 : Heap) (xs : List AV) (sz : Nat) (e : TypeId) (t : Rg.Tok) (K : Heap) : Prop :=
  (t = .full ∧ K = H0) ∨ ∃ g cap, H0 g = none ∧ t = .own g cap sz e ∧ K = H0.set g (.open xs.length cap sz e)
theorem GrowsS.le {H0 K : Heap} {xs : List AV} {sz : Nat} {e : TypeId} {t : Rg.Tok} (h : GrowsS H0 xs sz e t K) : HLe H0 K := by
  rcases h with ⟨_, rfl⟩ | ⟨g, cap, h1, _, rfl⟩
  · exact HLe.refl _
  · exact (HLe.refl _).set_new h1
theorem growsS_app {P : Program} {n : Nat} {Q : Post} {ρ : Nat → AV} {k : List AItem} {full : Array Oper} {dst : Option Tmp} {r : List Oper} {T e : TypeId} {xs ys : List AV} {t : Rg.Tok} {sz by_ : Nat} {H0 K : Heap} (he : ElemOk P T e sz by_) (hg : GrowsS H0 xs sz e t K) (hl : HLe K H)
    (h0 : ys ≠ []) (hx : szs sz xs = true) (hy : szs sz ys = true) (hb : (xs.length + ys.length) * by_ ≤ 140737488355328) (hm : xs.length + ys.length ≤ maxLen)
    (h : ∀ t' K' Hn, GrowsS H0 (xs ++ ys) sz e t' K' → HLe K' Hn → AGo P n Q (.ops full r :: k) (aput n dst (.sl (xs ++ ys) t') ρ) Hn) : AApp P n Q full dst r k ρ H T e xs t ys := by
  rcases hg with ⟨rfl, rfl⟩ | hg
  · refine AApp.new he (.inr rfl) h0 hx hy hb hm fun g cap hgn => h _ (K.set g (.open (xs.length + ys.length) cap sz e)) _ (.inr ⟨g, cap, hl.none hgn, rfl, by simp⟩) hl.set_mono
  · refine AApp.grows he (.inr hg) hl h0 hx hy hb hm fun t' K' Hn hg' hl' => h t' K' Hn ?_ hl'
    rcases hg' with ⟨h1, _, _⟩ | h1
    · exact absurd (List.append_eq_nil_iff.1 h1).2 h0
    · exact .inr h1
set_option maxHeartbeats 4000000 in
theorem c_zText (hG : GlobZ H) (z : Zn) (t : Rg.Tok) : AOk Tryz.prog 46 [zAV z t] H (str (textZ z)) H := by
  refine ACalls.into Tryz.func46 rfl Tryz.ntmps46 Tryz.results46 (by simp) ?_
  simp -implicitDefEqProofs
  refine AAlloc.intro fun b1 h1 => ?_
  simp -implicitDefEqProofs
  generalize hK : Heap.set _ b1 _ = K
  have k1 : K b1 = some (.cells (zC z t) 55) := by rw [← hK]; simp [Heap.set]
  have kG : GlobZ K := by rw [← hK]; exact hG.new h1
  have kW : HLe H K := by rw [← hK]; exact HLe.set_fresh h1
  clear hK
  refine ACall.eq (c_zMay z t) ?_
  cases hz : mayZ z with
  | false =>
    have e : textZ z = [] := by unfold textZ; rw [hz]; rfl
    rw [e]
    simp -implicitDefEqProofs
    exact kW.wk
  | true =>
    obtain ⟨p1, p2, p3⟩ := may_parts hz
    have hin := mayL_in p3
    have e : textZ z = Lib.join (wordsZ z) [32] := by unfold textZ; rw [if_pos hz]
    have hlen := text_len z
    rw [e] at hlen ⊢
    simp -implicitDefEqProofs [k1]
    refine ACall.eq (c_written kG p1) ?_
    simp -implicitDefEqProofs [k1]
    have hwl : (wordsZ z).length = z.l.length + 1 := by simp [wordsZ]
    refine AGo.rounds (fun μ ρ K2 => ∃ (i : Nat) (tk : Rg.Tok) (K3 : Heap), μ = z.l.length - i ∧ i ≤ z.l.length ∧ ρ 3 = .sl (strL ((wordsZ z).take (i + 1))) tk ∧ ρ 14 = .sl (z.l.map chAV) t ∧ ρ 15 = .sc (.int .i64 (z.l.length : Int)) ∧ ρ 16 = .sc (.int .i64 (i : Int)) ∧ GrowsS K (strL ((wordsZ z).take (i + 1))) 1 9 tk K3 ∧ HLe K3 K2) ?_ (m := z.l.length) (HLe.refl _)
      ⟨0, .full, K, by omega, by omega, by simp [wordsZ], by simp, by simp, by simp, .inl ⟨rfl, rfl⟩, HLe.refl _⟩
    rintro μ ρ K2 ih ⟨i, tk, K3, rfl, hi, r3, r14, r15, r16, hg, hle⟩
    have kG2 : GlobZ K2 := kG.le (hg.le.trans hle)
    rcases Nat.lt_or_ge i z.l.length with hlt | hge
    · obtain ⟨c, hc, _⟩ := getAt hlt
      have hcz := hin c (by rw [← hc]; exact List.getElem_mem _)
      have hw1 : IntKind.i64.wrap ((i : Int) + 1) = (i : Int) + 1 := wrap_i64 (by omega) (by omega)
      have hd : (wordsZ z).take (i + 1 + 1) = (wordsZ z).take (i + 1) ++ [partZ c] := by
        rw [List.take_succ_eq_append_getElem (by omega)]
        congr 2
        simp [wordsZ, hc]
      have hxl : ((wordsZ z).take (i + 1)).length = i + 1 := by rw [List.length_take]; omega
      generalize (wordsZ z).take (i + 1) = xs at *
      simp -implicitDefEqProofs [r3, r14, r15, r16, hlt, hc]
      refine AAlloc.intro fun b5 h5 => ?_
      simp -implicitDefEqProofs [r3, r14, r15, r16]
      have kG3 : ∀ o, GlobZ (K2.set b5 o) := fun o => kG2.new h5
      refine go_draw 9 f_mixed (by decide +kernel) ?_
      simp -implicitDefEqProofs [r3]
      refine AQS.eq (c_formatInt (by apply kG3) c.1 (by omega) (by omega)) ?_
      simp -implicitDefEqProofs
      refine AQS.eq (c_written (by apply kG3) hcz.1) ?_
      have hpl := part_len hcz.2.1 hcz.2.2
      unfold partZ at hpl
      rw [List.length_append] at hpl
      have hpl' : (Lib.itoa c.1).length + (wrZ c.2).length ≤ 9223372036854775807 := by omega
      simp -implicitDefEqProofs [hpl']
      refine growsS_app el_89 hg (hle.trans (HLe.set_fresh h5)) (by simp) (by simp [szs]) (by simp [szs]) (by simp; omega) (by simp [maxLen]; omega) fun t' K' Hn hg' hl' => ?_
      simp -implicitDefEqProofs [r16, hw1]
      refine AGo.again ih (m' := z.l.length - (i + 1)) (by omega) (HLe.refl _) ⟨i + 1, t', K', rfl, by omega, by simp [hd, partZ], by simp [r14], by simp [r15], by simp, ?_, hl'⟩
      rw [hd]
      simpa [strL, partZ] using hg'
    · have hn' : ¬ i < z.l.length := by omega
      rw [List.take_of_length_le (by omega)] at r3 hg
      simp -implicitDefEqProofs [r3, r15, r16, hn']
      refine ACall.eq (c_join (wordsZ z) tk [32] (by omega) (by omega)) ?_
      simp -implicitDefEqProofs
      exact (kW.trans (hg.le.trans hle)).wk
end Go.Proofs.YtmoncokklkiikaaGreatDoor
namespace Go.Proofs.YtmoncokklkiikaaGreatDoor
open Rg Go
variable {H : Heap}
structure RowZ (sz : Nat) (e T : TypeId) (H0 : Heap) (c n : Nat) (F : Rg.Tok → List AV) (K : Heap) : Prop where
  le : HLe H0 K
  no : H0 c = none
  row : ∃ t, K c = some (.cells (F t) T) ∧ ((t = .nil ∧ n = 0) ∨ ∃ g cap, g ≠ c ∧ H0 g = none ∧ t = .own g cap sz e ∧ K g = some (.open n cap sz e))
theorem RowZ.new {sz : Nat} {e T : TypeId} {H0 K : Heap} {c n p : Nat} {F : Rg.Tok → List AV} {o : AObj} (h : RowZ sz e T H0 c n F K) (hp : K p = none) : RowZ sz e T H0 c n F (K.set p o) := by
  obtain ⟨t, h1, h2⟩ := h.row
  have hpc : c ≠ p := by rintro rfl; rw [h1] at hp; cases hp
  refine ⟨h.le.trans (HLe.set_fresh hp), h.no, t, by simp [Heap.set, hpc, h1], h2.imp id ?_⟩
  rintro ⟨g, cap, g1, g2, g3, g4⟩
  have : g ≠ p := by rintro rfl; rw [hp] at g4; cases g4
  exact ⟨g, cap, g1, g2, g3, by simp [Heap.set, this, g4]⟩
theorem RowZ.grows {sz : Nat} {e T : TypeId} {H0 K : Heap} {c : Nat} {F : Rg.Tok → List AV} {xs : List AV} (h : RowZ sz e T H0 c xs.length F K) :
    ∃ t G0 G, K c = some (.cells (F t) T) ∧ Grows G0 xs sz e t G ∧ HLe G K ∧ HLe H0 G0 ∧ G0 c = some (.cells (F t) T) ∧ ∀ p cs T', K p = some (.cells cs T') → G0 p = some (.cells cs T') := by
  obtain ⟨t, h1, ⟨rfl, hn⟩ | ⟨g, cap, h2, h3, rfl, h4⟩⟩ := h.row
  · obtain rfl := List.length_eq_zero_iff.1 hn
    exact ⟨_, K, K, h1, .zero, HLe.refl _, h.le, h1, fun _ _ _ h => h⟩
  · refine ⟨_, K.del g, (K.del g).set g (.open xs.length cap sz e), h1, .inr ⟨g, cap, by simp [Heap.del], rfl, rfl⟩, fun b ob hb => ?_, HLe.del_new h.le h3, by simp [Heap.del, Ne.symm h2, h1], fun p cs T' hp => ?_⟩
    · by_cases hbg : b = g
      · subst hbg
        simp only [Heap.set, if_true] at hb
        rw [← hb]; exact h4
      · simpa [Heap.set, Heap.del, hbg] using hb
    · have : p ≠ g := by rintro rfl; rw [h4] at hp; cases hp
      simp [Heap.del, this, hp]
theorem RowZ.stored {sz : Nat} {e T : TypeId} {H0 G0 K' Hn : Heap} {c : Nat} {xs : List AV} {F : Rg.Tok → List AV} {t' : Rg.Tok} {o : AObj} (h1 : HLe H0 G0) (h2 : H0 c = none) (h3 : G0 c = some o) (h4 : Grows G0 xs sz e t' K') (h5 : HLe K' Hn) :
    RowZ sz e T H0 c xs.length F (Hn.set c (.cells (F t') T)) := by
  have hle := (h1.trans h4.le).trans h5
  refine ⟨HLe.set_new hle h2, h2, t', by simp [Heap.set], ?_⟩
  rcases h4 with ⟨rfl, rfl, rfl⟩ | ⟨g, cap, g1, rfl, rfl⟩
  · exact .inl ⟨rfl, rfl⟩
  · have hgc : g ≠ c := by rintro rfl; rw [h3] at g1; cases g1
    exact .inr ⟨g, cap, hgc, h1.none g1, rfl, by simp [Heap.set, hgc]; exact h5 g _ (by simp [Heap.set])⟩
set_option maxHeartbeats 2000000 in
theorem c_ofZ (z : Zn) (t : Rg.Tok) (hz : z.l.length ≤ 8796093022208) : AOk Tryz.prog 28 [zAV z t] H (zAV z .no) H := by
  refine ACalls.into Tryz.func28 rfl Tryz.ntmps28 Tryz.results28 (by simp) ?_
  simp -implicitDefEqProofs
  refine AAlloc.intro fun b1 h1 => ?_
  simp -implicitDefEqProofs
  refine AAlloc.intro fun b2 h2 => ?_
  have n12 : b1 ≠ b2 := by intro e; subst e; simp [Heap.set] at h2
  have e2 : H b2 = none := (HLe.set_fresh h1).none h2
  simp -implicitDefEqProofs [n12]
  generalize hK : Heap.set _ b2 _ = K1
  have k1 : K1 b1 = some (.cells (zC z t) 55) := by rw [← hK]; simp [Heap.set, n12]
  have kW : HWk H K1 := by rw [← hK]; exact HWk.new e2 (HWk.new h1 (HWk.refl _))
  have k2 : K1 b2 = some (.cells [.sc (.int .i64 0), .sl [] .nil] 61) := by rw [← hK]; simp [Heap.set]
  clear hK
  refine AAlloc.intro fun b3 h3 => ?_
  have n13 : b1 ≠ b3 := by intro e; subst e; rw [k1] at h3; cases h3
  have n23 : b2 ≠ b3 := by intro e; subst e; rw [k2] at h3; cases h3
  simp -implicitDefEqProofs [n13, k1]
  refine AGo.rounds (fun μ ρ K => ∃ (i : Nat), μ = z.l.length - i ∧ i ≤ z.l.length ∧ ρ 2 = .sc (.pointer (some ⟨b2, 0, none⟩)) ∧ ρ 3 = .sc (.pointer (some ⟨b3, 0, none⟩)) ∧ ρ 10 = .sl (z.l.map chAV) t ∧ ρ 11 = .sc (.int .i64 (z.l.length : Int)) ∧ ρ 12 = .sc (.int .i64 (i : Int)) ∧
    RowZ 2 159 61 K1 b3 i (fun t => [.sc (.int .i64 z.first), .sl ((z.l.map chAV).take i) t]) K) ?_ (m := z.l.length) (HLe.refl _)
    ⟨0, by omega, by omega, by simp, by simp, by simp, by simp, by simp, ⟨HLe.set_fresh h3, h3, .nil, by simp [Heap.set], .inl ⟨rfl, rfl⟩⟩⟩
  rintro μ ρ K ih ⟨i, rfl, hi, r2, r3, r10, r11, r12, hR⟩
  have hxl : ((z.l.map chAV).take i).length = i := by rw [List.length_take, List.length_map]; omega
  rcases Nat.lt_or_ge i z.l.length with hlt | hge
  · obtain ⟨c, hc, _⟩ := getAt hlt
    have hw1 : IntKind.i64.wrap ((i : Int) + 1) = (i : Int) + 1 := wrap_i64 (by omega) (by omega)
    have hd : (z.l.map chAV).take (i + 1) = (z.l.map chAV).take i ++ [chAV c] := by
      rw [List.take_succ_eq_append_getElem (by simpa using hlt)]; simp [hc]
    have hsz : szs 2 ((z.l.map chAV).take i) = true := by
      simp only [szs, List.all_eq_true]
      intro a ha
      obtain ⟨c, _, rfl⟩ := List.mem_map.1 (List.mem_of_mem_take ha)
      rfl
    generalize (z.l.map chAV).take i = xs at *
    simp -implicitDefEqProofs [r10, r11, r12, hlt, hc]
    refine AAlloc.intro fun b5 h5 => ?_
    have hR5 := fun o => hR.new (o := o) h5
    have n35 : b3 ≠ b5 := by
      obtain ⟨tt, q, _⟩ := hR.row
      rintro rfl
      rw [q] at h5
      cases h5
    obtain ⟨t0, q0, _⟩ := hR.row
    simp -implicitDefEqProofs [r3, n35, q0]
    generalize hK5 : Heap.set K b5 _ = K5
    have q5 : K5 b3 = some (.cells [.sc (.int .i64 z.first), .sl xs t0] 61) := by rw [← hK5]; simp [Heap.set, n35, q0]
    have hR' : RowZ 2 159 61 K1 b3 xs.length (fun t => [.sc (.int .i64 z.first), .sl xs t]) K5 := by rw [hxl, ← hK5]; exact hR5 _
    have k5 : K5 b5 = some (.cells [.sc (.int .i64 c.1), .sc (.int .i64 c.2)] 69) := by rw [← hK5]; simp [Heap.set]
    clear hK5
    obtain ⟨tk, G0, G, g1, g2, g3, g4, g5, g6⟩ := hR'.grows
    obtain rfl : t0 = tk := by rw [q5] at g1; simpa using g1
    refine AApp.grows el_59 g2 g3 (by simp) hsz (by simp [szs]) (by simp; omega) (by simp [maxLen]; omega) fun t' K' Hn hg' hl' => ?_
    have hn3 := hl' _ _ (hg'.le _ _ g5)
    simp -implicitDefEqProofs [r3, hn3, r12, hw1]
    refine AGo.again ih (m' := z.l.length - (i + 1)) (by omega) (HLe.refl _) ⟨i + 1, rfl, by omega, by simp [r2], by simp [r3], by simp [r10], by simp [r11], by simp, ?_⟩
    have hst := RowZ.stored (T := 61) (F := fun t => [.sc (.int .i64 z.first), .sl (xs ++ [chAV c]) t]) g4 h3 g5 hg' hl'
    rw [hd]
    simpa [hxl] using hst
  · have hn' : ¬ i < z.l.length := by omega
    obtain ⟨tk, q, _⟩ := hR.row
    have q2 := hR.le _ _ k2
    rw [List.take_of_length_le (by simpa using hge)] at q
    simp -implicitDefEqProofs [r2, r3, r11, r12, hn', q, q2, n23]
    exact HWk.new e2 (kW.trans hR.le.wk)
end Go.Proofs.YtmoncokklkiikaaGreatDoor
namespace Go.Proofs.YtmoncokklkiikaaGreatDoor
open Rg Go
variable {H : Heap}
theorem c_rOffset (n : Int) : AOk Tryz.prog 100 [.sc (.int .i64 n)] H (.sc (.bool (offOk n))) H := by
  have e := tmod60 n
  unfold offOk
  refine ACalls.into Tryz.func100 rfl Tryz.ntmps100 Tryz.results100 (by simp) ?_
  by_cases h1 : n % 60 = 0
  · have h1' : n.tmod 60 = 0 := e.2 h1
    by_cases h2 : -50400 ≤ n
    · simp -implicitDefEqProofs [h1, h1', h2]
    · simp -implicitDefEqProofs [h1, h1', h2]
  · have h1' : ¬ n.tmod 60 = 0 := fun h => h1 (e.1 h)
    simp -implicitDefEqProofs [h1, h1']
def okCh (p : Option Int) (c : Int × Int) : Bool := offOk c.2 && decide (0 ≤ c.1) && decide (c.1 < 13569465600) && decide (c.1 % 60 = 0) && (match p with | none => true | some q => decide (q + 172800 ≤ c.1))
theorem mayL_okCh (p : Option Int) (c : Int × Int) (r : List (Int × Int)) : mayL p (c :: r) = (okCh p c && mayL (some c.1) r) := rfl
set_option maxHeartbeats 4000000 in
theorem c_rMay (z : Zn) (t : Rg.Tok) (hz : z.l.length ≤ 1000000) : AOk Tryz.prog 29 [zAV z t] H (.sc (.bool (mayZ z))) H := by
  refine ACalls.into Tryz.func29 rfl Tryz.ntmps29 Tryz.results29 (by simp) ?_
  simp -implicitDefEqProofs
  refine AAlloc.intro fun b1 h1 => ?_
  simp -implicitDefEqProofs
  generalize hK : Heap.set _ b1 _ = K1
  have k1 : K1 b1 = some (.cells (zC z t) 61) := by rw [← hK]; simp [Heap.set]
  have kW : HLe H K1 := by rw [← hK]; exact HLe.set_fresh h1
  clear hK
  refine ACall.eq (c_rOffset _) ?_
  have start : ∃ ok0, ok0 = (offOk z.first && decide (z.l.length ≤ 64)) ∧ mayZ z = (ok0 && mayL none z.l) := ⟨_, rfl, rfl⟩
  obtain ⟨ok0, hok0, hr⟩ := start
  rw [hr]
  generalize hrr : (ok0 && mayL none z.l) = r
  have l64 : ((z.l.length : Int) ≤ 64) ↔ z.l.length ≤ 64 := by omega
  cases hf : offOk z.first with
  | false =>
    obtain rfl : ok0 = false := by rw [hok0, hf]; rfl
    simp only [Bool.false_and] at hrr
    subst hrr
    simp -implicitDefEqProofs [k1]
    refine AGo.rounds (fun μ ρ K => ρ 1 = .sc (.pointer (some ⟨b1, 0, none⟩)) ∧ ρ 3 = .sc (.bool false) ∧ ρ 4 = .sc (.int .i64 0) ∧ K = K1) ?_ (m := 0) (HLe.refl _) ⟨by simp, by simp, by simp, rfl⟩
    rintro μ ρ K ih ⟨r1, r3, r4, rfl⟩
    by_cases hl : 0 < z.l.length
    · simp -implicitDefEqProofs [r1, r3, r4, k1, hl]
      exact kW.wk
    · simp -implicitDefEqProofs [r1, r3, r4, k1, hl]
      exact kW.wk
  | true =>
    rw [hf, Bool.true_and] at hok0
    simp -implicitDefEqProofs [k1, l64]
    refine AGo.rounds (fun μ ρ K => ∃ (i : Nat) (p : Option Int) (ok : Bool), μ = (if ok = true then z.l.length - i + 1 else 0) ∧ i ≤ z.l.length ∧ (ok = true → (mayL p (z.l.drop i) = r ∧ (i = 0 ∧ p = none ∨ ∃ (j : Nat) (d : Int × Int), i = j + 1 ∧ z.l[j]? = some d ∧ p = some d.1 ∧ 0 ≤ d.1 ∧ d.1 < 13569465600))) ∧ (ok = false → r = false) ∧
      ρ 1 = .sc (.pointer (some ⟨b1, 0, none⟩)) ∧ ρ 3 = .sc (.bool ok) ∧ ρ 4 = .sc (.int .i64 (i : Int)) ∧ K = K1) ?_ (m := if ok0 = true then z.l.length + 1 else 0) (HLe.refl _)
      ⟨0, none, ok0, rfl, by omega, fun h => ⟨by rw [← hrr, h]; rfl, .inl ⟨rfl, rfl⟩⟩, fun h => by rw [← hrr, h]; rfl, by simp, by simp [hok0], by simp, rfl⟩
    rintro μ ρ K ih ⟨i, p, ok, rfl, hi, hp, hno, r1, r3, r4, rfl⟩
    cases ok with
    | false =>
      obtain rfl := hno rfl
      by_cases hlt : i < z.l.length
      · simp -implicitDefEqProofs [r1, r3, r4, k1, hlt]
        exact kW.wk
      · simp -implicitDefEqProofs [r1, r3, r4, k1, hlt]
        exact kW.wk
    | true =>
      obtain ⟨hat, hp⟩ := hp rfl
      rcases Nat.lt_or_ge i z.l.length with hlt | hge
      · obtain ⟨c, hej, hc⟩ := getAt hlt
        have hw1 : IntKind.i64.wrap ((i : Int) + 1) = (i : Int) + 1 := wrap_i64 (by omega) (by omega)
        rw [List.drop_eq_getElem_cons hlt, hej, mayL_okCh] at hat
        simp -implicitDefEqProofs [r1, r3, r4, k1, hlt, hej]
        refine AAlloc.intro fun b5 h5 => ?_
        have n15 : b1 ≠ b5 := by intro e; subst e; rw [k1] at h5; cases h5
        simp -implicitDefEqProofs [r1, r3, r4]
        refine ACall.eq (c_rOffset _) ?_
        have hm60 := tmod60 c.1
        have five : offOk c.2 = false ∨ (offOk c.2 = true ∧ ¬ 0 ≤ c.1) ∨ (offOk c.2 = true ∧ 0 ≤ c.1 ∧ ¬ c.1 < 13569465600) ∨ (offOk c.2 = true ∧ 0 ≤ c.1 ∧ c.1 < 13569465600 ∧ ¬ c.1 % 60 = 0 ∧ ¬ c.1.tmod 60 = 0) ∨ (offOk c.2 = true ∧ 0 ≤ c.1 ∧ c.1 < 13569465600 ∧ c.1 % 60 = 0 ∧ c.1.tmod 60 = 0) := by
          rw [hm60]
          cases offOk c.2 with
          | false => exact .inl rfl
          | true => right; simp only [true_and]; omega
        rcases five with h | ⟨ho, h⟩ | ⟨ho, h0, h⟩ | ⟨ho, h0, hM, h, h'⟩ | ⟨ho, h0, hM, h, h'⟩
        · obtain rfl : r = false := by rw [← hat]; simp [okCh, h]
          by_cases hi0 : 0 < i
          · simp -implicitDefEqProofs [h, r1, r4, hw1, hi0, n15]
            exact AGo.again ih (m' := 0) (by simp) (HLe.set_fresh h5) ⟨i + 1, none, false, rfl, by omega, fun h => (by cases h), fun _ => rfl, by simp [r1], by simp, by simp, rfl⟩
          · simp -implicitDefEqProofs [h, r1, r4, hw1, hi0, n15]
            exact AGo.again ih (m' := 0) (by simp) (HLe.set_fresh h5) ⟨i + 1, none, false, rfl, by omega, fun h => (by cases h), fun _ => rfl, by simp [r1], by simp, by simp, rfl⟩
        · obtain rfl : r = false := by rw [← hat]; simp [okCh, ho, h]
          by_cases hi0 : 0 < i
          · simp -implicitDefEqProofs [ho, h, r1, r4, hw1, hi0, n15]
            exact AGo.again ih (m' := 0) (by simp) (HLe.set_fresh h5) ⟨i + 1, none, false, rfl, by omega, fun h => (by cases h), fun _ => rfl, by simp [r1], by simp, by simp, rfl⟩
          · simp -implicitDefEqProofs [ho, h, r1, r4, hw1, hi0, n15]
            exact AGo.again ih (m' := 0) (by simp) (HLe.set_fresh h5) ⟨i + 1, none, false, rfl, by omega, fun h => (by cases h), fun _ => rfl, by simp [r1], by simp, by simp, rfl⟩
        · obtain rfl : r = false := by rw [← hat]; simp [okCh, ho, h0, h]
          by_cases hi0 : 0 < i
          · simp -implicitDefEqProofs [ho, h0, h, r1, r4, hw1, hi0, n15]
            exact AGo.again ih (m' := 0) (by simp) (HLe.set_fresh h5) ⟨i + 1, none, false, rfl, by omega, fun h => (by cases h), fun _ => rfl, by simp [r1], by simp, by simp, rfl⟩
          · simp -implicitDefEqProofs [ho, h0, h, r1, r4, hw1, hi0, n15]
            exact AGo.again ih (m' := 0) (by simp) (HLe.set_fresh h5) ⟨i + 1, none, false, rfl, by omega, fun h => (by cases h), fun _ => rfl, by simp [r1], by simp, by simp, rfl⟩
        · obtain rfl : r = false := by rw [← hat]; simp [okCh, ho, h0, hM, h, h']
          by_cases hi0 : 0 < i
          · simp -implicitDefEqProofs [ho, h0, hM, h, h', r1, r4, hw1, hi0, n15]
            exact AGo.again ih (m' := 0) (by simp) (HLe.set_fresh h5) ⟨i + 1, none, false, rfl, by omega, fun h => (by cases h), fun _ => rfl, by simp [r1], by simp, by simp, rfl⟩
          · simp -implicitDefEqProofs [ho, h0, hM, h, h', r1, r4, hw1, hi0, n15]
            exact AGo.again ih (m' := 0) (by simp) (HLe.set_fresh h5) ⟨i + 1, none, false, rfl, by omega, fun h => (by cases h), fun _ => rfl, by simp [r1], by simp, by simp, rfl⟩
        · rcases hp with ⟨rfl, rfl⟩ | ⟨j, d, hij, hjd, rfl, hd0, hd1⟩
          · have hnx : mayL (some c.1) (z.l.drop (0 + 1)) = r := by rw [← hat]; simp [okCh, ho, h0, hM, h]
            have hw1' : IntKind.i64.wrap (0 + 1) = 1 := by decide
            simp -implicitDefEqProofs [ho, h0, hM, h, h', r1, r4, n15, wrap_i64]
            refine AGo.again ih (m' := z.l.length - (0 + 1) + 1) (by simp; omega) (HLe.set_fresh h5) ⟨0 + 1, some c.1, true, by simp, by omega, fun _ => ⟨hnx, .inr ⟨0, c, rfl, by rw [List.getElem?_eq_getElem hlt, hej], rfl, h0, hM⟩⟩, fun h => (by cases h), by simp [r1], by simp, by simp, rfl⟩
          · have hjl : j < z.l.length := by omega
            have hjd' : z.l[j] = d := by rw [List.getElem?_eq_getElem hjl] at hjd; exact Option.some.inj hjd
            have hw2 : IntKind.i64.wrap ((i : Int) - 1) = (j : Int) := by rw [wrap_i64 (by omega) (by omega)]; omega
            have hw3 : IntKind.i64.wrap (d.1 + 172800) = d.1 + 172800 := wrap_i64 (by omega) (by omega)
            have hi0 : 0 < i := by omega
            simp -implicitDefEqProofs [ho, h0, hM, h, h', r1, r4, n15, hi0]
            refine go_draw 12 f_mixed (by decide +kernel) ?_
            simp -implicitDefEqProofs [r1, r4, n15, k1, hw2, hjl, hjd', hw3, hw1]
            by_cases hap : d.1 + 172800 ≤ c.1
            · have hnx : mayL (some c.1) (z.l.drop (i + 1)) = r := by rw [← hat]; simp [okCh, ho, h0, hM, h, hap]
              refine AGo.again ih (m' := z.l.length - (i + 1) + 1) (by simp; omega) (HLe.set_fresh h5) ⟨i + 1, some c.1, true, by simp, by omega, fun _ => ⟨hnx, .inr ⟨i, c, rfl, by rw [List.getElem?_eq_getElem hlt, hej], rfl, h0, hM⟩⟩, fun h => (by cases h), by simp [r1], by simp [hap], by simp, rfl⟩
            · obtain rfl : r = false := by rw [← hat]; simp [okCh, hap]
              exact AGo.again ih (m' := 0) (by simp) (HLe.set_fresh h5) ⟨i + 1, none, false, rfl, by omega, fun h => (by cases h), fun _ => rfl, by simp [r1], by simp [hap], by simp, rfl⟩
      · have hn : ¬ i < z.l.length := by omega
        rw [List.drop_of_length_le hge] at hat
        simp only [mayL] at hat
        subst hat
        simp -implicitDefEqProofs [r1, r3, r4, k1, hn]
        exact kW.wk
end Go.Proofs.YtmoncokklkiikaaGreatDoor
namespace Go.Proofs.YtmoncokklkiikaaGreatDoor
open Rg Go
variable {H : Heap}
end Go.Proofs.YtmoncokklkiikaaGreatDoor
namespace Go.Proofs.YtmoncokklkiikaaGreatDoor
open Rg Go
variable {H : Heap}
def zS : Zn := ⟨3600, [(10000800, 7200), (20000880, 3600)]⟩
theorem zS_may : mayZ zS = true := by decide +kernel
theorem zS_at1 : atZ zS 10000799 = 3600 := by decide +kernel
theorem zS_at2 : atZ zS 10000800 = 7200 := by decide +kernel
theorem zS_mom1 : momZ zS 10005000 = [] := by decide +kernel
theorem zS_mom2 : momZ zS 20005000 = [19997800, 20001400] := by decide +kernel
theorem zS_begin : beginZ zS 10005000 = some 10000800 := by unfold beginZ; rw [zS_mom1]; decide +kernel
def tyS : List UInt8 := [42, 32, 42, 32, 42, 32, 42, 32, 42]
def xS : Ex := (cronK tyS).1
theorem xS_eq : cronK tyS = (xS, 0) := by decide +kernel
theorem xS_ok : xS.ok ∧ mayX xS = true := ⟨⟨by decide, by decide, by decide, by decide, by decide⟩, by decide +kernel⟩
theorem zS_at (t : Int) : atZ zS t = 3600 ∨ atZ zS t = 7200 := by
  have := atL_mem zS.l zS.first t
  simp only [zS, List.map_cons, List.map_nil, List.mem_cons, List.not_mem_nil, or_false] at this
  unfold atZ
  simp only [zS]
  omega
theorem zS_aft : IsAft zS xS 0 59 (some 60) := by
  refine ⟨3660, by omega, by omega, by decide +kernel, ?_, by omega, fun k _ hk hf b hb => ?_⟩
  · have h1 : momZ zS ((3660 : Nat) : Int) = [60] := by decide +kernel
    unfold beginZ
    rw [h1]
  · obtain ⟨h1, h2, h3, h4⟩ := begin_some zS_may hb
    have h60 := (fire_eq xS (by omega)).1 hf |>.1
    have a1 := zS_at b
    have a2 := zS_at (b - 1)
    unfold gZ at h3 h4
    rcases h4 with h4 | ⟨⟨o, ho⟩, h4⟩
    · omega
    · simp only [zS, List.mem_cons, Prod.mk.injEq, List.not_mem_nil, or_false] at ho
      omega
theorem c_someZ : AOk Tryz.prog 95 [] H (zAV zS .no) H := by
  refine ACalls.into Tryz.func95 rfl Tryz.ntmps95 Tryz.results95 (by simp) ?_
  simp -implicitDefEqProofs
  refine AAlloc.intro fun b1 h1 => ?_
  simp -implicitDefEqProofs
  exact ⟨⟨rfl, wkL_refl _⟩, HWk.new h1 (HWk.refl _)⟩
theorem c_clockZ {t : Nat} (ht : t < 13569465600) : AOk Tryz.prog 96 [.sc (.int .i64 t)] H (cAV (clk t)) H := by
  refine ACalls.into Tryz.func96 rfl Tryz.ntmps96 Tryz.results96 (by simp) ?_
  simp -implicitDefEqProofs
  refine AAlloc.intro fun b2 h2 => ?_
  simp -implicitDefEqProofs
  refine ACall.eq (c_ref5Split ht) ?_
  simp -implicitDefEqProofs
  refine AAlloc.intro fun b3 h3 => ?_
  have n23 : b2 ≠ b3 := by intro e; subst e; simp [Heap.set] at h3
  have n32 := n23.symm
  have e3 : H b3 = none := (HLe.set_fresh h2).none h3
  simp -implicitDefEqProofs [n23, n32]
  repeat (first | exact HWk.refl _ | refine HWk.new (by assumption) ?_)
theorem c_eq64 (L M : List Int) (t u : Rg.Tok) (hL : L.length ≤ 1000000) (hM : M.length ≤ 1000000) : AOk Tryz.prog 42 [.sl (L.map i64) t, .sl (M.map i64) u] H (.sc (.bool (decide (L = M)))) H := by
  refine ACalls.into Tryz.func42 rfl Tryz.ntmps42 Tryz.results42 (by simp) ?_
  by_cases hl : L.length = M.length
  · simp -implicitDefEqProofs [hl]
    generalize hr : decide (L = M) = r
    refine AGo.rounds (fun μ ρ K => ∃ (i : Nat), μ = L.length - i ∧ i ≤ L.length ∧ (L.drop i = M.drop i ↔ L = M) ∧ ρ 0 = .sl (L.map i64) t ∧ ρ 1 = .sl (M.map i64) u ∧ ρ 12 = .sc (.int .i64 (L.length : Int)) ∧ ρ 13 = .sc (.int .i64 (i : Int)) ∧ K = H) ?_ (m := L.length) (HLe.refl _)
      ⟨0, by omega, by omega, by simp, by simp, by simp, by simp [hl], by simp, rfl⟩
    rintro μ ρ K ih ⟨i, rfl, hi, he, r0, r1, r12, r13, rfl⟩
    rcases Nat.lt_or_ge i L.length with hlt | hge
    · obtain ⟨x, hx, _⟩ := getAt hlt
      have hlt2 : i < M.length := by omega
      obtain ⟨y, hy, _⟩ := getAt hlt2
      have hw1 : IntKind.i64.wrap ((i : Int) + 1) = (i : Int) + 1 := wrap_i64 (by omega) (by omega)
      rw [List.drop_eq_getElem_cons hlt, List.drop_eq_getElem_cons hlt2, hx, hy] at he
      simp -implicitDefEqProofs [r0, r1, r12, r13, hlt]
      refine go_draw 9 f_mixed (by decide +kernel) ?_
      simp -implicitDefEqProofs [r0, r1, r12, r13, hlt, hlt2, hx, hy, i64]
      by_cases hxy : x = y
      · simp -implicitDefEqProofs [hxy, r13, hw1]
        refine AGo.again ih (m' := L.length - (i + 1)) (by omega) (HLe.refl _) ⟨i + 1, rfl, by omega, ?_, by simp [r0], by simp [r1], by simp [r12], by simp, rfl⟩
        rw [← he, hxy]
        simp
      · obtain rfl : r = false := by
          rw [← hr, decide_eq_false_iff_not, ← he]
          intro h
          injection h with h1 h2
          exact hxy h1
        simp -implicitDefEqProofs [hxy]
    · have hn : ¬ i < L.length := by omega
      rw [List.drop_of_length_le hge, List.drop_of_length_le (by omega)] at he
      obtain rfl : r = true := by rw [← hr, decide_eq_true_iff]; exact he.1 rfl
      simp -implicitDefEqProofs [r12, r13, hn]
  · have : ¬ L = M := fun h => hl (by rw [h])
    have hl' : ¬ (L.length : Int) = (M.length : Int) := by omega
    simp -implicitDefEqProofs [hl, hl', this]
theorem zS_text : textZ zS = [43, 48, 49, 48, 48, 32, 49, 48, 48, 48, 48, 56, 48, 48, 43, 48, 50, 48, 48, 32, 50, 48, 48, 48, 48, 56, 56, 48, 43, 48, 49, 48, 48] := by
  have e : ∀ u, Lib.decDigits u = if u < 10 then [UInt8.ofNat (48 + u)] else Lib.decDigits (u / 10) ++ [UInt8.ofNat (48 + u % 10)] := fun u => by
    rw [Lib.decDigits]; split <;> rfl
  have e1 : Lib.itoa 10000800 = [49, 48, 48, 48, 48, 56, 48, 48] := by
    rw [itoa_nat (by omega)]
    simp [e]
  have e2 : Lib.itoa 20000880 = [50, 48, 48, 48, 48, 56, 56, 48] := by
    rw [itoa_nat (by omega)]
    simp [e]
  have w1 : wrZ 3600 = [43, 48, 49, 48, 48] := by decide +kernel
  have w2 : wrZ 7200 = [43, 48, 50, 48, 48] := by decide +kernel
  unfold textZ
  rw [if_pos zS_may]
  unfold wordsZ
  simp only [zS, List.map_cons, List.map_nil, partZ, e1, e2, w1, w2]
  decide +kernel
end Go.Proofs.YtmoncokklkiikaaGreatDoor
namespace Go.Proofs.YtmoncokklkiikaaGreatDoor
open Rg Go
variable {H : Heap}
theorem clkS (t : Nat) (ht : t < 13569465600) : momI (clk t) = (t : Int) ∧ mayC (clk t) = true := ⟨momI_clk ht, mayC_clk ht⟩
theorem zS_m1 : momentsZ zS (clk 10005000) = [] ∧ argE zS (clk 10005000) = 0 := by
  obtain ⟨h1, h2⟩ := clkS 10005000 (by decide)
  unfold momentsZ argE
  rw [if_pos ⟨zS_may, h2⟩, if_pos ⟨zS_may, h2⟩, h1]
  exact ⟨zS_mom1, rfl⟩
theorem zS_m2 : momentsZ zS (clk 20005000) = [19997800, 20001400] ∧ argE zS (clk 20005000) = 0 := by
  obtain ⟨h1, h2⟩ := clkS 20005000 (by decide)
  unfold momentsZ argE
  rw [if_pos ⟨zS_may, h2⟩, if_pos ⟨zS_may, h2⟩, h1]
  exact ⟨zS_mom2, rfl⟩
theorem zS_b1 : beginC zS (clk 10005000) = some 10000800 ∧ beginE zS (clk 10005000) = 0 := by
  obtain ⟨h1, h2⟩ := clkS 10005000 (by decide)
  unfold beginC beginE
  rw [if_pos ⟨zS_may, h2⟩, if_pos ⟨zS_may, h2⟩, h1]
  exact ⟨zS_begin, by rw [show beginZ zS ((10005000 : Nat) : Int) = some 10000800 from zS_begin]; rfl⟩
theorem zS_o1 : offsetZ zS 10000799 = 3600 := by unfold offsetZ; rw [if_pos zS_may]; exact zS_at1
theorem zS_o2 : offsetZ zS 10000800 = 7200 := by unfold offsetZ; rw [if_pos zS_may]; exact zS_at2
set_option maxHeartbeats 4000000 in
theorem c_known36 (hG : GlobZ H) : AOk Tryz.prog 25 [] H (.sc (.bool true)) H := by
  have m1 := fun K => c_zMomentsC (H := K) zS .no (clk 10005000)
  have m2 := fun K => c_zMomentsC (H := K) zS .no (clk 20005000)
  have b1 := fun K => c_zBeginC (H := K) zS .no (clk 10005000)
  have q1 := fun K => c_clockZ (H := K) (t := 10005000) (by decide)
  have q2 := fun K => c_clockZ (H := K) (t := 20005000) (by decide)
  have px := fun K => c_ref7Parse (H := K) tyS (by decide)
  have af := fun K (hG : GlobZ K) => c_zAfter hG.tab zS .no xS_ok.1 (m := 59) zS_may xS_ok.2 (by decide) zS_aft
  have my := fun K => c_zMay (H := K) zS .no
  have o1 := fun K => c_zOffsetAt (H := K) zS .no 10000799
  have o2 := fun K => c_zOffsetAt (H := K) zS .no 10000800
  have tx := fun K (hG : GlobZ K) => c_zText hG zS .no
  have eq := fun K => c_eq64 (H := K) [19997800, 20001400] [19997800, 20001400] .no .full (by decide) (by decide)
  have sm := c_someZ (H := H)
  rw [zS_m1.1, zS_m1.2] at m1
  rw [zS_m2.1, zS_m2.2] at m2
  rw [zS_b1.1, zS_b1.2] at b1
  rw [xS_eq] at px
  rw [zS_may] at my
  rw [zS_o1] at o1
  rw [zS_o2] at o2
  rw [zS_text] at tx
  generalize clk 10005000 = k1 at *
  generalize clk 20005000 = k2 at *
  generalize zS = z at *
  generalize xS = x at *
  refine ACalls.into Tryz.func25 rfl Tryz.ntmps25 Tryz.results25 (by simp) ?_
  simp -implicitDefEqProofs
  refine ACall.eq sm ?_
  simp -implicitDefEqProofs
  refine AAlloc.intro fun c1 h1 => ?_
  simp -implicitDefEqProofs
  generalize hK : Heap.set _ c1 _ = K1
  have g1 : K1 c1 = some (.cells (zC z .no) 55) := by rw [← hK]; simp [Heap.set]
  have kG : GlobZ K1 := by rw [← hK]; exact hG.new h1
  have kW : HWk H K1 := by rw [← hK]; exact HWk.new h1 (HWk.refl _)
  clear hK
  refine go_draw 8 f_mixed (by decide +kernel) ?_
  simp -implicitDefEqProofs [g1]
  refine AQS.eq (q1 _) ?_
  simp -implicitDefEqProofs
  refine AQS.eq (m1 _) ?_
  simp -implicitDefEqProofs
  refine go_draw 8 f_mixed (by decide +kernel) ?_
  simp -implicitDefEqProofs [g1]
  refine AQS.eq (q1 _) ?_
  simp -implicitDefEqProofs
  refine AQS.eq (b1 _) ?_
  simp -implicitDefEqProofs [optI]
  refine go_draw 8 f_mixed (by decide +kernel) ?_
  simp -implicitDefEqProofs [g1]
  refine AQS.eq (q2 _) ?_
  simp -implicitDefEqProofs
  refine AQS.eq (m2 _) ?_
  simp -implicitDefEqProofs
  refine ACall.eq (px _) ?_
  simp -implicitDefEqProofs
  refine AAlloc.intro fun c8 h8 => ?_
  have n18 : c1 ≠ c8 := by intro e; subst e; rw [g1] at h8; cases h8
  simp -implicitDefEqProofs [n18, g1]
  generalize hK : Heap.set K1 c8 _ = K2
  have g2 : K2 c1 = some (.cells (zC z .no) 55) := by rw [← hK]; simp [Heap.set, n18, g1]
  have kG2 : GlobZ K2 := by rw [← hK]; exact kG.new h8
  have kW2 : HWk H K2 := by rw [← hK]; exact HWk.new (kW.none h8) kW
  clear hK
  refine ACall.eq (af _ kG2) ?_
  simp -implicitDefEqProofs [g2, optI, errI]
  refine ACall.eq (my _) ?_
  simp -implicitDefEqProofs [g2]
  refine ACall.eq (o1 _) ?_
  simp -implicitDefEqProofs [g2]
  refine ACall.eq (o2 _) ?_
  simp -implicitDefEqProofs [g2]
  refine ACall.eq (tx _ kG2) ?_
  simp -implicitDefEqProofs [i64]
  refine ACall.eq (eq _) ?_
  simp -implicitDefEqProofs
  exact kW2
end Go.Proofs.YtmoncokklkiikaaGreatDoor
namespace Go.Proofs.YtmoncokklkiikaaGreatDoor
open Rg Go
variable {H : Heap}
theorem c_heavyZ (z : Zn) (t : Rg.Tok) : AOk Tryz.prog 26 [zAV z t] H (.sc (.bool (decide (100 < z.l.length)))) H := by
  refine ACalls.into Tryz.func26 rfl Tryz.ntmps26 Tryz.results26 (by simp) ?_
  simp -implicitDefEqProofs
  refine AAlloc.intro fun b1 h1 => ?_
  have e : ((100 : Int) < (z.l.length : Int)) ↔ 100 < z.l.length := by omega
  simp -implicitDefEqProofs [e]
  exact HWk.new h1 (HWk.refl _)
end Go.Proofs.YtmoncokklkiikaaGreatDoor
namespace Go.Proofs.YtmoncokklkiikaaGreatDoor
open Rg Go
variable {H : Heap}
@[simp] theorem aconv_slT {P : Program} {s d : TypeId} {xs : List AV} {t : Rg.Tok} : aconv P s d (.sl xs t) = if tkd P d = 3 then (match telem P s, abytes xs with
        | some e, some bs => if tint P e = some .u8 then .val (.sc (.string ⟨bs.toArray⟩)) else .stuck
        | _, _ => .stuck) else .stuck := rfl
@[simp] theorem abytes_nilT : abytes [] = some [] := rfl
@[simp] theorem abytes_consT {n : Int} {r : List AV} : abytes (.sc (.int .u8 n) :: r) = if 0 ≤ n ∧ n < 256 then (abytes r).map (UInt8.ofNat n.toNat :: ·) else none := rfl
theorem wrap_u8N {b : Nat} (h : b < 256) : IntKind.u8.wrap (b : Int) = (b : Int) := by
  unfold IntKind.wrap
  simp [IntKind.bits, IntKind.signed]
  omega
theorem dg8_of {n m : Nat} (h : 48 + n % 10 = m) : dg8 n = UInt8.ofNat m := by unfold dg8; rw [h]
theorem c_two {n : Nat} (hn : n < 100) : AOk Tryz.prog 165 [.sc (.int .i64 n)] H (str [dg8 (n / 10), dg8 n]) H := by
  obtain ⟨a, ha⟩ : ∃ x, n / 10 = x := ⟨_, rfl⟩
  obtain ⟨b, hb⟩ : ∃ x, 48 + a = x := ⟨_, rfl⟩
  obtain ⟨c, hc⟩ : ∃ x, n % 10 = x := ⟨_, rfl⟩
  obtain ⟨d, hd⟩ : ∃ x, 48 + c = x := ⟨_, rfl⟩
  have w1 : IntKind.i64.wrap ((n : Int) / 10) = (a : Int) := wdiv (b := 10) ha (by omega)
  have w2 : IntKind.i64.wrap (48 + (a : Int)) = (b : Int) := wadd (a := 48) hb (by omega)
  have w3 : (n : Int).tmod 10 = (c : Int) := wmod (b := 10) hc
  have w4 : IntKind.i64.wrap (48 + (c : Int)) = (d : Int) := wadd (a := 48) hd (by omega)
  have w5 := wrap_u8N (b := b) (by omega)
  have w6 := wrap_u8N (b := d) (by omega)
  have l1 : (b : Int) < 256 := by omega
  have l2 : (d : Int) < 256 := by omega
  rw [ha, dg8_of (n := a) (m := b) (by omega), dg8_of (n := n) (m := d) (by omega)]
  refine ACalls.into Tryz.func165 rfl Tryz.ntmps165 Tryz.results165 (by simp) ?_
  simp -implicitDefEqProofs [w1, w2, w3, w4, w5, w6, l1, l2]
theorem c_digitsZ : ∀ {n : Nat}, n < 13569465600 → AOk Tryz.prog 119 [.sc (.int .i64 n)] H (str (Lib.decDigits n)) H := by
  intro n
  induction n using Nat.strongRecOn with
  | ind n ih =>
    intro hn
    obtain ⟨a, ha⟩ : ∃ x, n / 10 = x := ⟨_, rfl⟩
    obtain ⟨c, hc⟩ : ∃ x, n % 10 = x := ⟨_, rfl⟩
    obtain ⟨d, hd⟩ : ∃ x, 48 + c = x := ⟨_, rfl⟩
    have w1 : IntKind.i64.wrap ((n : Int) / 10) = (a : Int) := wdiv (b := 10) ha (by omega)
    have w3 : (n : Int).tmod 10 = (c : Int) := wmod (b := 10) hc
    have w4 : IntKind.i64.wrap (48 + (c : Int)) = (d : Int) := wadd (a := 48) hd (by omega)
    have w6 := wrap_u8N (b := d) (by omega)
    have l2 : (d : Int) < 256 := by omega
    rw [Lib.decDigits]
    by_cases h10 : n < 10
    · have h10' : (n : Int) < 10 := by omega
      have e : UInt8.ofNat (48 + n) = UInt8.ofNat d := by congr 1; omega
      rw [dif_pos h10, e]
      refine ACalls.into Tryz.func119 rfl Tryz.ntmps119 Tryz.results119 (by simp) ?_
      simp -implicitDefEqProofs [w3, w4, w6, l2, h10', h10]
    · have h10' : ¬ (n : Int) < 10 := by omega
      rw [dif_neg h10, ha, hc, hd]
      have hl := digits_le (n := a) (by omega)
      have hl' : (Lib.decDigits a).length + 1 ≤ 9223372036854775807 := by omega
      refine ACalls.into Tryz.func119 rfl Tryz.ntmps119 Tryz.results119 (by simp) ?_
      simp -implicitDefEqProofs [w1, w3, w4, w6, l2, h10', h10]
      refine ACall.eq (ih a (by omega) (by omega)) ?_
      simp -implicitDefEqProofs [hl']
theorem c_writtenR {n : Int} (ho : offOk n = true) : AOk Tryz.prog 118 [.sc (.int .i64 n)] H (str (wrZ n)) H := by
  have ho' := offOk_iff.1 ho
  obtain ⟨m, hm⟩ : ∃ m, n.natAbs = m := ⟨_, rfl⟩
  obtain ⟨a, ha⟩ : ∃ x, m / 3600 = x := ⟨_, rfl⟩
  obtain ⟨d, hd⟩ : ∃ x, m / 60 = x := ⟨_, rfl⟩
  obtain ⟨e, he⟩ : ∃ x, d % 60 = x := ⟨_, rfl⟩
  have w1 : IntKind.i64.wrap ((m : Int) / 3600) = (a : Int) := wdiv (b := 3600) ha (by omega)
  have w4 : IntKind.i64.wrap ((m : Int) / 60) = (d : Int) := wdiv (b := 60) hd (by omega)
  have w5 : (d : Int).tmod 60 = (e : Int) := wmod (b := 60) he
  have hf : four (hhmm m) = [dg8 (a / 10), dg8 a, dg8 (e / 10), dg8 e] := by
    have hk : hhmm m = a * 100 + e := by unfold hhmm; omega
    unfold four dg8
    rw [hk, show (a * 100 + e) / 1000 % 10 = a / 10 % 10 by omega, show (a * 100 + e) / 100 % 10 = a % 10 by omega, show (a * 100 + e) / 10 % 10 = e / 10 % 10 by omega, show (a * 100 + e) % 10 = e % 10 by omega]
  unfold wrZ
  rw [hm, hf]
  refine ACalls.into Tryz.func118 rfl Tryz.ntmps118 Tryz.results118 (by simp) ?_
  by_cases hn : n < 0
  · have w0 : IntKind.i64.wrap (-n) = (m : Int) := by rw [wrap_i64 (by omega) (by omega)]; omega
    simp -implicitDefEqProofs [hn, w0, w1]
    refine ACall.eq (c_two (n := a) (by omega)) ?_
    simp -implicitDefEqProofs [w0, w4, w5]
    refine ACall.eq (c_two (n := e) (by omega)) ?_
    simp -implicitDefEqProofs
  · obtain rfl : n = (m : Int) := by omega
    simp -implicitDefEqProofs [hn, w1]
    refine ACall.eq (c_two (n := a) (by omega)) ?_
    simp -implicitDefEqProofs [w4, w5]
    refine ACall.eq (c_two (n := e) (by omega)) ?_
    simp -implicitDefEqProofs
theorem join_flatZ (z : Zn) : Lib.join (wordsZ z) [32] = wrZ z.first ++ z.l.flatMap fun c => 32 :: partZ c := by
  unfold wordsZ
  rw [join_flat, List.flatMap_map]
set_option maxHeartbeats 2000000 in
theorem c_rText (z : Zn) (t : Rg.Tok) (hz : z.l.length ≤ 1000000) : AOk Tryz.prog 47 [zAV z t] H (str (textZ z)) H := by
  refine ACalls.into Tryz.func47 rfl Tryz.ntmps47 Tryz.results47 (by simp) ?_
  simp -implicitDefEqProofs
  refine AAlloc.intro fun b1 h1 => ?_
  simp -implicitDefEqProofs
  generalize hK : Heap.set _ b1 _ = K
  have k1 : K b1 = some (.cells (zC z t) 61) := by rw [← hK]; simp [Heap.set]
  have kW : HWk H K := by rw [← hK]; exact HWk.new h1 (HWk.refl _)
  clear hK
  refine ACall.eq (c_rMay z t hz) ?_
  cases hm : mayZ z with
  | false =>
    have e : textZ z = [] := by unfold textZ; rw [hm]; rfl
    rw [e]
    simp -implicitDefEqProofs
    exact kW
  | true =>
    obtain ⟨p1, p2, p3⟩ := may_parts hm
    have hin := mayL_in p3
    have e : textZ z = wrZ z.first ++ z.l.flatMap fun c => 32 :: partZ c := by unfold textZ; rw [if_pos hm, join_flatZ]
    have hlen := text_len z
    rw [e] at hlen ⊢
    have part : ∀ i : Nat, (wrZ z.first ++ (z.l.take i).flatMap fun c => 32 :: partZ c).length ≤ 1105 := fun i => by
      have : z.l.flatMap (fun c => 32 :: partZ c) = (z.l.take i).flatMap (fun c => 32 :: partZ c) ++ (z.l.drop i).flatMap (fun c => 32 :: partZ c) := by rw [← List.flatMap_append, List.take_append_drop]
      rw [this] at hlen
      simp only [List.length_append] at hlen ⊢
      omega
    simp -implicitDefEqProofs [k1]
    refine ACall.eq (c_writtenR p1) ?_
    simp -implicitDefEqProofs
    refine AGo.rounds (fun μ ρ K2 => ∃ i : Nat, μ = z.l.length - i ∧ i ≤ z.l.length ∧ ρ 1 = .sc (.pointer (some ⟨b1, 0, none⟩)) ∧ ρ 3 = str (wrZ z.first ++ (z.l.take i).flatMap fun c => 32 :: partZ c) ∧ ρ 4 = .sc (.int .i64 (i : Int)) ∧ K2 = K) ?_ (m := z.l.length) (HLe.refl _)
      ⟨0, by omega, by omega, by simp, by simp, by simp, rfl⟩
    rintro μ ρ K2 ih ⟨i, rfl, hi, r1, r3, r4, rfl⟩
    rcases Nat.lt_or_ge i z.l.length with hlt | hge
    · obtain ⟨c, hc, _⟩ := getAt hlt
      have hcz := hin c (by rw [← hc]; exact List.getElem_mem _)
      have hw1 : IntKind.i64.wrap ((i : Int) + 1) = ((i + 1 : Nat) : Int) := wadd (b := 1) rfl (by omega)
      have hd : (wrZ z.first ++ (z.l.take (i + 1)).flatMap fun c => 32 :: partZ c) = (wrZ z.first ++ (z.l.take i).flatMap fun c => 32 :: partZ c) ++ 32 :: (Lib.decDigits c.1.toNat ++ wrZ c.2) := by
        rw [List.take_succ_eq_append_getElem hlt, hc, List.flatMap_append, List.append_assoc]
        simp [partZ, itoa_nat hcz.2.1]
      have hpl := part (i + 1)
      rw [hd] at hpl
      generalize (wrZ z.first ++ (z.l.take i).flatMap fun c => 32 :: partZ c) = xs at *
      simp only [List.length_append, List.length_cons] at hpl
      obtain ⟨n, hn⟩ := Int.eq_ofNat_of_zero_le hcz.2.1
      have hdig := fun K : Heap => c_digitsZ (H := K) (n := n) (by omega)
      rw [hn, Int.toNat_natCast] at hpl hd
      have l1 : xs.length + 1 ≤ 9223372036854775807 := by omega
      have l2 : xs.length + 1 + (Lib.decDigits n).length ≤ 9223372036854775807 := by omega
      have l3 : xs.length + ((Lib.decDigits n).length + 1) + (wrZ c.2).length ≤ 9223372036854775807 := by omega
      simp -implicitDefEqProofs [r1, r3, r4, k1, hlt]
      refine go_draw 19 f_mixed (by decide +kernel) ?_
      simp -implicitDefEqProofs [r1, r3, r4, k1, hlt, hc, l1, hn]
      refine AQS.eq (hdig _) ?_
      simp -implicitDefEqProofs [r1, r4, k1, hlt, hc, l1, l2]
      refine AQS.eq (c_writtenR hcz.1) ?_
      simp -implicitDefEqProofs [r4, hw1, l1, l2, l3]
      refine AGo.again ih (m' := z.l.length - (i + 1)) (by omega) (HLe.refl _) ⟨i + 1, rfl, by omega, by simp [r1], by simp [hd], by simp, rfl⟩
    · have hn : ¬ i < z.l.length := by omega
      rw [List.take_of_length_le hge] at r3
      simp -implicitDefEqProofs [r1, r3, r4, k1, hn]
      exact kW
end Go.Proofs.YtmoncokklkiikaaGreatDoor
namespace Go.Proofs.YtmoncokklkiikaaGreatDoor
open Rg Go
variable {H : Heap}
def accR (cs : Nat → UInt8) : Nat → Nat
  | 0 => 0
  | i + 1 => 10 * accR cs i + dv (cs i)
theorem isDg_iff {c : UInt8} : isDg c = true ↔ 48 ≤ c.toNat ∧ c.toNat ≤ 57 := by simp [isDg]
def allG (cs : Nat → UInt8) : Nat → Bool
  | 0 => true
  | i + 1 => allG cs i && isDg (cs i)
theorem allG_no {cs : Nat → UInt8} {i : Nat} (h : isDg (cs i) = false) : ∀ n, i < n → allG cs n = false
  | 0, hn => by omega
  | n + 1, hn => by
    unfold allG
    by_cases e : i = n
    · subst e; rw [h, Bool.and_false]
    · rw [allG_no h n (by omega), Bool.false_and]
theorem accR_lt {cs : Nat → UInt8} : ∀ {i : Nat}, allG cs i = true → accR cs i < 10 ^ i
  | 0, _ => by simp [accR]
  | i + 1, h => by
    unfold allG at h
    rw [Bool.and_eq_true] at h
    have h1 := accR_lt (i := i) h.1
    have h2 := isDg_iff.1 h.2
    unfold accR dv
    rw [Nat.pow_succ]
    omega
theorem offR_five {r : List UInt8} {c0 : UInt8} {cs : Nat → UInt8} (h0 : r[0]? = some c0) (h : ∀ i, i < 4 → r[i + 1]? = some (cs i)) :
    offR r = if (c0 = 43 ∨ c0 = 45) ∧ allG cs 4 = true then (offV (decide (c0 = 45)) (accR cs 4), true) else (0, false) := by
  match r, h0, h with
  | [], h0, _ => simp at h0
  | [_], _, h => have := h 0 (by omega); simp at this
  | [_, _], _, h => have := h 1 (by omega); simp at this
  | [_, _, _], _, h => have := h 2 (by omega); simp at this
  | [_, _, _, _], _, h => have := h 3 (by omega); simp at this
  | a :: b :: c :: d :: e :: r, h0, h =>
    have e0 : a = c0 := by simpa using h0
    have e1 : b = cs 0 := by simpa using h 0 (by omega)
    have e2 : c = cs 1 := by simpa using h 1 (by omega)
    have e3 : d = cs 2 := by simpa using h 2 (by omega)
    have e4 : e = cs 3 := by simpa using h 3 (by omega)
    subst e0 e1 e2 e3 e4
    unfold offR
    have e5 : accR cs 4 = ((dv (cs 0) * 10 + dv (cs 1)) * 10 + dv (cs 2)) * 10 + dv (cs 3) := by simp only [accR]; omega
    have e6 : (allG cs 4 = true) ↔ isDg (cs 0) = true ∧ isDg (cs 1) = true ∧ isDg (cs 2) = true ∧ isDg (cs 3) = true := by simp [allG, and_assoc]
    simp only [e5, e6]
theorem offR_short {r : List UInt8} (h : r.length < 5) : offR r = (0, false) := by
  match r, h with
  | [], _ => rfl
  | [_], _ => rfl
  | [_, _], _ => rfl
  | [_, _, _], _ => rfl
  | [_, _, _, _], _ => rfl
  | _ :: _ :: _ :: _ :: _ :: _, h => simp at h; omega
set_option maxHeartbeats 4000000 in
theorem c_off (s : List UInt8) {p : Nat} (hs : s.length ≤ 1000000) (hp : p ≤ 2000000) : AOk Tryz.prog 123 [str s, .sc (.int .i64 (p : Int))] H (.tup [.sc (.int .i64 (offR (s.drop p)).1), .sc (.bool (offR (s.drop p)).2)]) H := by
  have hw5 : IntKind.i64.wrap ((p : Int) + 5) = ((p + 5 : Nat) : Int) := wadd (b := 5) rfl (by omega)
  refine ACalls.into Tryz.func123 rfl Tryz.ntmps123 Tryz.results123 (by simp) ?_
  by_cases hl : s.length < p + 5
  · rw [offR_short (by rw [List.length_drop]; omega)]
    have hl' : (s.length : Int) < (p : Int) + 5 := by omega
    simp -implicitDefEqProofs [hw5, hl, hl']
  · have hl' : ¬ (s.length : Int) < (p : Int) + 5 := by omega
    have hpl : p < s.length := by omega
    obtain ⟨c0, hc0, hc0'⟩ := getAt hpl
    obtain ⟨cs, hcs⟩ : ∃ cs : Nat → UInt8, cs = fun i => s.getD (p + 1 + i) 0 := ⟨_, rfl⟩
    have hat : ∀ i, i < 4 → s[p + 1 + i]? = some (cs i) := fun i hi => by
      rw [hcs]
      simp only
      rw [List.getD_eq_getElem?_getD, List.getElem?_eq_getElem (by omega)]
      rfl
    have hof := offR_five (r := s.drop p) (c0 := c0) (cs := cs) (by rw [List.getElem?_drop]; exact hc0') (fun i hi => by rw [List.getElem?_drop, ← hat i hi]; congr 1; omega)
    clear hcs
    rw [hof]
    obtain ⟨r, hr⟩ : ∃ r, (if (c0 = 43 ∨ c0 = 45) ∧ allG cs 4 = true then (offV (decide (c0 = 45)) (accR cs 4), true) else (0, false)) = r := ⟨_, rfl⟩
    rw [hr]
    have n43 : c0 = 43 ↔ c0.toNat = 43 := ⟨fun h => by rw [h]; rfl, fun h => UInt8.toNat_inj.1 h⟩
    have n45 : c0 = 45 ↔ c0.toNat = 45 := ⟨fun h => by rw [h]; rfl, fun h => UInt8.toNat_inj.1 h⟩
    by_cases s43 : c0 = 43 ∨ c0 = 45
    · have two : (c0.toNat = 43 ∧ ¬ c0.toNat = 45 ∧ decide (c0 = 45) = false) ∨ (¬ c0.toNat = 43 ∧ c0.toNat = 45 ∧ decide (c0 = 45) = true) := by
        rcases s43 with rfl | rfl
        · exact .inl ⟨rfl, by decide, by decide⟩
        · exact .inr ⟨by decide, rfl, by decide⟩
      rcases two with ⟨h1, h2, h3⟩ | ⟨h1, h2, h3⟩
      case' inl =>
        have h1' : (c0.toNat : Int) = 43 := by omega
        have h2' : ¬ (c0.toNat : Int) = 45 := by omega
        simp -implicitDefEqProofs [hw5, hl, hl', hpl, hc0, h1, h1']
      case' inr =>
        have h1' : ¬ (c0.toNat : Int) = 43 := by omega
        have h2' : (c0.toNat : Int) = 45 := by omega
        simp -implicitDefEqProofs [hw5, hl, hl', hpl, hc0, h1, h1', h2, h2']
      all_goals
        refine AGo.rounds (fun μ ρ K => ∃ i : Nat, μ = 4 - i ∧ i ≤ 4 ∧ allG cs i = true ∧ ρ 0 = str s ∧ ρ 1 = .sc (.int .i64 (p : Int)) ∧ ρ 6 = .sc (.int .i64 ((accR cs i : Nat) : Int)) ∧ ρ 7 = .sc (.int .i64 ((i + 1 : Nat) : Int)) ∧ K = H) ?_ (m := 4) (HLe.refl _)
          ⟨0, rfl, by omega, rfl, by simp, by simp, by simp [accR], by simp, rfl⟩
        rintro μ ρ K ih ⟨i, rfl, hi, hall, r0, r1, r6, r7, rfl⟩
        obtain ⟨j, hj⟩ : ∃ j, i + 1 = j := ⟨_, rfl⟩
        rw [hj] at r7
        have hA := accR_lt hall
        have hA4 : accR cs i < 10000 := by
          have : 10 ^ i ≤ 10 ^ 4 := Nat.pow_le_pow_right (by decide) hi
          omega
        obtain ⟨A, hAe⟩ : ∃ A, accR cs i = A := ⟨_, rfl⟩
        rw [hAe] at r6 hA4
        by_cases hi4 : i < 4
        · obtain ⟨P, hP⟩ : ∃ P, p + 1 + i = P := ⟨_, rfl⟩
          have hPl : P < s.length := by omega
          have hPc := hat i hi4
          rw [hP] at hPc
          obtain ⟨c, hcc⟩ : ∃ c, cs i = c := ⟨_, rfl⟩
          rw [hcc] at hPc
          have hPc' : s[P] = c := by rw [List.getElem?_eq_getElem hPl] at hPc; exact Option.some.inj hPc
          have hj5 : j < 5 := by omega
          have hj5' : (j : Int) < 5 := by omega
          have hwP : IntKind.i64.wrap ((p : Int) + (j : Int)) = (P : Int) := wadd (by omega) (by omega)
          have hwj : IntKind.i64.wrap ((j : Int) + 1) = ((i + 1 + 1 : Nat) : Int) := wadd (b := 1) (by omega) (by omega)
          cases hd : isDg c with
          | false =>
            obtain rfl : r = (0, false) := by rw [← hr, allG_no (i := i) (by rw [hcc]; exact hd) 4 hi4, if_neg (by simp)]
            have hno : ¬ (48 ≤ c.toNat ∧ c.toNat ≤ 57) := fun h => by rw [isDg_iff.2 h] at hd; cases hd
            by_cases h48 : c.toNat < 48
            · have h48' : (c.toNat : Int) < 48 := by omega
              simp -implicitDefEqProofs [r0, r1, r7, hj5, hj5', hwP, hPl, hPc', h48, h48']
            · have h48' : ¬ (c.toNat : Int) < 48 := by omega
              have h57 : 57 < c.toNat := by omega
              have h57' : (57 : Int) < (c.toNat : Int) := by omega
              simp -implicitDefEqProofs [r0, r1, r7, hj5, hj5', hwP, hPl, hPc', h48, h48', h57, h57']
          | true =>
            have hdd := isDg_iff.1 hd
            have h48 : ¬ c.toNat < 48 := by omega
            have h57 : ¬ 57 < c.toNat := by omega
            have h48' : ¬ (c.toNat : Int) < 48 := by omega
            have h57' : ¬ (57 : Int) < (c.toNat : Int) := by omega
            obtain ⟨m, hm⟩ : ∃ m, c.toNat = m := ⟨_, rfl⟩
            obtain ⟨A1, hA1⟩ : ∃ x, 10 * A = x := ⟨_, rfl⟩
            obtain ⟨A2, hA2⟩ : ∃ x, A1 + m = x := ⟨_, rfl⟩
            obtain ⟨A3, hA3⟩ : ∃ x, A2 - 48 = x := ⟨_, rfl⟩
            have w1 : IntKind.i64.wrap (10 * (A : Int)) = (A1 : Int) := wmul (a := 10) hA1 (by omega)
            have w2 : IntKind.i64.wrap ((A1 : Int) + (m : Int)) = (A2 : Int) := wadd hA2 (by omega)
            have w3 : IntKind.i64.wrap ((A2 : Int) - 48) = (A3 : Int) := wsub (b := 48) hA3 (by omega) (by omega)
            have w4 : IntKind.i64.wrap (m : Int) = (m : Int) := wrap_i64 (by omega) (by omega)
            rw [hm] at h48 h57 h48' h57'
            simp -implicitDefEqProofs [r0, r1, r6, r7, hj5, hj5', hwP, hPl, hPc', hm, h48, h48', h57, h57', w1, w2, w3, w4, hwj]
            have hacc : accR cs (i + 1) = A3 := by unfold accR dv; rw [hAe, hcc, hm]; omega
            exact AGo.again ih (m' := 4 - (i + 1)) (by omega) (HLe.refl _) ⟨i + 1, rfl, by omega, by unfold allG; rw [hall, hcc, hd]; rfl, by simp [r0], by simp [r1], by simp [hacc], by simp, rfl⟩
        · obtain rfl : i = 4 := by omega
          have hj5 : ¬ j < 5 := by omega
          have hj5' : ¬ (j : Int) < 5 := by omega
          rw [hall] at hr
          obtain rfl : r = (offV (decide (c0 = 45)) A, true) := by rw [← hr, if_pos ⟨s43, rfl⟩, hAe]
          obtain ⟨a, ha⟩ : ∃ x, A / 100 = x := ⟨_, rfl⟩
          obtain ⟨b, hb⟩ : ∃ x, a * 3600 = x := ⟨_, rfl⟩
          obtain ⟨e, he⟩ : ∃ x, A % 100 = x := ⟨_, rfl⟩
          obtain ⟨f, hf⟩ : ∃ x, e * 60 = x := ⟨_, rfl⟩
          obtain ⟨g, hg⟩ : ∃ x, b + f = x := ⟨_, rfl⟩
          have w1 : IntKind.i64.wrap ((A : Int) / 100) = (a : Int) := wdiv (b := 100) ha (by omega)
          have w2 : IntKind.i64.wrap ((a : Int) * 3600) = (b : Int) := wmul (b := 3600) hb (by omega)
          have w3 : (A : Int).tmod 100 = (e : Int) := wmod (b := 100) he
          have w4 : IntKind.i64.wrap ((e : Int) * 60) = (f : Int) := wmul (b := 60) hf (by omega)
          have w5 : IntKind.i64.wrap ((b : Int) + (f : Int)) = (g : Int) := wadd hg (by omega)
          have w6 : IntKind.i64.wrap (-(g : Int)) = -(g : Int) := wrap_i64 (by omega) (by omega)
          have hov : ∀ t, offV t A = if t = true then -(g : Int) else (g : Int) := fun t => by unfold offV; rw [ha, hb, he, hf, hg]
          rw [hov, h3]
          simp -implicitDefEqProofs [r0, r1, r6, r7, hj5, hj5', w1, w2, w3, w4, w5, w6, hpl, hc0, h2, h2']
    · obtain rfl : r = (0, false) := by rw [← hr, if_neg fun h => s43 h.1]
      rw [n43, n45, not_or] at s43
      have h1' : ¬ (c0.toNat : Int) = 43 := by omega
      have h2' : ¬ (c0.toNat : Int) = 45 := by omega
      simp -implicitDefEqProofs [hw5, hl, hl', hpl, hc0, s43.1, s43.2, h1', h2']
end Go.Proofs.YtmoncokklkiikaaGreatDoor
