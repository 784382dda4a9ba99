/- Zones in the document's type: which may be, offsets, moments. Zones, as the document has them. Zones, as the document has them: offsets at moments, moments of a clock, when it begins. The chapter's rows on zones. The chapter's rows on zones, all of them. ZoneTells. What a law's row lists of package variables, as the start heap of its run; a world that meets it. -/
import Derived.Test.YtmoncokklkiikaaGreatDoorP19
import Derived.Test.YtmoncokklkiikaaGreatDoorP17
import Derived.Test.YtmoncokklkiikaaGreatDoorP13
import Derived.Test.YtmoncokklkiikaaGreatDoorP08
import Derived.Lib.LaidU8
set_option linter.unusedSimpArgs false
set_option linter.unusedVariables false
set_option linter.unnecessarySimpa false
namespace Go.Proofs.YtmoncokklkiikaaGreatDoor
open Rg Go
variable {H : Heap}
structure RowZ (sz : Nat) (e T : TypeId) (H0 : Heap) (c n : Nat) (F : Rg.Tok → List AV) (K : Heap) : Prop where
  le : HLe H0 K
  no : H0 c = none
  row : ∃ t, K c = some (.cells (F t) T) ∧ ((t = .nil ∧ n = 0) ∨ ∃ g cap, g ≠ c ∧ H0 g = none ∧ t = .own g cap sz e ∧ K g = some (.open n cap sz e))
theorem RowZ.new {sz : Nat} {e T : TypeId} {H0 K : Heap} {c n p : Nat} {F : Rg.Tok → List AV} {o : AObj} (h : RowZ sz e T H0 c n F K) (hp : K p = none) : RowZ sz e T H0 c n F (K.set p o) := by
  obtain ⟨t, h1, h2⟩ := h.row
  have hpc : c ≠ p := by rintro rfl; rw [h1] at hp; cases hp
  refine ⟨h.le.trans (HLe.set_fresh hp), h.no, t, by simp [Heap.set, hpc, h1], h2.imp id ?_⟩
  rintro ⟨g, cap, g1, g2, g3, g4⟩
  have : g ≠ p := by rintro rfl; rw [hp] at g4; cases g4
  exact ⟨g, cap, g1, g2, g3, by simp [Heap.set, this, g4]⟩
theorem RowZ.grows {sz : Nat} {e T : TypeId} {H0 K : Heap} {c : Nat} {F : Rg.Tok → List AV} {xs : List AV} (h : RowZ sz e T H0 c xs.length F K) :
    ∃ t G0 G, K c = some (.cells (F t) T) ∧ Grows G0 xs sz e t G ∧ HLe G K ∧ HLe H0 G0 ∧ G0 c = some (.cells (F t) T) ∧ ∀ p cs T', K p = some (.cells cs T') → G0 p = some (.cells cs T') := by
  obtain ⟨t, h1, ⟨rfl, hn⟩ | ⟨g, cap, h2, h3, rfl, h4⟩⟩ := h.row
  · obtain rfl := List.length_eq_zero_iff.1 hn
    exact ⟨_, K, K, h1, .zero, HLe.refl _, h.le, h1, fun _ _ _ h => h⟩
  · refine ⟨_, K.del g, (K.del g).set g (.open xs.length cap sz e), h1, .inr ⟨g, cap, by simp [Heap.del], rfl, rfl⟩, fun b ob hb => ?_, HLe.del_new h.le h3, by simp [Heap.del, Ne.symm h2, h1], fun p cs T' hp => ?_⟩
    · by_cases hbg : b = g
      · subst hbg
        simp only [Heap.set, if_true] at hb
        rw [← hb]; exact h4
      · simpa [Heap.set, Heap.del, hbg] using hb
    · have : p ≠ g := by rintro rfl; rw [h4] at hp; cases hp
      simp [Heap.del, this, hp]
theorem RowZ.stored {sz : Nat} {e T : TypeId} {H0 G0 K' Hn : Heap} {c : Nat} {xs : List AV} {F : Rg.Tok → List AV} {t' : Rg.Tok} {o : AObj} (h1 : HLe H0 G0) (h2 : H0 c = none) (h3 : G0 c = some o) (h4 : Grows G0 xs sz e t' K') (h5 : HLe K' Hn) :
    RowZ sz e T H0 c xs.length F (Hn.set c (.cells (F t') T)) := by
  have hle := (h1.trans h4.le).trans h5
  refine ⟨HLe.set_new hle h2, h2, t', by simp [Heap.set], ?_⟩
  rcases h4 with ⟨rfl, rfl, rfl⟩ | ⟨g, cap, g1, rfl, rfl⟩
  · exact .inl ⟨rfl, rfl⟩
  · have hgc : g ≠ c := by rintro rfl; rw [h3] at g1; cases g1
    exact .inr ⟨g, cap, hgc, h1.none g1, rfl, by simp [Heap.set, hgc]; exact h5 g _ (by simp [Heap.set])⟩
set_option maxHeartbeats 2000000 in
theorem c_ofZ (z : Zn) (t : Rg.Tok) (hz : z.l.length ≤ 8796093022208) : AOk Tryz.prog 28 [zAV z t] H (zAV z .no) H := by
  refine ACalls.into Tryz.func28 rfl Tryz.ntmps28 Tryz.results28 (by simp) ?_
  simp -implicitDefEqProofs
  refine AAlloc.intro fun b1 h1 => ?_
  simp -implicitDefEqProofs
  refine AAlloc.intro fun b2 h2 => ?_
  have n12 : b1 ≠ b2 := by intro e; subst e; simp [Heap.set] at h2
  have e2 : H b2 = none := (HLe.set_fresh h1).none h2
  simp -implicitDefEqProofs [n12]
  generalize hK : Heap.set _ b2 _ = K1
  have k1 : K1 b1 = some (.cells (zC z t) 55) := by rw [← hK]; simp [Heap.set, n12]
  have kW : HWk H K1 := by rw [← hK]; exact HWk.new e2 (HWk.new h1 (HWk.refl _))
  have k2 : K1 b2 = some (.cells [.sc (.int .i64 0), .sl [] .nil] 61) := by rw [← hK]; simp [Heap.set]
  clear hK
  refine AAlloc.intro fun b3 h3 => ?_
  have n13 : b1 ≠ b3 := by intro e; subst e; rw [k1] at h3; cases h3
  have n23 : b2 ≠ b3 := by intro e; subst e; rw [k2] at h3; cases h3
  simp -implicitDefEqProofs [n13, k1]
  refine AGo.rounds (fun μ ρ K => ∃ (i : Nat), μ = z.l.length - i ∧ i ≤ z.l.length ∧ ρ 2 = .sc (.pointer (some ⟨b2, 0, none⟩)) ∧ ρ 3 = .sc (.pointer (some ⟨b3, 0, none⟩)) ∧ ρ 10 = .sl (z.l.map chAV) t ∧ ρ 11 = .sc (.int .i64 (z.l.length : Int)) ∧ ρ 12 = .sc (.int .i64 (i : Int)) ∧
    RowZ 2 159 61 K1 b3 i (fun t => [.sc (.int .i64 z.first), .sl ((z.l.map chAV).take i) t]) K) ?_ (m := z.l.length) (HLe.refl _)
    ⟨0, by omega, by omega, by simp, by simp, by simp, by simp, by simp, ⟨HLe.set_fresh h3, h3, .nil, by simp [Heap.set], .inl ⟨rfl, rfl⟩⟩⟩
  rintro μ ρ K ih ⟨i, rfl, hi, r2, r3, r10, r11, r12, hR⟩
  have hxl : ((z.l.map chAV).take i).length = i := by rw [List.length_take, List.length_map]; omega
  rcases Nat.lt_or_ge i z.l.length with hlt | hge
  · obtain ⟨c, hc, _⟩ := getAt hlt
    have hw1 : IntKind.i64.wrap ((i : Int) + 1) = (i : Int) + 1 := wrap_i64 (by omega) (by omega)
    have hd : (z.l.map chAV).take (i + 1) = (z.l.map chAV).take i ++ [chAV c] := by
      rw [List.take_succ_eq_append_getElem (by simpa using hlt)]; simp [hc]
    have hsz : szs 2 ((z.l.map chAV).take i) = true := by
      simp only [szs, List.all_eq_true]
      intro a ha
      obtain ⟨c, _, rfl⟩ := List.mem_map.1 (List.mem_of_mem_take ha)
      rfl
    generalize (z.l.map chAV).take i = xs at *
    simp -implicitDefEqProofs [r10, r11, r12, hlt, hc]
    refine AAlloc.intro fun b5 h5 => ?_
    have hR5 := fun o => hR.new (o := o) h5
    have n35 : b3 ≠ b5 := by
      obtain ⟨tt, q, _⟩ := hR.row
      rintro rfl
      rw [q] at h5
      cases h5
    obtain ⟨t0, q0, _⟩ := hR.row
    simp -implicitDefEqProofs [r3, n35, q0]
    generalize hK5 : Heap.set K b5 _ = K5
    have q5 : K5 b3 = some (.cells [.sc (.int .i64 z.first), .sl xs t0] 61) := by rw [← hK5]; simp [Heap.set, n35, q0]
    have hR' : RowZ 2 159 61 K1 b3 xs.length (fun t => [.sc (.int .i64 z.first), .sl xs t]) K5 := by rw [hxl, ← hK5]; exact hR5 _
    have k5 : K5 b5 = some (.cells [.sc (.int .i64 c.1), .sc (.int .i64 c.2)] 69) := by rw [← hK5]; simp [Heap.set]
    clear hK5
    obtain ⟨tk, G0, G, g1, g2, g3, g4, g5, g6⟩ := hR'.grows
    obtain rfl : t0 = tk := by rw [q5] at g1; simpa using g1
    refine AApp.grows el_59 g2 g3 (by simp) hsz (by simp [szs]) (by simp; omega) (by simp [maxLen]; omega) fun t' K' Hn hg' hl' => ?_
    have hn3 := hl' _ _ (hg'.le _ _ g5)
    simp -implicitDefEqProofs [r3, hn3, r12, hw1]
    refine AGo.again ih (m' := z.l.length - (i + 1)) (by omega) (HLe.refl _) ⟨i + 1, rfl, by omega, by simp [r2], by simp [r3], by simp [r10], by simp [r11], by simp, ?_⟩
    have hst := RowZ.stored (T := 61) (F := fun t => [.sc (.int .i64 z.first), .sl (xs ++ [chAV c]) t]) g4 h3 g5 hg' hl'
    rw [hd]
    simpa [hxl] using hst
  · have hn' : ¬ i < z.l.length := by omega
    obtain ⟨tk, q, _⟩ := hR.row
    have q2 := hR.le _ _ k2
    rw [List.take_of_length_le (by simpa using hge)] at q
    simp -implicitDefEqProofs [r2, r3, r11, r12, hn', q, q2, n23]
    exact HWk.new e2 (kW.trans hR.le.wk)
end Go.Proofs.YtmoncokklkiikaaGreatDoor
namespace Go.Proofs.YtmoncokklkiikaaGreatDoor
open Rg Go
variable {H : Heap}
theorem c_rOffset (n : Int) : AOk Tryz.prog 100 [.sc (.int .i64 n)] H (.sc (.bool (offOk n))) H := by
  have e := tmod60 n
  unfold offOk
  refine ACalls.into Tryz.func100 rfl Tryz.ntmps100 Tryz.results100 (by simp) ?_
  by_cases h1 : n % 60 = 0
  · have h1' : n.tmod 60 = 0 := e.2 h1
    by_cases h2 : -50400 ≤ n
    · simp -implicitDefEqProofs [h1, h1', h2]
    · simp -implicitDefEqProofs [h1, h1', h2]
  · have h1' : ¬ n.tmod 60 = 0 := fun h => h1 (e.1 h)
    simp -implicitDefEqProofs [h1, h1']
def okCh (p : Option Int) (c : Int × Int) : Bool := offOk c.2 && decide (0 ≤ c.1) && decide (c.1 < 13569465600) && decide (c.1 % 60 = 0) && (match p with | none => true | some q => decide (q + 172800 ≤ c.1))
theorem mayL_okCh (p : Option Int) (c : Int × Int) (r : List (Int × Int)) : mayL p (c :: r) = (okCh p c && mayL (some c.1) r) := rfl
set_option maxHeartbeats 4000000 in
theorem c_rMay (z : Zn) (t : Rg.Tok) (hz : z.l.length ≤ 1000000) : AOk Tryz.prog 29 [zAV z t] H (.sc (.bool (mayZ z))) H := by
  refine ACalls.into Tryz.func29 rfl Tryz.ntmps29 Tryz.results29 (by simp) ?_
  simp -implicitDefEqProofs
  refine AAlloc.intro fun b1 h1 => ?_
  simp -implicitDefEqProofs
  generalize hK : Heap.set _ b1 _ = K1
  have k1 : K1 b1 = some (.cells (zC z t) 61) := by rw [← hK]; simp [Heap.set]
  have kW : HLe H K1 := by rw [← hK]; exact HLe.set_fresh h1
  clear hK
  refine ACall.eq (c_rOffset _) ?_
  have start : ∃ ok0, ok0 = (offOk z.first && decide (z.l.length ≤ 64)) ∧ mayZ z = (ok0 && mayL none z.l) := ⟨_, rfl, rfl⟩
  obtain ⟨ok0, hok0, hr⟩ := start
  rw [hr]
  generalize hrr : (ok0 && mayL none z.l) = r
  have l64 : ((z.l.length : Int) ≤ 64) ↔ z.l.length ≤ 64 := by omega
  cases hf : offOk z.first with
  | false =>
    obtain rfl : ok0 = false := by rw [hok0, hf]; rfl
    simp only [Bool.false_and] at hrr
    subst hrr
    simp -implicitDefEqProofs [k1]
    refine AGo.rounds (fun μ ρ K => ρ 1 = .sc (.pointer (some ⟨b1, 0, none⟩)) ∧ ρ 3 = .sc (.bool false) ∧ ρ 4 = .sc (.int .i64 0) ∧ K = K1) ?_ (m := 0) (HLe.refl _) ⟨by simp, by simp, by simp, rfl⟩
    rintro μ ρ K ih ⟨r1, r3, r4, rfl⟩
    by_cases hl : 0 < z.l.length
    · simp -implicitDefEqProofs [r1, r3, r4, k1, hl]
      exact kW.wk
    · simp -implicitDefEqProofs [r1, r3, r4, k1, hl]
      exact kW.wk
  | true =>
    rw [hf, Bool.true_and] at hok0
    simp -implicitDefEqProofs [k1, l64]
    refine AGo.rounds (fun μ ρ K => ∃ (i : Nat) (p : Option Int) (ok : Bool), μ = (if ok = true then z.l.length - i + 1 else 0) ∧ i ≤ z.l.length ∧ (ok = true → (mayL p (z.l.drop i) = r ∧ (i = 0 ∧ p = none ∨ ∃ (j : Nat) (d : Int × Int), i = j + 1 ∧ z.l[j]? = some d ∧ p = some d.1 ∧ 0 ≤ d.1 ∧ d.1 < 13569465600))) ∧ (ok = false → r = false) ∧
      ρ 1 = .sc (.pointer (some ⟨b1, 0, none⟩)) ∧ ρ 3 = .sc (.bool ok) ∧ ρ 4 = .sc (.int .i64 (i : Int)) ∧ K = K1) ?_ (m := if ok0 = true then z.l.length + 1 else 0) (HLe.refl _)
      ⟨0, none, ok0, rfl, by omega, fun h => ⟨by rw [← hrr, h]; rfl, .inl ⟨rfl, rfl⟩⟩, fun h => by rw [← hrr, h]; rfl, by simp, by simp [hok0], by simp, rfl⟩
    rintro μ ρ K ih ⟨i, p, ok, rfl, hi, hp, hno, r1, r3, r4, rfl⟩
    cases ok with
    | false =>
      obtain rfl := hno rfl
      by_cases hlt : i < z.l.length
      · simp -implicitDefEqProofs [r1, r3, r4, k1, hlt]
        exact kW.wk
      · simp -implicitDefEqProofs [r1, r3, r4, k1, hlt]
        exact kW.wk
    | true =>
      obtain ⟨hat, hp⟩ := hp rfl
      rcases Nat.lt_or_ge i z.l.length with hlt | hge
      · obtain ⟨c, hej, hc⟩ := getAt hlt
        have hw1 : IntKind.i64.wrap ((i : Int) + 1) = (i : Int) + 1 := wrap_i64 (by omega) (by omega)
        rw [List.drop_eq_getElem_cons hlt, hej, mayL_okCh] at hat
        simp -implicitDefEqProofs [r1, r3, r4, k1, hlt, hej]
        refine AAlloc.intro fun b5 h5 => ?_
        have n15 : b1 ≠ b5 := by intro e; subst e; rw [k1] at h5; cases h5
        simp -implicitDefEqProofs [r1, r3, r4]
        refine ACall.eq (c_rOffset _) ?_
        have hm60 := tmod60 c.1
        have five : offOk c.2 = false ∨ (offOk c.2 = true ∧ ¬ 0 ≤ c.1) ∨ (offOk c.2 = true ∧ 0 ≤ c.1 ∧ ¬ c.1 < 13569465600) ∨ (offOk c.2 = true ∧ 0 ≤ c.1 ∧ c.1 < 13569465600 ∧ ¬ c.1 % 60 = 0 ∧ ¬ c.1.tmod 60 = 0) ∨ (offOk c.2 = true ∧ 0 ≤ c.1 ∧ c.1 < 13569465600 ∧ c.1 % 60 = 0 ∧ c.1.tmod 60 = 0) := by
          rw [hm60]
          cases offOk c.2 with
          | false => exact .inl rfl
          | true => right; simp only [true_and]; omega
        rcases five with h | ⟨ho, h⟩ | ⟨ho, h0, h⟩ | ⟨ho, h0, hM, h, h'⟩ | ⟨ho, h0, hM, h, h'⟩
        · obtain rfl : r = false := by rw [← hat]; simp [okCh, h]
          by_cases hi0 : 0 < i
          · simp -implicitDefEqProofs [h, r1, r4, hw1, hi0, n15]
            exact AGo.again ih (m' := 0) (by simp) (HLe.set_fresh h5) ⟨i + 1, none, false, rfl, by omega, fun h => (by cases h), fun _ => rfl, by simp [r1], by simp, by simp, rfl⟩
          · simp -implicitDefEqProofs [h, r1, r4, hw1, hi0, n15]
            exact AGo.again ih (m' := 0) (by simp) (HLe.set_fresh h5) ⟨i + 1, none, false, rfl, by omega, fun h => (by cases h), fun _ => rfl, by simp [r1], by simp, by simp, rfl⟩
        · obtain rfl : r = false := by rw [← hat]; simp [okCh, ho, h]
          by_cases hi0 : 0 < i
          · simp -implicitDefEqProofs [ho, h, r1, r4, hw1, hi0, n15]
            exact AGo.again ih (m' := 0) (by simp) (HLe.set_fresh h5) ⟨i + 1, none, false, rfl, by omega, fun h => (by cases h), fun _ => rfl, by simp [r1], by simp, by simp, rfl⟩
          · simp -implicitDefEqProofs [ho, h, r1, r4, hw1, hi0, n15]
            exact AGo.again ih (m' := 0) (by simp) (HLe.set_fresh h5) ⟨i + 1, none, false, rfl, by omega, fun h => (by cases h), fun _ => rfl, by simp [r1], by simp, by simp, rfl⟩
        · obtain rfl : r = false := by rw [← hat]; simp [okCh, ho, h0, h]
          by_cases hi0 : 0 < i
          · simp -implicitDefEqProofs [ho, h0, h, r1, r4, hw1, hi0, n15]
            exact AGo.again ih (m' := 0) (by simp) (HLe.set_fresh h5) ⟨i + 1, none, false, rfl, by omega, fun h => (by cases h), fun _ => rfl, by simp [r1], by simp, by simp, rfl⟩
          · simp -implicitDefEqProofs [ho, h0, h, r1, r4, hw1, hi0, n15]
            exact AGo.again ih (m' := 0) (by simp) (HLe.set_fresh h5) ⟨i + 1, none, false, rfl, by omega, fun h => (by cases h), fun _ => rfl, by simp [r1], by simp, by simp, rfl⟩
        · obtain rfl : r = false := by rw [← hat]; simp [okCh, ho, h0, hM, h, h']
          by_cases hi0 : 0 < i
          · simp -implicitDefEqProofs [ho, h0, hM, h, h', r1, r4, hw1, hi0, n15]
            exact AGo.again ih (m' := 0) (by simp) (HLe.set_fresh h5) ⟨i + 1, none, false, rfl, by omega, fun h => (by cases h), fun _ => rfl, by simp [r1], by simp, by simp, rfl⟩
          · simp -implicitDefEqProofs [ho, h0, hM, h, h', r1, r4, hw1, hi0, n15]
            exact AGo.again ih (m' := 0) (by simp) (HLe.set_fresh h5) ⟨i + 1, none, false, rfl, by omega, fun h => (by cases h), fun _ => rfl, by simp [r1], by simp, by simp, rfl⟩
        · rcases hp with ⟨rfl, rfl⟩ | ⟨j, d, hij, hjd, rfl, hd0, hd1⟩
          · have hnx : mayL (some c.1) (z.l.drop (0 + 1)) = r := by rw [← hat]; simp [okCh, ho, h0, hM, h]
            have hw1' : IntKind.i64.wrap (0 + 1) = 1 := by decide
            simp -implicitDefEqProofs [ho, h0, hM, h, h', r1, r4, n15, wrap_i64]
            refine AGo.again ih (m' := z.l.length - (0 + 1) + 1) (by simp; omega) (HLe.set_fresh h5) ⟨0 + 1, some c.1, true, by simp, by omega, fun _ => ⟨hnx, .inr ⟨0, c, rfl, by rw [List.getElem?_eq_getElem hlt, hej], rfl, h0, hM⟩⟩, fun h => (by cases h), by simp [r1], by simp, by simp, rfl⟩
          · have hjl : j < z.l.length := by omega
            have hjd' : z.l[j] = d := by rw [List.getElem?_eq_getElem hjl] at hjd; exact Option.some.inj hjd
            have hw2 : IntKind.i64.wrap ((i : Int) - 1) = (j : Int) := by rw [wrap_i64 (by omega) (by omega)]; omega
            have hw3 : IntKind.i64.wrap (d.1 + 172800) = d.1 + 172800 := wrap_i64 (by omega) (by omega)
            have hi0 : 0 < i := by omega
            simp -implicitDefEqProofs [ho, h0, hM, h, h', r1, r4, n15, hi0]
            refine go_draw 12 f_mixed (by decide +kernel) ?_
            simp -implicitDefEqProofs [r1, r4, n15, k1, hw2, hjl, hjd', hw3, hw1]
            by_cases hap : d.1 + 172800 ≤ c.1
            · have hnx : mayL (some c.1) (z.l.drop (i + 1)) = r := by rw [← hat]; simp [okCh, ho, h0, hM, h, hap]
              refine AGo.again ih (m' := z.l.length - (i + 1) + 1) (by simp; omega) (HLe.set_fresh h5) ⟨i + 1, some c.1, true, by simp, by omega, fun _ => ⟨hnx, .inr ⟨i, c, rfl, by rw [List.getElem?_eq_getElem hlt, hej], rfl, h0, hM⟩⟩, fun h => (by cases h), by simp [r1], by simp [hap], by simp, rfl⟩
            · obtain rfl : r = false := by rw [← hat]; simp [okCh, hap]
              exact AGo.again ih (m' := 0) (by simp) (HLe.set_fresh h5) ⟨i + 1, none, false, rfl, by omega, fun h => (by cases h), fun _ => rfl, by simp [r1], by simp [hap], by simp, rfl⟩
      · have hn : ¬ i < z.l.length := by omega
        rw [List.drop_of_length_le hge] at hat
        simp only [mayL] at hat
        subst hat
        simp -implicitDefEqProofs [r1, r3, r4, k1, hn]
        exact kW.wk
end Go.Proofs.YtmoncokklkiikaaGreatDoor
namespace Go.Proofs.YtmoncokklkiikaaGreatDoor
open Rg Go
variable {H : Heap}
theorem at_none {f t : Int} : ∀ {l : List (Int × Int)}, (∀ (j : Nat) d, l[j]? = some d → t < d.1) → atL f l t = f
  | [], _ => rfl
  | (a, o) :: r, h => by
    unfold atL
    rw [if_pos (h 0 (a, o) rfl)]
theorem at_hit {t : Int} : ∀ {l : List (Int × Int)} {p : Option Int} {f : Int} {i : Nat} {c : Int × Int}, mayL p l = true → l[i]? = some c → c.1 ≤ t → (∀ (j : Nat) d, i < j → l[j]? = some d → t < d.1) → atL f l t = c.2
  | [], _, _, _, _, _, h, _, _ => by simp at h
  | (a, o) :: r, p, f, 0, c, hm, h, h1, h2 => by
    simp only [List.getElem?_cons_zero, Option.some.injEq] at h
    subst h
    simp only at h1
    unfold atL
    rw [if_neg (by omega)]
    exact at_none fun j d hd => h2 (j + 1) d (by omega) (by simpa using hd)
  | (a, o) :: r, p, f, i + 1, c, hm, h, h1, h2 => by
    simp only [List.getElem?_cons_succ] at h
    have hmr := (mayL_cons.1 hm).2.2.2.2.2
    have := mayL_ge hmr (Int.le_refl a) c.1 c.2 (List.mem_of_getElem? h)
    unfold atL
    rw [if_neg (by omega)]
    exact at_hit hmr h h1 fun j d hj hd => h2 (j + 1) d (by omega) (by simpa using hd)
set_option maxHeartbeats 1000000 in
theorem c_rAt (z : Zn) (t : Rg.Tok) (m : Int) (hz : mayZ z = true) : AOk Tryz.prog 39 [zAV z t, .sc (.int .i64 m)] H (.sc (.int .i64 (atZ z m))) H := by
  have hlen := z_len hz
  have hml := may_l hz
  have hit := fun i c => at_hit (t := m) (l := z.l) (f := z.first) (i := i) (c := c) hml
  have non := at_none (t := m) (f := z.first) (l := z.l)
  unfold atZ
  generalize hr : atL z.first z.l m = r at hit non
  have hwl : IntKind.i64.wrap ((z.l.length : Int) - 1) = (z.l.length : Int) - 1 := wrap_i64 (by omega) (by omega)
  refine ACalls.into Tryz.func39 rfl Tryz.ntmps39 Tryz.results39 (by simp) ?_
  simp -implicitDefEqProofs
  refine AAlloc.intro fun b1 h1 => ?_
  simp -implicitDefEqProofs [hwl]
  generalize hK : Heap.set _ b1 _ = K1
  have k1 : K1 b1 = some (.cells (zC z t) 61) := by rw [← hK]; simp [Heap.set]
  have kW : HLe H K1 := by rw [← hK]; exact HLe.set_fresh h1
  clear hK
  refine AGo.rounds (fun μ ρ K => ∃ (i : Nat), μ = i ∧ i ≤ z.l.length ∧ (∀ (j : Nat) d, i ≤ j → z.l[j]? = some d → m < d.1) ∧ ρ 1 = .sc (.int .i64 m) ∧ ρ 2 = .sc (.pointer (some ⟨b1, 0, none⟩)) ∧ ρ 5 = .sc (.int .i64 ((i : Int) - 1)) ∧ K = K1) ?_ (m := z.l.length) (HLe.refl _)
    ⟨z.l.length, rfl, by omega, fun j d hj hd => (by rw [List.getElem?_eq_none hj] at hd; cases hd), by simp, by simp, by simp, rfl⟩
  rintro μ ρ K ih ⟨i, rfl, hi, hall, r1, r2, r5, rfl⟩
  cases μ with
  | zero =>
    rw [non fun j d hd => hall j d (by omega) hd]
    simp -implicitDefEqProofs [r1, r2, r5, k1]
    exact kW.wk
  | succ i =>
    have hlt : i < z.l.length := by omega
    obtain ⟨c, hc, hc'⟩ := getAt hlt
    have e : (((i + 1 : Nat) : Int) - 1) = (i : Int) := by omega
    have hw2 : IntKind.i64.wrap ((i : Int) - 1) = (i : Int) - 1 := wrap_i64 (by omega) (by omega)
    rw [e] at r5
    by_cases hm : c.1 ≤ m
    · rw [hit i c hc' hm fun j d hj hd => hall j d hj hd]
      simp -implicitDefEqProofs [r1, r2, r5, k1, hlt, hc, hm]
      exact kW.wk
    · simp -implicitDefEqProofs [r1, r2, r5, k1, hlt, hc, hm, hw2]
      refine AGo.again ih (m' := i) (by omega) (HLe.refl _) ⟨i, rfl, by omega, fun j d hj hd => ?_, by simp [r1], by simp [r2], by simp, rfl⟩
      by_cases hji : j = i
      · subst hji
        rw [hc'] at hd
        cases hd
        omega
      · exact hall j d (by omega) hd
def momT (l : Int) (k : Nat) : Int := l - 50400 + 60 * (k : Int)
def momP (z : Zn) (l : Int) (k : Nat) : List Int := ((List.range k).map (momT l)).filter (momB z l)
theorem momP_all (z : Zn) (l : Int) : momP z l 1681 = momZ z l := rfl
theorem momP_succ (z : Zn) (l : Int) (k : Nat) : momP z l (k + 1) = momP z l k ++ (if momB z l (momT l k) = true then [momT l k] else []) := by
  unfold momP
  rw [List.range_succ, List.map_append, List.filter_append]
  congr 1
  simp only [List.map_cons, List.map_nil, List.filter_cons, List.filter_nil]
theorem momP_len (z : Zn) (l : Int) (k : Nat) : (momP z l k).length ≤ k := by
  unfold momP
  refine Nat.le_trans (List.length_filter_le _ _) (by simp)
set_option maxHeartbeats 2000000 in
theorem c_rMoments (z : Zn) (t : Rg.Tok) {l : Int} (h0 : 0 ≤ l) (h1 : l < 13569465600) (hz : mayZ z = true) : AOk Tryz.prog 43 [zAV z t, .sc (.int .i64 l)] H (.sl ((momZ z l).map i64) .no) H := by
  rw [← momP_all]
  have hw0 : IntKind.i64.wrap (l - 50400) = momT l 0 := by rw [wrap_i64 (by omega) (by omega)]; unfold momT; omega
  have hwe : IntKind.i64.wrap (l + 50400) = l + 50400 := wrap_i64 (by omega) (by omega)
  have hlen := momP_len z l
  have hsucc := momP_succ z l
  have hp0 : momP z l 0 = [] := rfl
  obtain ⟨N, hN⟩ : ∃ N, N = 1681 := ⟨_, rfl⟩
  rw [← hN]
  generalize momP z l = P at *
  refine ACalls.into Tryz.func43 rfl Tryz.ntmps43 Tryz.results43 (by simp) ?_
  simp -implicitDefEqProofs [hw0]
  refine AAlloc.intro fun b1 hb1 => ?_
  simp -implicitDefEqProofs [hw0]
  generalize hK : Heap.set _ b1 _ = K1
  have k1 : K1 b1 = some (.cells (zC z t) 61) := by rw [← hK]; simp [Heap.set]
  have kW : HLe H K1 := by rw [← hK]; exact HLe.set_fresh hb1
  clear hK
  refine AGo.rounds (fun μ ρ K => ∃ (k : Nat) (tk : Rg.Tok), μ = N - k ∧ k ≤ N ∧ ρ 1 = .sc (.int .i64 l) ∧ ρ 2 = .sc (.pointer (some ⟨b1, 0, none⟩)) ∧ ρ 5 = .sl ((P k).map i64) tk ∧ ρ 6 = .sc (.int .i64 (momT l k)) ∧ Grows K1 ((P k).map i64) 1 2 tk K) ?_ (m := N) (HLe.refl _)
    ⟨0, .nil, by omega, by omega, by simp, by simp, by simp [hp0], by simp, by rw [hp0]; exact Grows.zero⟩
  rintro μ ρ K ih ⟨k, tk, rfl, hk, r1, r2, r5, r6, hg⟩
  have k2 := hg.le _ _ k1
  have hPk := hlen k
  obtain ⟨u, hu⟩ : ∃ u, momT l k = u := ⟨_, rfl⟩
  have hu' : u = l - 50400 + 60 * (k : Int) := hu.symm
  have hw1 : IntKind.i64.wrap (u + 60) = momT l (k + 1) := by rw [wrap_i64 (by omega) (by omega)]; unfold momT; omega
  rw [hu] at r6
  by_cases hlt : k < N
  · have hle : u ≤ l + 50400 := by omega
    have hs := hsucc k
    rw [hu] at hs
    have hb : momB z l u = (decide (0 ≤ u) && decide (u < 13569465600) && decide (u + atZ z u = l)) := rfl
    by_cases c0 : 0 ≤ u
    · by_cases c1 : u < 13569465600
      · simp -implicitDefEqProofs [r1, r2, r5, r6, hwe, hle, c0, c1, k2]
        refine ACall.eq (c_rAt z t u hz) ?_
        have ho := offOk_iff.1 (at_ok hz u)
        have hw2 : IntKind.i64.wrap (u + atZ z u) = u + atZ z u := wrap_i64 (by omega) (by omega)
        have hw3 : IntKind.i64.wrap (atZ z u) = atZ z u := wrap_i64 (by omega) (by omega)
        by_cases c2 : u + atZ z u = l
        · rw [hb, if_pos (by simp [c0, c1, c2])] at hs
          have hwl : IntKind.i64.wrap l = l := wrap_i64 (by omega) (by omega)
          simp -implicitDefEqProofs [r1, r5, r6, hwl, hw3, c2]
          refine AApp.grows el_36 hg (HLe.refl _) (by simp) (by rw [szs, List.all_eq_true]; intro a ha; obtain ⟨c, _, rfl⟩ := List.mem_map.1 ha; rfl) (by simp [szs]) (by simp; omega) (by simp [maxLen]; omega) fun t' K' Hn hg' hl' => ?_
          simp -implicitDefEqProofs [r6, hw1]
          refine AGo.again ih (m' := N - (k + 1)) (by omega) hl' ⟨k + 1, t', rfl, by omega, by simp [r1], by simp [r2], by simp [hs, i64], by simp, ?_⟩
          rw [hs]
          simpa [i64] using hg'
        · rw [hb, if_neg (by simp [c2])] at hs
          rw [List.append_nil] at hs
          simp -implicitDefEqProofs [r1, r5, r6, hw2, hw3, c2, hw1]
          exact AGo.again ih (m' := N - (k + 1)) (by omega) (HLe.refl _) ⟨k + 1, tk, rfl, by omega, by simp [r1], by simp [r2], by simp [hs, r5], by simp, by rw [hs]; exact hg⟩
      · rw [hb, if_neg (by simp [c1])] at hs
        rw [List.append_nil] at hs
        simp -implicitDefEqProofs [r1, r2, r5, r6, hwe, hle, c0, c1, hw1]
        exact AGo.again ih (m' := N - (k + 1)) (by omega) (HLe.refl _) ⟨k + 1, tk, rfl, by omega, by simp [r1], by simp [r2], by simp [hs, r5], by simp, by rw [hs]; exact hg⟩
    · rw [hb, if_neg (by simp [c0])] at hs
      rw [List.append_nil] at hs
      simp -implicitDefEqProofs [r1, r2, r5, r6, hwe, hle, c0, hw1]
      exact AGo.again ih (m' := N - (k + 1)) (by omega) (HLe.refl _) ⟨k + 1, tk, rfl, by omega, by simp [r1], by simp [r2], by simp [hs, r5], by simp, by rw [hs]; exact hg⟩
  · obtain rfl : k = N := by omega
    have hle : ¬ u ≤ l + 50400 := by omega
    simp -implicitDefEqProofs [r1, r5, r6, hwe, hle]
    exact (kW.trans hg.le).wk
def beginI (z : Zn) (l : Int) : Int := match beginZ z l with | some a => a | none => -1
set_option maxHeartbeats 2000000 in
theorem c_rBegin (z : Zn) (t : Rg.Tok) {l : Int} (h0 : 0 ≤ l) (h1 : l < 13569465600) (hz : mayZ z = true) : AOk Tryz.prog 41 [zAV z t, .sc (.int .i64 l)] H (.sc (.int .i64 (beginI z l))) H := by
  have hlen := z_len hz
  have hfo := offOk_iff.1 (may_parts hz).1
  have hin := mayL_in (may_parts hz).2.2
  have hM := fun K => c_rMoments (H := K) z t h0 h1 hz
  unfold beginI beginZ
  refine ACalls.into Tryz.func41 rfl Tryz.ntmps41 Tryz.results41 (by simp) ?_
  simp -implicitDefEqProofs
  refine AAlloc.intro fun b2 h2 => ?_
  simp -implicitDefEqProofs
  generalize hK : Heap.set _ b2 _ = K1
  have k2 : K1 b2 = some (.cells (zC z t) 61) := by rw [← hK]; simp [Heap.set]
  have kW : HLe H K1 := by rw [← hK]; exact HLe.set_fresh h2
  clear hK
  refine ACall.eq (hM _) ?_
  generalize momZ z l = M
  cases M with
  | cons m M =>
    simp -implicitDefEqProofs [i64]
    exact kW.wk
  | nil =>
    simp only
    generalize hG : gapL z.first z.l l = G
    simp -implicitDefEqProofs
    refine AGo.rounds (fun μ ρ K => ∃ (i : Nat) (f : Int), μ = z.l.length - i ∧ i ≤ z.l.length ∧ gapL f (z.l.drop i) l = G ∧ (-50400 ≤ f ∧ f ≤ 50400) ∧ (i = 0 ∧ f = z.first ∨ ∃ (j : Nat) (d : Int × Int), i = j + 1 ∧ z.l[j]? = some d ∧ f = d.2) ∧
      ρ 1 = .sc (.int .i64 l) ∧ ρ 2 = .sc (.pointer (some ⟨b2, 0, none⟩)) ∧ ρ 6 = .sc (.int .i64 (i : Int)) ∧ K = K1) ?_ (m := z.l.length) (HLe.refl _)
      ⟨0, z.first, by omega, by omega, hG, hfo.2, .inl ⟨rfl, rfl⟩, by simp, by simp, by simp, rfl⟩
    clear hG
    rintro μ ρ K ih ⟨i, f, rfl, hi, hg, hf, hp, r1, r2, r6, rfl⟩
    rcases Nat.lt_or_ge i z.l.length with hlt | hge
    · obtain ⟨c, hc, hc'⟩ := getAt hlt
      have hcz := hin c (by rw [← hc]; exact List.getElem_mem _)
      have hco := offOk_iff.1 hcz.1
      have hw1 : IntKind.i64.wrap ((i : Int) + 1) = (i : Int) + 1 := wrap_i64 (by omega) (by omega)
      have hw2 : IntKind.i64.wrap (c.1 + f) = c.1 + f := wrap_i64 (by omega) (by omega)
      have hw3 : IntKind.i64.wrap (c.1 + c.2) = c.1 + c.2 := wrap_i64 (by omega) (by omega)
      have hw4 : IntKind.i64.wrap f = f := wrap_i64 (by omega) (by omega)
      have hw5 : IntKind.i64.wrap c.2 = c.2 := wrap_i64 (by omega) (by omega)
      rw [List.drop_eq_getElem_cons hlt, hc] at hg
      unfold gapL at hg
      simp -implicitDefEqProofs [r1, r2, r6, k2, hlt, hc]
      refine AAlloc.intro fun b7 h7 => ?_
      have n27 : b2 ≠ b7 := by intro e; subst e; rw [k2] at h7; cases h7
      have kW7 : ∀ o, HWk H (K.set b7 o) := fun o => (kW.trans (HLe.set_fresh h7)).wk
      rcases hp with ⟨rfl, rfl⟩ | ⟨j, d, hij, hjd, rfl⟩
      · by_cases c1 : c.1 + z.first ≤ l
        · by_cases c2 : l < c.1 + c.2
          · rw [if_pos ⟨c1, c2⟩] at hg
            subst hg
            simp -implicitDefEqProofs [r1, r2, r6, k2, n27, hw2, hw3, hw4, hw5, c1, c2]
            exact kW7 _
          · rw [if_neg (by omega)] at hg
            simp -implicitDefEqProofs [r1, r2, r6, k2, n27, hw2, hw3, hw4, hw5, c1, c2, wrap_i64]
            exact AGo.again ih (m' := z.l.length - (0 + 1)) (by omega) (HLe.set_fresh h7) ⟨0 + 1, c.2, rfl, by omega, hg, hco.2, .inr ⟨0, c, rfl, hc', rfl⟩, by simp [r1], by simp [r2], by simp, rfl⟩
        · rw [if_neg (by omega)] at hg
          simp -implicitDefEqProofs [r1, r2, r6, k2, n27, hw2, hw3, hw4, hw5, c1, wrap_i64]
          exact AGo.again ih (m' := z.l.length - (0 + 1)) (by omega) (HLe.set_fresh h7) ⟨0 + 1, c.2, rfl, by omega, hg, hco.2, .inr ⟨0, c, rfl, hc', rfl⟩, by simp [r1], by simp [r2], by simp, rfl⟩
      · have hjl : j < z.l.length := by omega
        have hjd' : z.l[j] = d := by rw [List.getElem?_eq_getElem hjl] at hjd; exact Option.some.inj hjd
        have hw6 : IntKind.i64.wrap ((i : Int) - 1) = (j : Int) := by rw [wrap_i64 (by omega) (by omega)]; omega
        have hi0 : 0 < i := by omega
        by_cases c1 : c.1 + d.2 ≤ l
        · by_cases c2 : l < c.1 + c.2
          · rw [if_pos ⟨c1, c2⟩] at hg
            subst hg
            simp -implicitDefEqProofs [r1, r2, r6, k2, n27, hw2, hw3, hw4, hw5, hw6, hi0, hjl, hjd', c1, c2]
            exact kW7 _
          · rw [if_neg (by omega)] at hg
            simp -implicitDefEqProofs [r1, r2, r6, k2, n27, hw2, hw3, hw4, hw5, hw6, hi0, hjl, hjd', c1, c2, hw1]
            exact AGo.again ih (m' := z.l.length - (i + 1)) (by omega) (HLe.set_fresh h7) ⟨i + 1, c.2, rfl, by omega, hg, hco.2, .inr ⟨i, c, rfl, hc', rfl⟩, by simp [r1], by simp [r2], by simp, rfl⟩
        · rw [if_neg (by omega)] at hg
          simp -implicitDefEqProofs [r1, r2, r6, k2, n27, hw2, hw3, hw4, hw5, hw6, hi0, hjl, hjd', c1, hw1]
          exact AGo.again ih (m' := z.l.length - (i + 1)) (by omega) (HLe.set_fresh h7) ⟨i + 1, c.2, rfl, by omega, hg, hco.2, .inr ⟨i, c, rfl, hc', rfl⟩, by simp [r1], by simp [r2], by simp, rfl⟩
    · have hn : ¬ i < z.l.length := by omega
      rw [List.drop_of_length_le hge] at hg
      simp only [gapL] at hg
      subst hg
      simp -implicitDefEqProofs [r1, r2, r6, k2, hn]
      exact kW.wk
end Go.Proofs.YtmoncokklkiikaaGreatDoor
namespace Go.Proofs.YtmoncokklkiikaaGreatDoor
open Rg Go
variable {H : Heap}
def zS : Zn := ⟨3600, [(10000800, 7200), (20000880, 3600)]⟩
theorem zS_may : mayZ zS = true := by decide +kernel
theorem zS_at1 : atZ zS 10000799 = 3600 := by decide +kernel
theorem zS_at2 : atZ zS 10000800 = 7200 := by decide +kernel
theorem zS_mom1 : momZ zS 10005000 = [] := by decide +kernel
theorem zS_mom2 : momZ zS 20005000 = [19997800, 20001400] := by decide +kernel
theorem zS_begin : beginZ zS 10005000 = some 10000800 := by unfold beginZ; rw [zS_mom1]; decide +kernel
def tyS : List UInt8 := [42, 32, 42, 32, 42, 32, 42, 32, 42]
def xS : Ex := (cronK tyS).1
theorem xS_eq : cronK tyS = (xS, 0) := by decide +kernel
theorem xS_ok : xS.ok ∧ mayX xS = true := ⟨⟨by decide, by decide, by decide, by decide, by decide⟩, by decide +kernel⟩
theorem zS_at (t : Int) : atZ zS t = 3600 ∨ atZ zS t = 7200 := by
  have := atL_mem zS.l zS.first t
  simp only [zS, List.map_cons, List.map_nil, List.mem_cons, List.not_mem_nil, or_false] at this
  unfold atZ
  simp only [zS]
  omega
theorem zS_aft : IsAft zS xS 0 59 (some 60) := by
  refine ⟨3660, by omega, by omega, by decide +kernel, ?_, by omega, fun k _ hk hf b hb => ?_⟩
  · have h1 : momZ zS ((3660 : Nat) : Int) = [60] := by decide +kernel
    unfold beginZ
    rw [h1]
  · obtain ⟨h1, h2, h3, h4⟩ := begin_some zS_may hb
    have h60 := (fire_eq xS (by omega)).1 hf |>.1
    have a1 := zS_at b
    have a2 := zS_at (b - 1)
    unfold gZ at h3 h4
    rcases h4 with h4 | ⟨⟨o, ho⟩, h4⟩
    · omega
    · simp only [zS, List.mem_cons, Prod.mk.injEq, List.not_mem_nil, or_false] at ho
      omega
theorem c_someZ : AOk Tryz.prog 95 [] H (zAV zS .no) H := by
  refine ACalls.into Tryz.func95 rfl Tryz.ntmps95 Tryz.results95 (by simp) ?_
  simp -implicitDefEqProofs
  refine AAlloc.intro fun b1 h1 => ?_
  simp -implicitDefEqProofs
  exact ⟨⟨rfl, wkL_refl _⟩, HWk.new h1 (HWk.refl _)⟩
theorem c_clockZ {t : Nat} (ht : t < 13569465600) : AOk Tryz.prog 96 [.sc (.int .i64 t)] H (cAV (clk t)) H := by
  refine ACalls.into Tryz.func96 rfl Tryz.ntmps96 Tryz.results96 (by simp) ?_
  simp -implicitDefEqProofs
  refine AAlloc.intro fun b2 h2 => ?_
  simp -implicitDefEqProofs
  refine ACall.eq (c_ref5Split ht) ?_
  simp -implicitDefEqProofs
  refine AAlloc.intro fun b3 h3 => ?_
  have n23 : b2 ≠ b3 := by intro e; subst e; simp [Heap.set] at h3
  have n32 := n23.symm
  have e3 : H b3 = none := (HLe.set_fresh h2).none h3
  simp -implicitDefEqProofs [n23, n32]
  repeat (first | exact HWk.refl _ | refine HWk.new (by assumption) ?_)
theorem c_eq64 (L M : List Int) (t u : Rg.Tok) (hL : L.length ≤ 1000000) (hM : M.length ≤ 1000000) : AOk Tryz.prog 42 [.sl (L.map i64) t, .sl (M.map i64) u] H (.sc (.bool (decide (L = M)))) H := by
  refine ACalls.into Tryz.func42 rfl Tryz.ntmps42 Tryz.results42 (by simp) ?_
  by_cases hl : L.length = M.length
  · simp -implicitDefEqProofs [hl]
    generalize hr : decide (L = M) = r
    refine AGo.rounds (fun μ ρ K => ∃ (i : Nat), μ = L.length - i ∧ i ≤ L.length ∧ (L.drop i = M.drop i ↔ L = M) ∧ ρ 0 = .sl (L.map i64) t ∧ ρ 1 = .sl (M.map i64) u ∧ ρ 12 = .sc (.int .i64 (L.length : Int)) ∧ ρ 13 = .sc (.int .i64 (i : Int)) ∧ K = H) ?_ (m := L.length) (HLe.refl _)
      ⟨0, by omega, by omega, by simp, by simp, by simp, by simp [hl], by simp, rfl⟩
    rintro μ ρ K ih ⟨i, rfl, hi, he, r0, r1, r12, r13, rfl⟩
    rcases Nat.lt_or_ge i L.length with hlt | hge
    · obtain ⟨x, hx, _⟩ := getAt hlt
      have hlt2 : i < M.length := by omega
      obtain ⟨y, hy, _⟩ := getAt hlt2
      have hw1 : IntKind.i64.wrap ((i : Int) + 1) = (i : Int) + 1 := wrap_i64 (by omega) (by omega)
      rw [List.drop_eq_getElem_cons hlt, List.drop_eq_getElem_cons hlt2, hx, hy] at he
      simp -implicitDefEqProofs [r0, r1, r12, r13, hlt]
      refine go_draw 9 f_mixed (by decide +kernel) ?_
      simp -implicitDefEqProofs [r0, r1, r12, r13, hlt, hlt2, hx, hy, i64]
      by_cases hxy : x = y
      · simp -implicitDefEqProofs [hxy, r13, hw1]
        refine AGo.again ih (m' := L.length - (i + 1)) (by omega) (HLe.refl _) ⟨i + 1, rfl, by omega, ?_, by simp [r0], by simp [r1], by simp [r12], by simp, rfl⟩
        rw [← he, hxy]
        simp
      · obtain rfl : r = false := by
          rw [← hr, decide_eq_false_iff_not, ← he]
          intro h
          injection h with h1 h2
          exact hxy h1
        simp -implicitDefEqProofs [hxy]
    · have hn : ¬ i < L.length := by omega
      rw [List.drop_of_length_le hge, List.drop_of_length_le (by omega)] at he
      obtain rfl : r = true := by rw [← hr, decide_eq_true_iff]; exact he.1 rfl
      simp -implicitDefEqProofs [r12, r13, hn]
  · have : ¬ L = M := fun h => hl (by rw [h])
    have hl' : ¬ (L.length : Int) = (M.length : Int) := by omega
    simp -implicitDefEqProofs [hl, hl', this]
theorem zS_text : textZ zS = [43, 48, 49, 48, 48, 32, 49, 48, 48, 48, 48, 56, 48, 48, 43, 48, 50, 48, 48, 32, 50, 48, 48, 48, 48, 56, 56, 48, 43, 48, 49, 48, 48] := by
  have e : ∀ u, Lib.decDigits u = if u < 10 then [UInt8.ofNat (48 + u)] else Lib.decDigits (u / 10) ++ [UInt8.ofNat (48 + u % 10)] := fun u => by
    rw [Lib.decDigits]; split <;> rfl
  have e1 : Lib.itoa 10000800 = [49, 48, 48, 48, 48, 56, 48, 48] := by
    rw [itoa_nat (by omega)]
    simp [e]
  have e2 : Lib.itoa 20000880 = [50, 48, 48, 48, 48, 56, 56, 48] := by
    rw [itoa_nat (by omega)]
    simp [e]
  have w1 : wrZ 3600 = [43, 48, 49, 48, 48] := by decide +kernel
  have w2 : wrZ 7200 = [43, 48, 50, 48, 48] := by decide +kernel
  unfold textZ
  rw [if_pos zS_may]
  unfold wordsZ
  simp only [zS, List.map_cons, List.map_nil, partZ, e1, e2, w1, w2]
  decide +kernel
end Go.Proofs.YtmoncokklkiikaaGreatDoor
namespace Go.Proofs.YtmoncokklkiikaaGreatDoor
open Rg Go
variable {H : Heap}
theorem clkS (t : Nat) (ht : t < 13569465600) : momI (clk t) = (t : Int) ∧ mayC (clk t) = true := ⟨momI_clk ht, mayC_clk ht⟩
theorem zS_m1 : momentsZ zS (clk 10005000) = [] ∧ argE zS (clk 10005000) = 0 := by
  obtain ⟨h1, h2⟩ := clkS 10005000 (by decide)
  unfold momentsZ argE
  rw [if_pos ⟨zS_may, h2⟩, if_pos ⟨zS_may, h2⟩, h1]
  exact ⟨zS_mom1, rfl⟩
theorem zS_m2 : momentsZ zS (clk 20005000) = [19997800, 20001400] ∧ argE zS (clk 20005000) = 0 := by
  obtain ⟨h1, h2⟩ := clkS 20005000 (by decide)
  unfold momentsZ argE
  rw [if_pos ⟨zS_may, h2⟩, if_pos ⟨zS_may, h2⟩, h1]
  exact ⟨zS_mom2, rfl⟩
theorem zS_b1 : beginC zS (clk 10005000) = some 10000800 ∧ beginE zS (clk 10005000) = 0 := by
  obtain ⟨h1, h2⟩ := clkS 10005000 (by decide)
  unfold beginC beginE
  rw [if_pos ⟨zS_may, h2⟩, if_pos ⟨zS_may, h2⟩, h1]
  exact ⟨zS_begin, by rw [show beginZ zS ((10005000 : Nat) : Int) = some 10000800 from zS_begin]; rfl⟩
theorem zS_o1 : offsetZ zS 10000799 = 3600 := by unfold offsetZ; rw [if_pos zS_may]; exact zS_at1
theorem zS_o2 : offsetZ zS 10000800 = 7200 := by unfold offsetZ; rw [if_pos zS_may]; exact zS_at2
set_option maxHeartbeats 4000000 in
theorem c_known36 (hG : GlobZ H) : AOk Tryz.prog 25 [] H (.sc (.bool true)) H := by
  have m1 := fun K => c_zMomentsC (H := K) zS .no (clk 10005000)
  have m2 := fun K => c_zMomentsC (H := K) zS .no (clk 20005000)
  have b1 := fun K => c_zBeginC (H := K) zS .no (clk 10005000)
  have q1 := fun K => c_clockZ (H := K) (t := 10005000) (by decide)
  have q2 := fun K => c_clockZ (H := K) (t := 20005000) (by decide)
  have px := fun K => c_ref7Parse (H := K) tyS (by decide)
  have af := fun K (hG : GlobZ K) => c_zAfter hG.tab zS .no xS_ok.1 (m := 59) zS_may xS_ok.2 (by decide) zS_aft
  have my := fun K => c_zMay (H := K) zS .no
  have o1 := fun K => c_zOffsetAt (H := K) zS .no 10000799
  have o2 := fun K => c_zOffsetAt (H := K) zS .no 10000800
  have tx := fun K (hG : GlobZ K) => c_zText hG zS .no
  have eq := fun K => c_eq64 (H := K) [19997800, 20001400] [19997800, 20001400] .no .full (by decide) (by decide)
  have sm := c_someZ (H := H)
  rw [zS_m1.1, zS_m1.2] at m1
  rw [zS_m2.1, zS_m2.2] at m2
  rw [zS_b1.1, zS_b1.2] at b1
  rw [xS_eq] at px
  rw [zS_may] at my
  rw [zS_o1] at o1
  rw [zS_o2] at o2
  rw [zS_text] at tx
  generalize clk 10005000 = k1 at *
  generalize clk 20005000 = k2 at *
  generalize zS = z at *
  generalize xS = x at *
  refine ACalls.into Tryz.func25 rfl Tryz.ntmps25 Tryz.results25 (by simp) ?_
  simp -implicitDefEqProofs
  refine ACall.eq sm ?_
  simp -implicitDefEqProofs
  refine AAlloc.intro fun c1 h1 => ?_
  simp -implicitDefEqProofs
  generalize hK : Heap.set _ c1 _ = K1
  have g1 : K1 c1 = some (.cells (zC z .no) 55) := by rw [← hK]; simp [Heap.set]
  have kG : GlobZ K1 := by rw [← hK]; exact hG.new h1
  have kW : HWk H K1 := by rw [← hK]; exact HWk.new h1 (HWk.refl _)
  clear hK
  refine go_draw 8 f_mixed (by decide +kernel) ?_
  simp -implicitDefEqProofs [g1]
  refine AQS.eq (q1 _) ?_
  simp -implicitDefEqProofs
  refine AQS.eq (m1 _) ?_
  simp -implicitDefEqProofs
  refine go_draw 8 f_mixed (by decide +kernel) ?_
  simp -implicitDefEqProofs [g1]
  refine AQS.eq (q1 _) ?_
  simp -implicitDefEqProofs
  refine AQS.eq (b1 _) ?_
  simp -implicitDefEqProofs [optI]
  refine go_draw 8 f_mixed (by decide +kernel) ?_
  simp -implicitDefEqProofs [g1]
  refine AQS.eq (q2 _) ?_
  simp -implicitDefEqProofs
  refine AQS.eq (m2 _) ?_
  simp -implicitDefEqProofs
  refine ACall.eq (px _) ?_
  simp -implicitDefEqProofs
  refine AAlloc.intro fun c8 h8 => ?_
  have n18 : c1 ≠ c8 := by intro e; subst e; rw [g1] at h8; cases h8
  simp -implicitDefEqProofs [n18, g1]
  generalize hK : Heap.set K1 c8 _ = K2
  have g2 : K2 c1 = some (.cells (zC z .no) 55) := by rw [← hK]; simp [Heap.set, n18, g1]
  have kG2 : GlobZ K2 := by rw [← hK]; exact kG.new h8
  have kW2 : HWk H K2 := by rw [← hK]; exact HWk.new (kW.none h8) kW
  clear hK
  refine ACall.eq (af _ kG2) ?_
  simp -implicitDefEqProofs [g2, optI, errI]
  refine ACall.eq (my _) ?_
  simp -implicitDefEqProofs [g2]
  refine ACall.eq (o1 _) ?_
  simp -implicitDefEqProofs [g2]
  refine ACall.eq (o2 _) ?_
  simp -implicitDefEqProofs [g2]
  refine ACall.eq (tx _ kG2) ?_
  simp -implicitDefEqProofs [i64]
  refine ACall.eq (eq _) ?_
  simp -implicitDefEqProofs
  exact kW2
end Go.Proofs.YtmoncokklkiikaaGreatDoor
namespace Go.Proofs.YtmoncokklkiikaaGreatDoor
open Rg Go
variable {H : Heap}
theorem c_ref5Split_bad {t : Int} (h : t < 0 ∨ 13569465600 ≤ t) : AOk Tryz.prog 40 [.sc (.int .i64 t)] H (.tup [cAV clk0, .sc (.int .i64 50)]) H := by
  refine ACalls.into Tryz.func40 rfl Tryz.ntmps40 Tryz.results40 (by simp) ?_
  simp -implicitDefEqProofs
  refine AAlloc.intro fun b2 h2 => ?_
  by_cases h0 : t < 0
  · simp -implicitDefEqProofs [h0, clk0]
    exact HWk.new h2 (HWk.refl _)
  · have h1 : 13569465600 ≤ t := by omega
    simp -implicitDefEqProofs [h0, h1, clk0]
    exact HWk.new h2 (HWk.refl _)
theorem c_ref5SplitI (u : Int) : AOk Tryz.prog 40 [.sc (.int .i64 u)] H (.tup [cAV (splitI u), .sc (.int .i64 (splitE u))]) H := by
  unfold splitI splitE
  by_cases h : 0 ≤ u ∧ u < 13569465600
  · rw [if_pos h, if_pos h]
    obtain ⟨n, rfl⟩ := Int.eq_ofNat_of_zero_le h.1
    exact c_ref5Split (by omega)
  · rw [if_neg h, if_neg h]
    exact c_ref5Split_bad (by omega)
theorem c_heavyZ (z : Zn) (t : Rg.Tok) : AOk Tryz.prog 26 [zAV z t] H (.sc (.bool (decide (100 < z.l.length)))) H := by
  refine ACalls.into Tryz.func26 rfl Tryz.ntmps26 Tryz.results26 (by simp) ?_
  simp -implicitDefEqProofs
  refine AAlloc.intro fun b1 h1 => ?_
  have e : ((100 : Int) < (z.l.length : Int)) ↔ 100 < z.l.length := by omega
  simp -implicitDefEqProofs [e]
  exact HWk.new h1 (HWk.refl _)
theorem tells_no {z : Zn} (h : mayZ z = false) (m : Int) (c : Clk) : localE z m = 2 ∧ momentsZ z c = [] ∧ argE z c = 2 ∧ beginC z c = none ∧ beginE z c = 2 ∧ offsetZ z m = 0 := by
  unfold localE momentsZ argE beginC beginE offsetZ
  simp [h]
theorem tells_c_no {z : Zn} {c : Clk} (h : mayC c = false) : momentsZ z c = [] ∧ argE z c = 2 ∧ beginC z c = none ∧ beginE z c = 2 ∧ joinE c = 2 := by
  unfold momentsZ argE beginC beginE joinE
  simp [h]
theorem tells_c {z : Zn} {c : Clk} (h0 : mayZ z = true) (h : mayC c = true) : momentsZ z c = momZ z (momI c) ∧ argE z c = 0 ∧ beginC z c = beginZ z (momI c) ∧ beginE z c = errI (beginZ z (momI c)) ∧ joinE c = 0 := by
  unfold momentsZ argE beginC beginE joinE
  rw [if_pos ⟨h0, h⟩, if_pos ⟨h0, h⟩, if_pos ⟨h0, h⟩, if_pos ⟨h0, h⟩, if_pos h]
  exact ⟨rfl, rfl, rfl, rfl, rfl⟩
theorem begin_pos {z : Zn} (hz : mayZ z = true) {l a : Int} (h : beginZ z l = some a) : 0 ≤ a := (begin_some hz h).1
set_option maxHeartbeats 8000000 in
theorem zoneTells_ok (hG : GlobZ H) (z : Zn) (tk : Rg.Tok) (m : Int) (c : Clk) : AOk Tryz.prog 6 [zAV z tk, .sc (.int .i64 m), cAV c] H (.sc (.bool true)) H := by
  refine ACalls.into Tryz.func6 rfl Tryz.ntmps6 Tryz.results6 (by simp) ?_
  simp -implicitDefEqProofs
  refine AAlloc.intro fun b3 h3 => ?_
  simp -implicitDefEqProofs
  refine AAlloc.intro fun b5 h5 => ?_
  have n35 : b3 ≠ b5 := by intro e; subst e; simp [Heap.set] at h5
  have e5 : H b5 = none := (HLe.set_fresh h3).none h5
  simp -implicitDefEqProofs
  generalize hK : Heap.set _ b5 _ = K1
  have g3 : K1 b3 = some (.cells (zC z tk) 55) := by rw [← hK]; simp [Heap.set, n35]
  have g5 : K1 b5 = some (.cells [.sc (.int .i64 c.y), .sc (.int .i64 c.m), .sc (.int .i64 c.d), .sc (.int .i64 c.h), .sc (.int .i64 c.mi), .sc (.int .i64 c.s), .sc (.int .i64 c.w)] 48) := by rw [← hK]; simp [Heap.set]
  have kG : GlobZ K1 := by rw [← hK]; exact (hG.new h3).new h5
  have kW : HWk H K1 := by rw [← hK]; exact HWk.new e5 (HWk.new h3 (HWk.refl _))
  clear hK
  refine ACall.eq (c_known36 kG) ?_
  simp -implicitDefEqProofs [g3]
  refine ACall.eq (c_heavyZ z tk) ?_
  by_cases hv : 100 < z.l.length
  · simp -implicitDefEqProofs [hv]
    exact kW
  · simp -implicitDefEqProofs [hv, g3]
    refine ACall.eq (c_ofZ z tk (by omega)) ?_
    simp -implicitDefEqProofs
    refine AAlloc.intro fun b7 h7 => ?_
    have n37 : b3 ≠ b7 := by intro e; subst e; rw [g3] at h7; cases h7
    have n57 : b5 ≠ b7 := by intro e; subst e; rw [g5] at h7; cases h7
    simp -implicitDefEqProofs
    generalize hK : Heap.set K1 b7 _ = K2
    have g32 : K2 b3 = some (.cells (zC z tk) 55) := by rw [← hK]; simp [Heap.set, n37, g3]
    have g52 : K2 b5 = some (.cells [.sc (.int .i64 c.y), .sc (.int .i64 c.m), .sc (.int .i64 c.d), .sc (.int .i64 c.h), .sc (.int .i64 c.mi), .sc (.int .i64 c.s), .sc (.int .i64 c.w)] 48) := by rw [← hK]; simp [Heap.set, n57, g5]
    have g72 : K2 b7 = some (.cells (zC z .no) 61) := by rw [← hK]; simp [Heap.set]
    have kG2 : GlobZ K2 := by rw [← hK]; exact kG.new h7
    have kW2 : HWk H K2 := by rw [← hK]; exact HWk.new (kW.none h7) kW
    clear hK
    refine ACall.eq (c_rMay z .no (by omega)) ?_
    simp -implicitDefEqProofs [g32]
    refine ACall.eq (c_zMay z tk) ?_
    simp -implicitDefEqProofs [g32]
    refine ACall.eq (c_zLocal z tk m) ?_
    simp -implicitDefEqProofs
    refine AAlloc.intro fun b9 h9 => ?_
    have n39 : b3 ≠ b9 := by intro e; subst e; rw [g32] at h9; cases h9
    have n59 : b5 ≠ b9 := by intro e; subst e; rw [g52] at h9; cases h9
    have n79 : b7 ≠ b9 := by intro e; subst e; rw [g72] at h9; cases h9
    simp -implicitDefEqProofs [n39, n59, n79, g32, g52]
    generalize hK : Heap.set K2 b9 _ = K3
    have g33 : K3 b3 = some (.cells (zC z tk) 55) := by rw [← hK]; simp [Heap.set, n39, g32]
    have g53 : K3 b5 = some (.cells [.sc (.int .i64 c.y), .sc (.int .i64 c.m), .sc (.int .i64 c.d), .sc (.int .i64 c.h), .sc (.int .i64 c.mi), .sc (.int .i64 c.s), .sc (.int .i64 c.w)] 48) := by rw [← hK]; simp [Heap.set, n59, g52]
    have g73 : K3 b7 = some (.cells (zC z .no) 61) := by rw [← hK]; simp [Heap.set, n79, g72]
    have g93 : K3 b9 = some (.cells [.sc (.int .i64 (localC z m).y), .sc (.int .i64 (localC z m).m), .sc (.int .i64 (localC z m).d), .sc (.int .i64 (localC z m).h), .sc (.int .i64 (localC z m).mi), .sc (.int .i64 (localC z m).s), .sc (.int .i64 (localC z m).w)] 48) := by rw [← hK]; simp [Heap.set]
    have kG3 : GlobZ K3 := by rw [← hK]; exact kG2.new h9
    have kW3 : HWk H K3 := by rw [← hK]; exact HWk.new (kW2.none h9) kW2
    clear hK
    refine ACall.eq (c_zMomentsC z tk c) ?_
    simp -implicitDefEqProofs [g33, g53]
    refine ACall.eq (c_zBeginC z tk c) ?_
    simp -implicitDefEqProofs [g53]
    refine ACall.eq (c_join5 c) ?_
    cases hz : mayZ z with
    | false =>
      obtain ⟨q1, q2, q3, q4, q5, q6⟩ := tells_no hz m c
      rw [q1, q2, q3, q4, q5]
      simp -implicitDefEqProofs [g33]
      refine ACall.eq (c_zOffsetAt z tk m) ?_
      rw [q6]
      simp -implicitDefEqProofs [optI]
      exact kW3
    | true =>
      have hoz : offsetZ z m = atZ z m := by unfold offsetZ; rw [if_pos hz]
      have hoa := fun K => c_zOffsetAt (H := K) z tk m
      rw [hoz] at hoa
      simp -implicitDefEqProofs
      refine go_draw 7 f_mixed (by decide +kernel) ?_
      simp -implicitDefEqProofs [g33]
      refine AQS.eq (hoa _) ?_
      simp -implicitDefEqProofs [g73]
      refine AQS.eq (c_rAt z .no m hz) ?_
      cases hm : momOk m with
      | false =>
        have hlc : localC z m = clk0 := by unfold localC; rw [if_neg (by rw [hm]; simp)]
        have hle : localE z m = 50 := by unfold localE; rw [if_pos hz, if_neg (by rw [hm]; simp)]
        have hm' : m < 0 ∨ 13569465600 ≤ m := by unfold momOk at hm; simp at hm; omega
        rw [hlc] at g93 ⊢
        rw [hle]
        by_cases m0 : m < 0
        · simp -implicitDefEqProofs [m0, g93, clk0]
          cases hc : mayC c with
          | false =>
            obtain ⟨q1, q2, q3, q4, q5⟩ := tells_c_no (z := z) hc
            rw [q1, q2, q3, q4, q5]
            simp -implicitDefEqProofs [optI]
            exact kW3
          | true =>
            obtain ⟨q1, q2, q3, q4, q5⟩ := tells_c hz hc
            rw [q1, q2, q3, q4, q5]
            have hrm := fun K => c_rMoments (H := K) z .no (momI_lt c).1 (momI_lt c).2 hz
            have hrb := fun K => c_rBegin (H := K) z .no (momI_lt c).1 (momI_lt c).2 hz
            have hml := mom_len hz (L := momZ z (momI c)) (List.Pairwise.imp (fun h => Int.ne_of_lt h) (mom_sorted z _)) fun t ht => (mom_mem hz).1 ht
            have hbp := fun a => begin_pos hz (l := momI c) (a := a)
            unfold beginI at hrb
            generalize momZ z (momI c) = M at *
            have heq := fun K => c_eq64 (H := K) M M .no .no (by omega) (by omega)
            generalize beginZ z (momI c) = B at *
            simp -implicitDefEqProofs [g73]
            refine ACall.eq (hrb _) ?_
            simp -implicitDefEqProofs [g73]
            refine ACall.eq (hrm _) ?_
            simp -implicitDefEqProofs
            refine ACall.eq (heq _) ?_
            cases B with
            | none =>
              simp -implicitDefEqProofs [optI, errI]
              exact kW3
            | some a =>
              have ha := hbp a rfl
              have ha' : ¬ a < 0 := by omega
              simp -implicitDefEqProofs [optI, errI, ha, ha']
              exact kW3
        · have m1 : 13569465600 ≤ m := by omega
          simp -implicitDefEqProofs [m0, m1, g93, clk0]
          cases hc : mayC c with
          | false =>
            obtain ⟨q1, q2, q3, q4, q5⟩ := tells_c_no (z := z) hc
            rw [q1, q2, q3, q4, q5]
            simp -implicitDefEqProofs [optI]
            exact kW3
          | true =>
            obtain ⟨q1, q2, q3, q4, q5⟩ := tells_c hz hc
            rw [q1, q2, q3, q4, q5]
            have hrm := fun K => c_rMoments (H := K) z .no (momI_lt c).1 (momI_lt c).2 hz
            have hrb := fun K => c_rBegin (H := K) z .no (momI_lt c).1 (momI_lt c).2 hz
            have hml := mom_len hz (L := momZ z (momI c)) (List.Pairwise.imp (fun h => Int.ne_of_lt h) (mom_sorted z _)) fun t ht => (mom_mem hz).1 ht
            have hbp := fun a => begin_pos hz (l := momI c) (a := a)
            unfold beginI at hrb
            generalize momZ z (momI c) = M at *
            have heq := fun K => c_eq64 (H := K) M M .no .no (by omega) (by omega)
            generalize beginZ z (momI c) = B at *
            simp -implicitDefEqProofs [g73]
            refine ACall.eq (hrb _) ?_
            simp -implicitDefEqProofs [g73]
            refine ACall.eq (hrm _) ?_
            simp -implicitDefEqProofs
            refine ACall.eq (heq _) ?_
            cases B with
            | none =>
              simp -implicitDefEqProofs [optI, errI]
              exact kW3
            | some a =>
              have ha := hbp a rfl
              have ha' : ¬ a < 0 := by omega
              simp -implicitDefEqProofs [optI, errI, ha, ha']
              exact kW3
      | true =>
        have hm' := momOk_iff.1 hm
        have m0 : ¬ m < 0 := by omega
        have m1 : ¬ 13569465600 ≤ m := by omega
        have ho := offOk_iff.1 (at_ok hz m)
        obtain ⟨u, hu⟩ : ∃ u, m + atZ z m = u := ⟨_, rfl⟩
        have hw : IntKind.i64.wrap (m + atZ z m) = u := by rw [wrap_i64 (by omega) (by omega), hu]
        have hw2 : IntKind.i64.wrap (atZ z m) = atZ z m := wrap_i64 (by omega) (by omega)
        have hlc : localC z m = splitI u := by unfold localC; rw [if_pos ⟨hz, hm⟩, hu]
        have hle : localE z m = splitE u := by unfold localE; rw [if_pos hz, if_pos hm, hu]
        have hsp := fun K => c_ref5SplitI (H := K) u
        rw [hlc] at g93 ⊢
        rw [hle]
        generalize splitI u = w at *
        generalize splitE u = we at *
        simp -implicitDefEqProofs [m0, m1, g73]
        refine ACall.eq (c_rAt z .no m hz) ?_
        simp -implicitDefEqProofs [hw, hw2]
        refine ACall.eq (hsp _) ?_
        simp -implicitDefEqProofs
        refine AAlloc.intro fun b17 h17 => ?_
        have n97 : b9 ≠ b17 := by intro e; subst e; rw [g93] at h17; cases h17
        have n77 : b7 ≠ b17 := by intro e; subst e; rw [g73] at h17; cases h17
        have kW4 : ∀ o, HWk H (K3.set b17 o) := fun o => HWk.new (kW3.none h17) kW3
        simp -implicitDefEqProofs [n97, n77, g93, g73]
        cases hc : mayC c with
        | false =>
          obtain ⟨q1, q2, q3, q4, q5⟩ := tells_c_no (z := z) hc
          rw [q1, q2, q3, q4, q5]
          simp -implicitDefEqProofs [optI]
          exact (kW4 _)
        | true =>
          obtain ⟨q1, q2, q3, q4, q5⟩ := tells_c hz hc
          rw [q1, q2, q3, q4, q5]
          have hrm := fun K => c_rMoments (H := K) z .no (momI_lt c).1 (momI_lt c).2 hz
          have hrb := fun K => c_rBegin (H := K) z .no (momI_lt c).1 (momI_lt c).2 hz
          have hml := mom_len hz (L := momZ z (momI c)) (List.Pairwise.imp (fun h => Int.ne_of_lt h) (mom_sorted z _)) fun t ht => (mom_mem hz).1 ht
          have hbp := fun a => begin_pos hz (l := momI c) (a := a)
          unfold beginI at hrb
          generalize momZ z (momI c) = M at *
          have heq := fun K => c_eq64 (H := K) M M .no .no (by omega) (by omega)
          generalize beginZ z (momI c) = B at *
          simp -implicitDefEqProofs [n77, g73]
          refine ACall.eq (hrb _) ?_
          simp -implicitDefEqProofs [n77, g73]
          refine ACall.eq (hrm _) ?_
          simp -implicitDefEqProofs
          refine ACall.eq (heq _) ?_
          cases B with
          | none =>
            simp -implicitDefEqProofs [optI, errI]
            exact (kW4 _)
          | some a =>
            have ha := hbp a rfl
            have ha' : ¬ a < 0 := by omega
            simp -implicitDefEqProofs [optI, errI, ha, ha']
            exact (kW4 _)
end Go.Proofs.YtmoncokklkiikaaGreatDoor
namespace Go.Proofs.YtmoncokklkiikaaGreatDoor
open Rg Go Go.RowKit
theorem eq_ctz : (Rows.laid_math_bits_deBruijn64tab : DataW Unit) = Lib.tabData .u8 (Lib.deBruijn64tab.map fun n : Nat => (n : Int)) := by kernel_rfl
def ctzUs : List Value := Lib.deBruijn64tab.map fun n : Nat => .int .u8 n
def firstUs : List Value := (List.range 256).map fun c => .int .u8 (Lib.firstT c)
def acceptUs : List Value := (List.range 16).flatMap fun i => [.int .u8 (Lib.accLo i), .int .u8 (Lib.accHi i)]
theorem ctz_reads {W : World} {l : List (String × DataW Unit)} (hL : laidMet Tryz.prog l W) (h1 : ("math/bits.deBruijn64tab", Rows.laid_math_bits_deBruijn64tab) ∈ l) (j : Nat) (u : Value) (hu : ctzUs[j]? = some u) : W.cell? ⟨0, j, none⟩ = some u := by
  obtain ⟨g, t, cs, fuel, p, hg, hty, hvar, hd⟩ := Lib.laidMet.reads hL h1
  obtain rfl : 0 = g := Option.some.inj ((show Tryz.prog.globalNamed "math/bits.deBruijn64tab" = some 0 by kernel_rfl).symm.trans hg)
  obtain rfl : 275 = t := Option.some.inj ((show (Tryz.prog.globals[0]?).map (·.type) = some 275 by kernel_rfl).symm.trans hty)
  rw [eq_ctz] at hd
  have hcs := Lib.cells_of_tab (e := 5) (n := 64) (by kernel_rfl) (by kernel_rfl) (by kernel_rfl) (by kernel_rfl) hd
  rw [World.var?_cell hg hvar j, ← Array.getElem?_toList, hcs, ← hu]
  unfold ctzUs
  simp [Function.comp_def]
def setCells (cs : Array Value) : Obj → Obj
  | .cells _ t fr => .cells cs t fr
  | o => o
noncomputable def low : Nat := (World.holding Tryz.prog default ⟨#[], #[], []⟩).heap.size
noncomputable def laidWorld (os : Os) : World :=
  let w0 := World.holding Tryz.prog os ⟨#[.cells #[.string ⟨#[105, 110, 118, 97, 108, 105, 100, 32, 115, 121, 110, 116, 97, 120]⟩] 318, .cells #[.string ⟨#[118, 97, 108, 117, 101, 32, 111, 117, 116, 32, 111, 102, 32, 114, 97, 110, 103, 101]⟩] 318], #[], []⟩
  { w0 with heap := ((((((w0.heap.modify 0 (setCells ctzUs.toArray)).modify 7 (setCells (Lib.deBruijn32tab.map fun n : Nat => Value.int .u8 n).toArray)).modify 5 (setCells firstUs.toArray)).modify 6 (setCells acceptUs.toArray)).modify 1
    (setCells ((List.range 20).map fun n => Value.int .u64 (10 ^ n)).toArray)).modify 2 (setCells #[.iface 316 (.pointer (some ⟨low, 0, none⟩))])).modify 3 (setCells #[.iface 316 (.pointer (some ⟨low + 1, 0, none⟩))]) }
theorem own : ownKnob Tryz.prog.godebug = none := by kernel_rfl
end Go.Proofs.YtmoncokklkiikaaGreatDoor
