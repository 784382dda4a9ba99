/- Which zone a text tells: the program's walk. ZoneTexts. What a law's row lists of package variables, as the start heap of its run; a world that meets it. -/
import Derived.Test.YtmoncokklkiikaaGreatDoorP21
import Derived.Test.YtmoncokklkiikaaGreatDoorP20
import Derived.Test.YtmoncokklkiikaaGreatDoorP13
import Derived.Test.YtmoncokklkiikaaGreatDoorP08
import Derived.Lib.LaidU8
set_option linter.unusedSimpArgs false
set_option linter.unusedVariables false
set_option linter.unnecessarySimpa false
namespace Go.Proofs.YtmoncokklkiikaaGreatDoor
open Rg Go Go.RowKit
variable {H : Heap}
theorem atRhoT {P : Program} {n : Nat} {Q : Post} {ρ : Nat → AV} {k : List AItem} {K : Heap} (h : ∀ ρ1, ρ1 = ρ → AGo P n Q k ρ1 K) : AGo P n Q k ρ K := h ρ rfl
theorem sp_count (c : UInt8) : ∀ s : List UInt8, (sp c s).length ≤ s.length + 1
  | [] => by simp [sp]
  | x :: r => by
    have ih := sp_count c r
    unfold sp
    split
    · simp; omega
    · split
      · simp
      · rename_i h; rw [h] at ih; simp at ih ⊢; omega
theorem RowZ.setO {sz : Nat} {e T : TypeId} {H0 K : Heap} {c n p : Nat} {F : Rg.Tok → List AV} {o o' : AObj} (h : RowZ sz e T H0 c n F K) (hp0 : H0 p = none) (hpc : p ≠ c) (hp : K p = some o) (ho : ∀ n cap sz e, o ≠ .open n cap sz e) : RowZ sz e T H0 c n F (K.set p o') := by
  obtain ⟨t, h1, h2⟩ := h.row
  refine ⟨HLe.set_new h.le hp0, h.no, t, by simp [Heap.set, hpc.symm, h1], h2.imp id ?_⟩
  rintro ⟨g, cap, g1, g2, g3, g4⟩
  have : g ≠ p := by rintro rfl; rw [hp] at g4; cases g4; exact ho _ _ _ _ rfl
  exact ⟨g, cap, g1, g2, g3, by simp [Heap.set, this, g4]⟩
theorem RowZ.grows' {sz : Nat} {e T : TypeId} {H0 K : Heap} {c : Nat} {F : Rg.Tok → List AV} {xs : List AV} (h : RowZ sz e T H0 c xs.length F K) :
    ∃ t G0 G, K c = some (.cells (F t) T) ∧ Grows G0 xs sz e t G ∧ HLe G K ∧ HLe H0 G0 ∧ G0 c = some (.cells (F t) T) ∧ ∀ p o, K p = some o → (∀ n cap sz e, o ≠ .open n cap sz e) → G0 p = some o := by
  obtain ⟨t, h1, ⟨rfl, hn⟩ | ⟨g, cap, h2, h3, rfl, h4⟩⟩ := h.row
  · obtain rfl := List.length_eq_zero_iff.1 hn
    exact ⟨_, K, K, h1, .zero, HLe.refl _, h.le, h1, fun _ _ h _ => h⟩
  · refine ⟨_, K.del g, (K.del g).set g (.open xs.length cap sz e), h1, .inr ⟨g, cap, by simp [Heap.del], rfl, rfl⟩, fun b ob hb => ?_, HLe.del_new h.le h3, by simp [Heap.del, Ne.symm h2, h1], fun p o hp ho => ?_⟩
    · by_cases hbg : b = g
      · subst hbg
        simp only [Heap.set, if_true] at hb
        rw [← hb]; exact h4
      · simpa [Heap.set, Heap.del, hbg] using hb
    · have : p ≠ g := by rintro rfl; rw [h4] at hp; cases hp; exact ho _ _ _ _ rfl
      simp [Heap.del, this, hp]
theorem RowZ.cell {sz : Nat} {e T : TypeId} {H0 K : Heap} {c n : Nat} {F F' : Rg.Tok → List AV} {t : Rg.Tok} {cs : List AV} (h : RowZ sz e T H0 c n F K) (hc : K c = some (.cells cs T)) (ht : ∀ t', cs = F t' → F' t' = F' t) : RowZ sz e T H0 c n F' (K.set c (.cells (F' t) T)) := by
  obtain ⟨t', h1, h2⟩ := h.row
  rw [hc] at h1
  have h1' : cs = F t' := by simpa using h1
  refine ⟨HLe.set_new h.le h.no, h.no, t', by simp [Heap.set, ht t' h1'], h2.imp id ?_⟩
  rintro ⟨g, cap, g1, g2, g3, g4⟩
  exact ⟨g, cap, g1, g2, g3, by simp [Heap.set, g1, g4]⟩
structure StP (s : List UInt8) (K1 : Heap) (b4 b5 b6 : Nat) (ok : Bool) (f : Int) (Lz : List (Int × Int)) (j : Nat) (K : Heap) : Prop where
  row : RowZ 2 69 55 K1 b4 Lz.length (fun t => [.sc (.int .i64 f), .sl (Lz.map chAV) t]) K
  k5 : K b5 = some (.cells [.sc (.bool ok)] 4)
  k6 : K b6 = some (.cells [.sc (.int .i64 (j : Int))] 3)
def JPar (s : List UInt8) (G : Option (Bool × Int × List (Int × Int))) (K1 : Heap) (b4 b5 b6 l D c1 c2 c3 : Nat) (r : ARec) (j : Nat) (K : Heap) : Prop :=
  ∃ ok f Lz, goZ j ((sp 32 s).drop j) (ok, f, Lz) = G ∧ j ≤ (sp 32 s).length ∧ Lz.length ≤ j ∧ StP s K1 b4 b5 b6 ok f Lz j K ∧ K l = some (.lrec r) ∧ K D = some .dfr ∧ K c1 = some (.cells [str [32]] 9) ∧ K c3 = some (.cells [.sc (.int .i64 0)] 3) ∧ (∃ x, K c2 = some (.cells [str x] 9))
def XPar (H : Heap) (G : Option (Bool × Int × List (Int × Int))) (b2 b3 l D : Nat) (K : Heap) : Prop :=
  G = none ∧ K D = some .dfr ∧ K b2 = some (.cells [.sc (.int .i64 0), .sl [] .nil] 55) ∧ K b3 = some (.cells [.sc (.int .i64 4)] 29) ∧ HWk H K ∧ ∃ r, K l = some (.lrec r) ∧ r.st ≠ .busy ∧ r.pe = some .ret
set_option maxHeartbeats 8000000 in
theorem c_zParse (hG : GlobE H) (s : List UInt8) (hs : s.length ≤ 1000000) : AOk Tryz.prog 48 [str s] H (.tup [zAV (zd (parseZ s)) .no, .sc (.int .i64 (if (parseZ s).isSome = true then 0 else 4))]) H := by
  refine ACalls.into Tryz.func48 rfl Tryz.ntmps48 Tryz.results48 (by simp) ?_
  simp -implicitDefEqProofs
  refine AAlloc.intro fun b2 h2 => ?_
  simp -implicitDefEqProofs
  refine AAlloc.intro fun b3 h3 => ?_
  have n23 : b2 ≠ b3 := by intro e; subst e; simp [Heap.set] at h3
  have e3 : H b3 = none := (HLe.set_fresh h2).none h3
  by_cases hlen : 4000 < s.length
  · have e : parseZ s = none := by unfold parseZ; rw [if_pos hlen]
    rw [e]
    have hlen' : (4000 : Int) < (s.length : Int) := by omega
    simp -implicitDefEqProofs [hlen, hlen', n23, n23.symm, zd]
    repeat (first | exact HWk.refl _ | refine HWk.new (by assumption) ?_)
  · have hlen' : ¬ (4000 : Int) < (s.length : Int) := by omega
    simp -implicitDefEqProofs [hlen, hlen', n23]
    generalize hK1 : Heap.set _ b3 _ = K1
    have k2 : K1 b2 = some (.cells [.sc (.int .i64 0), .sl [] .nil] 55) := by rw [← hK1]; simp [Heap.set, n23]
    have k3 : K1 b3 = some (.cells [.sc (.int .i64 0)] 29) := by rw [← hK1]; simp [Heap.set]
    have kG : GlobE K1 := by rw [← hK1]; exact (hG.new h2).new h3
    have kW : HWk H K1 := by rw [← hK1]; exact HWk.new e3 (HWk.new h2 (HWk.refl _))
    clear hK1 h3
    refine AAlloc.intro fun b4 h4 => ?_
    simp -implicitDefEqProofs
    refine AAlloc.intro fun b5 h5 => ?_
    have n45 : b4 ≠ b5 := by intro e; subst e; simp [Heap.set] at h5
    have e5 : K1 b5 = none := (HLe.set_fresh h4).none h5
    simp -implicitDefEqProofs
    refine AAlloc.intro fun b6 h6 => ?_
    have n46 : b4 ≠ b6 := by intro e; subst e; simp [Heap.set, n45] at h6
    have n56 : b5 ≠ b6 := by intro e; subst e; simp [Heap.set] at h6
    have e6 : K1 b6 = none := by simpa [Heap.set, n46.symm, n56.symm] using h6
    simp -implicitDefEqProofs
    generalize hK2 : Heap.set _ b6 _ = K2
    have hR : RowZ 2 69 55 K1 b4 0 (fun t => [.sc (.int .i64 0), .sl [] t]) K2 := by
      rw [← hK2]
      refine ⟨?_, h4, .nil, by simp [Heap.set, n45, n46], .inl ⟨rfl, rfl⟩⟩
      repeat (first | exact HLe.refl _ | refine HLe.set_new ?_ (by assumption))
    have q5 : K2 b5 = some (.cells [.sc (.bool true)] 4) := by rw [← hK2]; simp [Heap.set, n56]
    have q6 : K2 b6 = some (.cells [.sc (.int .i64 (0 : Nat))] 3) := by rw [← hK2]; simp [Heap.set]
    clear hK2 h5 h6
    refine ACall.intro (c_splitSeq s 32) fun v K3 hv => ?_
    obtain ⟨c1, c2, c3, rfl, hle, d1, d2, d3, f1, f2, f3, m12, m32⟩ := hv
    have k22 := hle _ _ (hR.le _ _ k2)
    have k23 := hle _ _ (hR.le _ _ k3)
    have p5 := hle _ _ q5
    have p6 := hle _ _ q6
    have i1 : K1 c1 = none := hR.le.none f1
    have i2 : K1 c2 = none := hR.le.none f2
    have i3 : K1 c3 = none := hR.le.none f3
    have nf : ∀ {c : Nat} {o : AObj}, K2 c = some o → c1 ≠ c ∧ c2 ≠ c ∧ c3 ≠ c := by
      rintro c o hc
      refine ⟨?_, ?_, ?_⟩
      · rintro rfl; rw [f1] at hc; cases hc
      · rintro rfl; rw [f2] at hc; cases hc
      · rintro rfl; rw [f3] at hc; cases hc
    obtain ⟨t4, q4, _⟩ := hR.row
    obtain ⟨u14, u24, u34⟩ := nf q4
    obtain ⟨u15, u25, u35⟩ := nf q5
    obtain ⟨u16, u26, u36⟩ := nf q6
    have hR3 : RowZ 2 69 55 K1 b4 0 (fun t => [.sc (.int .i64 0), .sl [] t]) K3 := by
      obtain ⟨r1, r2, t, r3, r4⟩ := hR
      refine ⟨r1.trans hle, r2, t, hle _ _ r3, r4.imp id ?_⟩
      rintro ⟨g, cap, g1, g2, g3, g4⟩
      exact ⟨g, cap, g1, g2, g3, hle _ _ g4⟩
    have kG3 : GlobE K3 := (kG.le hR.le).le hle
    clear hle hR q4 q5 q6 f1 f2 f3 nf
    have hpz : parseZ s = finZ s (goZ 0 (sp 32 s) (true, 0, [])) := by unfold parseZ; rw [if_neg hlen]
    obtain ⟨G, hGo⟩ : ∃ G, goZ 0 (sp 32 s) (true, 0, []) = G := ⟨_, rfl⟩
    rw [hGo] at hpz
    have hcount := sp_count 32 s
    have hwl := sp_len 32 s
    simp -implicitDefEqProofs
    refine atRhoT fun ρ1 hρ1 => ?_
    have r0 : ρ1 0 = str s := by rw [hρ1]; simp
    have r2 : ρ1 2 = .sc (.pointer (some ⟨b2, 0, none⟩)) := by rw [hρ1]; simp
    have r3 : ρ1 3 = .sc (.pointer (some ⟨b3, 0, none⟩)) := by rw [hρ1]; simp
    have r4 : ρ1 4 = .sc (.pointer (some ⟨b4, 0, none⟩)) := by rw [hρ1]; simp
    have r5 : ρ1 5 = .sc (.pointer (some ⟨b5, 0, none⟩)) := by rw [hρ1]; simp
    have r6 : ρ1 6 = .sc (.pointer (some ⟨b6, 0, none⟩)) := by rw [hρ1]; simp
    have r18 : ρ1 18 = .sc (.func (.func 203) #[] #[.pointer (some ⟨c1, 0, none⟩), .pointer (some ⟨c2, 0, none⟩), .pointer (some ⟨c3, 0, none⟩)]) := by rw [hρ1]; simp
    clear hρ1
    refine AGo.rangeF (gf := 203) (lb := #[.pointer (some ⟨c1, 0, none⟩), .pointer (some ⟨c2, 0, none⟩), .pointer (some ⟨c3, 0, none⟩)])
      (fun D l _ K => K D = some .dfr ∧ ((∃ ok f Lz j, G = some (ok, f, Lz) ∧ Lz.length ≤ s.length + 1 ∧ StP s K1 b4 b5 b6 ok f Lz j K ∧ ∃ r, K l = some (.lrec r) ∧ r.st ≠ .busy ∧ r.pe = none) ∨
        (G = none ∧ K b2 = some (.cells [.sc (.int .i64 0), .sl [] .nil] 55) ∧ K b3 = some (.cells [.sc (.int .i64 4)] 29) ∧ HWk H K ∧ ∃ r, K l = some (.lrec r) ∧ r.st ≠ .busy ∧ r.pe = some .ret))) rfl r18 (by simp) ?_ ?_ ?_
    · intro D l hD hl
      generalize hr : ARec.mk _ _ _ _ _ _ _ _ = r0'
      have hst : r0'.st = .ready := by rw [← hr]
      have hpe : r0'.pe = none := by rw [← hr]
      have hps : r0'.ps.size = 1 := by rw [← hr]; rfl
      have hDl : D ≠ l := by intro e; subst e; simp [Heap.set] at hl
      have hl3 : K3 l = none := by simpa [Heap.set, hDl.symm] using hl
      have ne1 : ∀ {c : Nat} {o : AObj}, K3 c = some o → c ≠ D := by rintro c o hc rfl; rw [hc] at hD; cases hD
      have ne2 : ∀ {c : Nat} {o : AObj}, K3 c = some o → c ≠ l := by rintro c o hc rfl; rw [hc] at hl3; cases hl3
      have eD : K1 D = none := hR3.le.none hD
      have el : K1 l = none := hR3.le.none hl3
      obtain ⟨t4', q4, _⟩ := hR3.row
      have b4D := ne1 q4
      have b4l := ne2 q4
      have b5D := ne1 p5
      have b5l := ne2 p5
      have b6D := ne1 p6
      have b6l := ne2 p6
      have c1D := ne1 d1
      have c1l := ne2 d1
      have c2D := ne1 d2
      have c2l := ne2 d2
      have c3D := ne1 d3
      have c3l := ne2 d3
      refine (c_splitIt (l := l) (b1 := c1) (b2 := c2) (b3 := c3) (s := s) (c := 32) hs m12 m32
        (JPar s G K1 b4 b5 b6 l D c1 c2 c3 r0') (XPar H G b2 b3 l D)
        ?_ ?_ ?_ ?_ ?_).mono ?_
      · rintro j K ⟨ok, f, Lz, _, _, _, _, _, _, g1, g3, g2⟩
        exact ⟨g1, g3, g2⟩
      · rintro j K x ⟨ok, f, Lz, h1, h2, h3, ⟨s1, s2, s3⟩, gl, gD, g1, g3, ⟨y, g2⟩⟩
        refine ⟨ok, f, Lz, h1, h2, h3, ⟨s1.setO i2 u24 g2 (by simp), by simp [Heap.set, u25.symm, s2], by simp [Heap.set, u26.symm, s3]⟩, by simp [Heap.set, c2l.symm, gl], by simp [Heap.set, c2D.symm, gD], by simp [Heap.set, m12, g1], by simp [Heap.set, m32, g3], ⟨x, by simp [Heap.set]⟩⟩
      · rintro j K w x hj ⟨ok, f, Lz, h1, h2, h3, ⟨s1, s2, s3⟩, gl, gD, g1, g3, _⟩ g2
        have hwm := hwl w (List.mem_of_getElem? hj)
        have hjl : j < (sp 32 s).length := by
          refine Nat.lt_of_not_le fun h => ?_
          rw [List.getElem?_eq_none h] at hj
          cases hj
        have hdr : (sp 32 s).drop j = w :: (sp 32 s).drop (j + 1) := by
          rw [List.drop_eq_getElem_cons hjl]
          rw [List.getElem?_eq_getElem hjl] at hj
          rw [Option.some.inj hj]
        rw [hdr, goZ] at h1
        refine ACalls.round gl (by simp [hps]) ?_
        obtain ⟨r9, hr9⟩ : ∃ r9, r0' = r9 := ⟨_, rfl⟩
        subst hr
        simp -implicitDefEqProofs [aputs]
        refine AGo.bgn rfl gl rfl ?_
        rw [hr9]
        generalize hrb : ARec.mk _ _ _ _ _ _ _ _ = rb
        have hrb1 : ARec.mk .ready none rb.ps rb.asg rb.bod rb.dfr rb.n rb.ρ = r9 := by rw [← hrb, ← hr9]
        generalize hKb : Heap.set K l _ = Kb
        have rowb : RowZ 2 69 55 K1 b4 Lz.length (fun t => [.sc (.int .i64 f), .sl (Lz.map chAV) t]) Kb := by rw [← hKb]; exact s1.setO el b4l.symm gl (by simp)
        have t5 : Kb b5 = some (.cells [.sc (.bool ok)] 4) := by rw [← hKb]; simp [Heap.set, b5l, s2]
        have t6 : Kb b6 = some (.cells [.sc (.int .i64 (j : Int))] 3) := by rw [← hKb]; simp [Heap.set, b6l, s3]
        have tl : Kb l = some (.lrec rb) := by rw [← hKb]; simp [Heap.set]
        have tD : Kb D = some .dfr := by rw [← hKb]; simp [Heap.set, hDl, gD]
        have t1 : Kb c1 = some (.cells [str [32]] 9) := by rw [← hKb]; simp [Heap.set, c1l, g1]
        have t2 : Kb c2 = some (.cells [str x] 9) := by rw [← hKb]; simp [Heap.set, c2l, g2]
        have t3 : Kb c3 = some (.cells [.sc (.int .i64 0)] 3) := by rw [← hKb]; simp [Heap.set, c3l, g3]
        clear hKb s1 s2 s3 gl gD g1 g2 g3
        have b2l : b2 ≠ l := by rintro rfl; rw [k2] at el; cases el
        have b3l : b3 ≠ l := by rintro rfl; rw [k3] at el; cases el
        have b2D : b2 ≠ D := by rintro rfl; rw [k2] at eD; cases eD
        have b3D : b3 ≠ D := by rintro rfl; rw [k3] at eD; cases eD
        have tb2 := rowb.le _ _ k2
        have tb3 := rowb.le _ _ k3
        have kWb : HWk H Kb := kW.trans rowb.le.wk
        by_cases hw5 : w.length < 5
        · have hw5' : (w.length : Int) < 5 := by omega
          rw [if_pos hw5] at h1
          simp -implicitDefEqProofs [hw5, hw5', r2, r3, tb2, tb3, n23, n23.symm]
          refine ⟨rb, by simp [Heap.set, b2l.symm, b3l.symm, tl], .inr ⟨rfl, h1.symm, by simp [Heap.set, hDl, b2D.symm, b3D.symm, tD], by simp [Heap.set, b2l, b3l, n23], by simp [Heap.set, b3l], ?_, _, by simp [Heap.set]; rfl, by simp, rfl⟩⟩
          have elH := kW.none el
          repeat (first | exact kWb | refine HWk.new (by assumption) ?_)
        · have hw5' : ¬ (w.length : Int) < 5 := by omega
          rw [if_neg hw5] at h1
          obtain ⟨a, ha⟩ : ∃ a, w.length - 5 = a := ⟨_, rfl⟩
          have haw : IntKind.i64.wrap ((w.length : Int) - 5) = (a : Int) := wsub (b := 5) ha (by omega) (by omega)
          have hal : a ≤ w.length := by omega
          have hal' : (a : Int) ≤ (w.length : Int) := by omega
          obtain ⟨rv, hrv⟩ : ∃ q, (readZ (w.drop a)).1 = q := ⟨_, rfl⟩
          obtain ⟨rk, hrk⟩ : ∃ q, (readZ (w.drop a)).2 = q := ⟨_, rfl⟩
          have hread := c_zRead (kG.le rowb.le) (w.drop a) (by rw [List.length_drop]; omega)
          rw [hrv, hrk] at hread
          unfold stepZ at h1
          rw [ha, hrv, hrk] at h1
          obtain ⟨j1, hj1⟩ : ∃ q, j + 1 = q := ⟨_, rfl⟩
          have hwj : IntKind.i64.wrap ((j : Int) + 1) = (j1 : Int) := wadd (b := 1) hj1 (by omega)
          rw [hj1] at h1
          simp -implicitDefEqProofs [hw5, hw5', haw, hal, hal']
          refine ACall.eq hread ?_
          by_cases hj0 : j = 0
          · subst hj0
            rw [if_pos rfl] at h1
            have hL0 : Lz = [] := List.length_eq_zero_iff.1 (by omega)
            subst hL0
            obtain ⟨tt, tb4, _⟩ := rowb.row
            obtain rfl : j1 = 1 := by omega
            have hw11 : IntKind.i64.wrap 1 = 1 := by decide
            obtain ⟨okF, hokF⟩ : ∃ q, (ok && rk && decide (a = 0)) = q := ⟨_, rfl⟩
            rw [hokF] at h1
            have row1 := (((rowb.setO (o' := .cells [.sc (.bool (ok && rk))] 4) e5 n45.symm t5 (by simp)).setO (o := .cells [.sc (.int .i64 ((0 : Nat) : Int))] 3) (o' := .cells [.sc (.int .i64 1)] 3) e6 n46.symm (by simp [Heap.set, n56.symm, t6]) (by simp)).cell
              (F' := fun t => [.sc (.int .i64 rv), .sl [] t]) (t := tt) (cs := [.sc (.int .i64 f), .sl [] tt]) (by simp [Heap.set, n45, n46, tb4]) (fun t' h => by simp at h; rw [h])).setO (o := .cells [.sc (.bool (ok && rk))] 4) (o' := .cells [.sc (.bool okF)] 4) e5 n45.symm (by simp [Heap.set, n56, n45.symm]) (by simp)
            have row2 := row1.setO (o := .lrec rb) (o' := .lrec r9) el b4l.symm (by simp [Heap.set, b4l, b5l, b6l, b4l.symm, b5l.symm, b6l.symm, b4D.symm, b5D.symm, b6D.symm, hDl, u14, u15, u16, u24, u25, u26, u34, u35, u36, c1l, c2l, c3l, n45, n46, n56, n45.symm, n46.symm, n56.symm, tl]) (by simp)
            have fin : ∀ K', K' = ((((Kb.set b5 (.cells [.sc (.bool (ok && rk))] 4)).set b6 (.cells [.sc (.int .i64 1)] 3)).set b4 (.cells [.sc (.int .i64 rv), .sl [] tt] 55)).set b5 (.cells [.sc (.bool okF)] 4)) →
                ∃ r, K' l = some (.lrec r) ∧ ((AV.sc (.bool true) = AV.sc (.bool true) ∧ JPar s G K1 b4 b5 b6 l D c1 c2 c3 r9 1 (K'.set l (.lrec { r with st := .ready, pe := none })) ∧ (K'.set l (.lrec { r with st := .ready, pe := none })) c2 = some (.cells [str x] 9)) ∨ (AV.sc (.bool true) = AV.sc (.bool false) ∧ XPar H G b2 b3 l D (K'.set l (.lrec { r with st := .ready, pe := none })))) := by
              rintro K' rfl
              refine ⟨rb, by simp [Heap.set, b4l, b5l, b6l, b4l.symm, b5l.symm, b6l.symm, b4D.symm, b5D.symm, b6D.symm, hDl, u14, u15, u16, u24, u25, u26, u34, u35, u36, c1l, c2l, c3l, n45, n46, n56, n45.symm, n46.symm, n56.symm, tl], .inl ⟨rfl, ?_, by simp [Heap.set, b4l, b5l, b6l, b4l.symm, b5l.symm, b6l.symm, b4D.symm, b5D.symm, b6D.symm, hDl, u14, u15, u16, u24, u25, u26, u34, u35, u36, c1l, c2l, c3l, n45, n46, n56, n45.symm, n46.symm, n56.symm, t2]⟩⟩
              rw [hrb1]
              exact ⟨okF, rv, [], h1, hjl, by simp, ⟨row2, by simp [Heap.set, b4l, b5l, b6l, b4l.symm, b5l.symm, b6l.symm, b4D.symm, b5D.symm, b6D.symm, hDl, u14, u15, u16, u24, u25, u26, u34, u35, u36, c1l, c2l, c3l, n45, n46, n56, n45.symm, n46.symm, n56.symm], by simp [Heap.set, b4l, b5l, b6l, b4l.symm, b5l.symm, b6l.symm, b4D.symm, b5D.symm, b6D.symm, hDl, u14, u15, u16, u24, u25, u26, u34, u35, u36, c1l, c2l, c3l, n45, n46, n56, n45.symm, n46.symm, n56.symm]⟩, by simp [Heap.set], by simp [Heap.set, b4l, b5l, b6l, b4l.symm, b5l.symm, b6l.symm, b4D.symm, b5D.symm, b6D.symm, hDl, u14, u15, u16, u24, u25, u26, u34, u35, u36, c1l, c2l, c3l, n45, n46, n56, n45.symm, n46.symm, n56.symm, tD], by simp [Heap.set, b4l, b5l, b6l, b4l.symm, b5l.symm, b6l.symm, b4D.symm, b5D.symm, b6D.symm, hDl, u14, u15, u16, u24, u25, u26, u34, u35, u36, c1l, c2l, c3l, n45, n46, n56, n45.symm, n46.symm, n56.symm, t1], by simp [Heap.set, b4l, b5l, b6l, b4l.symm, b5l.symm, b6l.symm, b4D.symm, b5D.symm, b6D.symm, hDl, u14, u15, u16, u24, u25, u26, u34, u35, u36, c1l, c2l, c3l, n45, n46, n56, n45.symm, n46.symm, n56.symm, t3], x, by simp [Heap.set, b4l, b5l, b6l, b4l.symm, b5l.symm, b6l.symm, b4D.symm, b5D.symm, b6D.symm, hDl, u14, u15, u16, u24, u25, u26, u34, u35, u36, c1l, c2l, c3l, n45, n46, n56, n45.symm, n46.symm, n56.symm, t2]⟩
            by_cases ha0 : a = 0
            · have ha0' : (a : Int) = 0 := by omega
              cases ok <;> cases rk
              all_goals
                simp -implicitDefEqProofs [r4, r5, r6, t5, t6, tb4, hwj, hw11, ha0, ha0', n45, n46, n56, n45.symm, n46.symm, n56.symm]
                refine fin _ ?_
                rw [← hokF]
                simp [ha0]
            · have ha0' : ¬ (a : Int) = 0 := by omega
              cases ok <;> cases rk
              all_goals
                simp -implicitDefEqProofs [r4, r5, r6, t5, t6, tb4, hwj, hw11, ha0, ha0', n45, n46, n56, n45.symm, n46.symm, n56.symm]
                refine fin _ ?_
                rw [← hokF]
                simp [ha0]
          · rw [if_neg hj0] at h1
            obtain ⟨pv, hpv⟩ : ∃ q, (pI (w.take a)).1 = q := ⟨_, rfl⟩
            obtain ⟨pk, hpk⟩ : ∃ q, (pI (w.take a)).2 = q := ⟨_, rfl⟩
            have hpi := fun K (h : GlobE K) => c_pI64 h (w.take a) (by rw [List.length_take]; omega)
            rw [hpv, hpk] at hpi h1
            have hj11 : ¬ (j1 : Int) = 1 := by omega
            have hj11' : ¬ j1 = 1 := by omega
            obtain ⟨okF, hokF⟩ : ∃ q, (ok && rk && pk) = q := ⟨_, rfl⟩
            rw [hokF] at h1
            obtain ⟨xs, hxs⟩ : ∃ xs, Lz.map chAV = xs := ⟨_, rfl⟩
            have hxl : xs.length = Lz.length := by rw [← hxs]; simp
            have hsz : szs 2 xs = true := by
              rw [← hxs]
              simp only [szs, List.all_eq_true]
              intro a ha
              obtain ⟨c, _, rfl⟩ := List.mem_map.1 ha
              rfl
            have hd : (Lz ++ [(pv, rv)]).map chAV = xs ++ [chAV (pv, rv)] := by rw [← hxs]; simp
            have hl1 : (Lz ++ [(pv, rv)]).length = (xs ++ [chAV (pv, rv)]).length := by simp [hxl]
            rw [hxs, ← hxl] at rowb
            clear hxs
            obtain ⟨tt, tb4, _⟩ := rowb.row
            have row1 := ((rowb.setO (o' := .cells [.sc (.bool (ok && rk))] 4) e5 n45.symm t5 (by simp)).setO (o := .cells [.sc (.int .i64 (j : Int))] 3) (o' := .cells [.sc (.int .i64 (j1 : Int))] 3) e6 n46.symm (by simp [Heap.set, n56.symm, t6]) (by simp))
            have row2 := row1.setO (o := .cells [.sc (.bool (ok && rk))] 4) (o' := .cells [.sc (.bool okF)] 4) e5 n45.symm (by simp [Heap.set, n56]) (by simp)
            have fin : ∀ Kc, Kc = (((Kb.set b5 (.cells [.sc (.bool (ok && rk))] 4)).set b6 (.cells [.sc (.int .i64 (j1 : Int))] 3)).set b5 (.cells [.sc (.bool okF)] 4)) → ∀ G0 t0 t' K4 Hn, Grows G0 (xs ++ [chAV (pv, rv)]) 2 69 t' K4 → HLe K4 Hn → HLe K1 G0 → G0 b4 = some (.cells [.sc (.int .i64 f), .sl xs t0] 55) → (∀ p o, Kc p = some o → (∀ n cap sz e, o ≠ .open n cap sz e) → G0 p = some o) →
                ∀ K', K' = Hn.set b4 (.cells [.sc (.int .i64 f), .sl (xs ++ [chAV (pv, rv)]) t'] 55) →
                ∃ r, K' l = some (.lrec r) ∧ ((AV.sc (.bool true) = AV.sc (.bool true) ∧ JPar s G K1 b4 b5 b6 l D c1 c2 c3 r9 (j + 1) (K'.set l (.lrec { r with st := .ready, pe := none })) ∧ (K'.set l (.lrec { r with st := .ready, pe := none })) c2 = some (.cells [str x] 9)) ∨ (AV.sc (.bool true) = AV.sc (.bool false) ∧ XPar H G b2 b3 l D (K'.set l (.lrec { r with st := .ready, pe := none })))) := by
              rw [hj1]
              intro Kc hKc G0 t0 t' K4 Hn hg' hl' g4 g5 g6 K' hK'
              have kp : ∀ {p : Nat} {o : AObj}, Kc p = some o → (∀ n cap sz e, o ≠ .open n cap sz e) → Hn p = some o := fun {p o} hp ho => hl' _ _ (hg'.le _ _ (g6 p o hp ho))
              have hl := kp (p := l) (o := .lrec rb) (by rw [hKc]; simp [Heap.set, b4l, b5l, b6l, b4l.symm, b5l.symm, b6l.symm, b4D.symm, b5D.symm, b6D.symm, hDl, u14, u15, u16, u24, u25, u26, u34, u35, u36, c1l, c2l, c3l, n45, n46, n56, n45.symm, n46.symm, n56.symm, tl]) (by simp)
              have hD := kp (p := D) (o := .dfr) (by rw [hKc]; simp [Heap.set, b4l, b5l, b6l, b4l.symm, b5l.symm, b6l.symm, b4D.symm, b5D.symm, b6D.symm, hDl, u14, u15, u16, u24, u25, u26, u34, u35, u36, c1l, c2l, c3l, n45, n46, n56, n45.symm, n46.symm, n56.symm, tD]) (by simp)
              have w1 := kp (p := c1) (o := .cells [str [32]] 9) (by rw [hKc]; simp [Heap.set, b4l, b5l, b6l, b4l.symm, b5l.symm, b6l.symm, b4D.symm, b5D.symm, b6D.symm, hDl, u14, u15, u16, u24, u25, u26, u34, u35, u36, c1l, c2l, c3l, n45, n46, n56, n45.symm, n46.symm, n56.symm, t1]) (by simp)
              have w2 := kp (p := c2) (o := .cells [str x] 9) (by rw [hKc]; simp [Heap.set, b4l, b5l, b6l, b4l.symm, b5l.symm, b6l.symm, b4D.symm, b5D.symm, b6D.symm, hDl, u14, u15, u16, u24, u25, u26, u34, u35, u36, c1l, c2l, c3l, n45, n46, n56, n45.symm, n46.symm, n56.symm, t2]) (by simp)
              have w3 := kp (p := c3) (o := .cells [.sc (.int .i64 0)] 3) (by rw [hKc]; simp [Heap.set, b4l, b5l, b6l, b4l.symm, b5l.symm, b6l.symm, b4D.symm, b5D.symm, b6D.symm, hDl, u14, u15, u16, u24, u25, u26, u34, u35, u36, c1l, c2l, c3l, n45, n46, n56, n45.symm, n46.symm, n56.symm, t3]) (by simp)
              have w5 := kp (p := b5) (o := .cells [.sc (.bool okF)] 4) (by rw [hKc]; simp [Heap.set, b4l, b5l, b6l, b4l.symm, b5l.symm, b6l.symm, b4D.symm, b5D.symm, b6D.symm, hDl, u14, u15, u16, u24, u25, u26, u34, u35, u36, c1l, c2l, c3l, n45, n46, n56, n45.symm, n46.symm, n56.symm]) (by simp)
              have w6 := kp (p := b6) (o := .cells [.sc (.int .i64 (j1 : Int))] 3) (by rw [hKc]; simp [Heap.set, b4l, b5l, b6l, b4l.symm, b5l.symm, b6l.symm, b4D.symm, b5D.symm, b6D.symm, hDl, u14, u15, u16, u24, u25, u26, u34, u35, u36, c1l, c2l, c3l, n45, n46, n56, n45.symm, n46.symm, n56.symm]) (by simp)
              have hsd := RowZ.stored (T := 55) (F := fun t' => [.sc (.int .i64 f), .sl (xs ++ [chAV (pv, rv)]) t']) g4 h4 g5 hg' hl'
              have row3 := hsd.setO (o := .lrec rb) (o' := .lrec r9) el b4l.symm (by simp [Heap.set, b4l, b5l, b6l, b4l.symm, b5l.symm, b6l.symm, b4D.symm, b5D.symm, b6D.symm, hDl, u14, u15, u16, u24, u25, u26, u34, u35, u36, c1l, c2l, c3l, n45, n46, n56, n45.symm, n46.symm, n56.symm, hl]) (by simp)
              subst hK'
              refine ⟨rb, by simp [Heap.set, b4l, b5l, b6l, b4l.symm, b5l.symm, b6l.symm, b4D.symm, b5D.symm, b6D.symm, hDl, u14, u15, u16, u24, u25, u26, u34, u35, u36, c1l, c2l, c3l, n45, n46, n56, n45.symm, n46.symm, n56.symm, hl], .inl ⟨rfl, ?_, by simp [Heap.set, b4l, b5l, b6l, b4l.symm, b5l.symm, b6l.symm, b4D.symm, b5D.symm, b6D.symm, hDl, u14, u15, u16, u24, u25, u26, u34, u35, u36, c1l, c2l, c3l, n45, n46, n56, n45.symm, n46.symm, n56.symm, w2]⟩⟩
              rw [hrb1]
              refine ⟨okF, f, Lz ++ [(pv, rv)], h1, by omega, by simp; omega, ⟨?_, by simp [Heap.set, b4l, b5l, b6l, b4l.symm, b5l.symm, b6l.symm, b4D.symm, b5D.symm, b6D.symm, hDl, u14, u15, u16, u24, u25, u26, u34, u35, u36, c1l, c2l, c3l, n45, n46, n56, n45.symm, n46.symm, n56.symm, w5], by simp [Heap.set, b4l, b5l, b6l, b4l.symm, b5l.symm, b6l.symm, b4D.symm, b5D.symm, b6D.symm, hDl, u14, u15, u16, u24, u25, u26, u34, u35, u36, c1l, c2l, c3l, n45, n46, n56, n45.symm, n46.symm, n56.symm, w6]⟩, by simp [Heap.set], by simp [Heap.set, b4l, b5l, b6l, b4l.symm, b5l.symm, b6l.symm, b4D.symm, b5D.symm, b6D.symm, hDl, u14, u15, u16, u24, u25, u26, u34, u35, u36, c1l, c2l, c3l, n45, n46, n56, n45.symm, n46.symm, n56.symm, hD], by simp [Heap.set, b4l, b5l, b6l, b4l.symm, b5l.symm, b6l.symm, b4D.symm, b5D.symm, b6D.symm, hDl, u14, u15, u16, u24, u25, u26, u34, u35, u36, c1l, c2l, c3l, n45, n46, n56, n45.symm, n46.symm, n56.symm, w1], by simp [Heap.set, b4l, b5l, b6l, b4l.symm, b5l.symm, b6l.symm, b4D.symm, b5D.symm, b6D.symm, hDl, u14, u15, u16, u24, u25, u26, u34, u35, u36, c1l, c2l, c3l, n45, n46, n56, n45.symm, n46.symm, n56.symm, w3], x, by simp [Heap.set, b4l, b5l, b6l, b4l.symm, b5l.symm, b6l.symm, b4D.symm, b5D.symm, b6D.symm, hDl, u14, u15, u16, u24, u25, u26, u34, u35, u36, c1l, c2l, c3l, n45, n46, n56, n45.symm, n46.symm, n56.symm, w2]⟩
              rw [hd, hl1]
              exact row3
            cases ok <;> cases rk
            all_goals
              simp -implicitDefEqProofs [r4, r5, r6, t5, t6, tb4, hwj, hj11, hj11', hal, hal', n45, n46, n56, n45.symm, n46.symm, n56.symm]
              refine ACall.intro (hpi _ (kG.le row1.le)) fun v Kx hv => ?_
              obtain ⟨ev, he, rfl, rfl⟩ := hv
              rcases he with ⟨rfl, rfl⟩ | ⟨rfl, te, pe, rfl⟩
            all_goals
              simp -implicitDefEqProofs [r4, r5, r6, t5, t6, tb4, n45, n46, n56, n45.symm, n46.symm, n56.symm, ofV_nil, tkd_err]
              generalize hKc : Heap.set _ b5 _ = Kc
              have rowc : RowZ 2 69 55 K1 b4 xs.length (fun t => [.sc (.int .i64 f), .sl xs t]) Kc := by rw [← hKc]; subst hokF; exact row2
              obtain ⟨tk, G0, G', g1, g2, g3, g4, g5, g6⟩ := rowc.grows'
              have hKc4 : Kc b4 = some (.cells [.sc (.int .i64 f), .sl xs tt] 55) := by rw [← hKc]; simp [Heap.set, n45, n46, tb4]
              obtain rfl : tt = tk := by rw [hKc4] at g1; simpa using g1
              refine AApp.grows el_53 g2 g3 (by simp) hsz (by simp [szs]) (by simp; omega) (by simp [maxLen]; omega) fun t' K4 Hn hg' hl' => ?_
              have hn4 := hl' _ _ (hg'.le _ _ g5)
              simp -implicitDefEqProofs [r4, hn4]
              exact fin Kc (by rw [← hKc]; subst hokF; rfl) G0 _ t' K4 Hn hg' hl' g4 g5 g6 _ rfl
      · exact ⟨true, 0, [], hGo, by omega, by simp, ⟨(hR3.new hD).new hl, by simp [Heap.set, b5l, b5D, p5], by simp [Heap.set, b6l, b6D, p6]⟩, by simp [Heap.set], by simp [Heap.set, hDl], by simp [Heap.set, c1l, c1D, d1], by simp [Heap.set, c3l, c3D, d3], s, by simp [Heap.set, c2l, c2D, d2]⟩
      · simp [Heap.set, c2l, c2D, d2]
      · rintro v K (⟨ok, f, Lz, h1, h2, h3, hst', gl, gD, _⟩ | ⟨h1, gD, g2, g3, gW, r, gl, g4, g5⟩)
        · rw [List.drop_of_length_le (Nat.le_refl _)] at h1
          exact ⟨gD, .inl ⟨ok, f, Lz, _, h1.symm, by omega, hst', r0', gl, by rw [hst]; simp, hpe⟩⟩
        · exact ⟨gD, .inr ⟨h1, g2, g3, gW, r, gl, g4, g5⟩⟩
    · rintro D l v K hD hl ⟨_, ⟨_, _, _, _, _, _, _, r, h1, h2, _⟩ | ⟨_, _, _, _, r, h1, h2, _⟩⟩
      · exact ⟨r, h1, h2⟩
      · exact ⟨r, h1, h2⟩
    · rintro D l v K r hD hl ⟨gD, hres⟩ hK
      have hDl : D ≠ l := by intro e; subst e; simp [Heap.set] at hl
      have hl3 : K3 l = none := by simpa [Heap.set, hDl.symm] using hl
      have eD : K1 D = none := hR3.le.none hD
      have el : K1 l = none := hR3.le.none hl3
      have eDH := kW.none eD
      have elH := kW.none el
      have b2l : b2 ≠ l := by rintro rfl; rw [k2] at el; cases el
      have b3l : b3 ≠ l := by rintro rfl; rw [k3] at el; cases el
      have b2D : b2 ≠ D := by rintro rfl; rw [k2] at eD; cases eD
      have b3D : b3 ≠ D := by rintro rfl; rw [k3] at eD; cases eD
      rcases hres with ⟨ok, f, Lz, j, hGs, hLz, ⟨s1, s2, s3⟩, r', gl, _, hpe⟩ | ⟨hGs, g2, g3, gW, r', gl, _, hpe⟩
      · rw [gl] at hK
        cases hK
        obtain ⟨tk, g4, _⟩ := s1.row
        have g2 := s1.le _ _ k2
        have g3 := s1.le _ _ k3
        have gW := kW.trans s1.le.wk
        have b4l : b4 ≠ l := by rintro rfl; rw [g4] at gl; cases gl
        have b5l : b5 ≠ l := by rintro rfl; rw [s2] at gl; cases gl
        have b4D : b4 ≠ D := by rintro rfl; rw [g4] at gD; cases gD
        have hfin : finZ s G = if ok = true ∧ textZ ⟨f, Lz⟩ = s then some ⟨f, Lz⟩ else none := by rw [hGs]; rfl
        rw [hpz, hfin]
        cases ok with
        | false =>
          rw [if_neg (by simp)]
          simp -implicitDefEqProofs [hpe, del_apply, r2, r3, r4, r5, s2, b5l, b4l, g4, g2, g3, b2l, b3l, n23, n23.symm, mark_ret, mark_nrm, hDl, gD, b2D, b3D, b2D.symm, b3D.symm, zd]
          repeat (first | exact gW | refine HWk.delNew (by assumption) ?_ | refine HWk.new (by assumption) ?_)
        | true =>
          have hx := c_zText (H := K.del l) ((kG.le (HLe.del_new s1.le el)).z) ⟨f, Lz⟩ tk
          simp -implicitDefEqProofs [hpe, del_apply, r2, r3, r4, r5, s2, b5l, b4l, g4, g2, g3, b2l, b3l]
          first | refine ACall.eq hx ?_ | refine AQS.eq hx ?_
          by_cases heq : textZ ⟨f, Lz⟩ = s
          · rw [if_pos heq]
            simp -implicitDefEqProofs [del_apply, r0, r2, r3, r4, b4l, g4, g2, g3, b2l, b3l, heq, n23, n23.symm, mark_ret, mark_nrm, hDl, gD, b2D, b3D, b2D.symm, b3D.symm, zd]
            repeat (first | exact gW | refine HWk.delNew (by assumption) ?_ | refine HWk.new (by assumption) ?_)
          · rw [if_neg heq]
            have hbe : (textZ ⟨f, Lz⟩ == s) = false := by simpa using heq
            simp -implicitDefEqProofs [del_apply, r0, r2, r3, r4, b4l, g4, g2, g3, b2l, b3l, heq, hbe, n23, n23.symm, mark_ret, mark_nrm, hDl, gD, b2D, b3D, b2D.symm, b3D.symm, zd]
            repeat (first | exact gW | refine HWk.delNew (by assumption) ?_ | refine HWk.new (by assumption) ?_)
      · rw [gl] at hK
        cases hK
        have e : parseZ s = none := by rw [hpz, hGs]; rfl
        rw [e]
        simp -implicitDefEqProofs [hpe, del_apply, r2, r3, g2, g3, b2l, b3l, b2D, b3D, mark_ret, mark_nrm, hDl, gD, zd]
        exact HWk.delNew eDH (HWk.delNew elH gW)
end Go.Proofs.YtmoncokklkiikaaGreatDoor
namespace Go.Proofs.YtmoncokklkiikaaGreatDoor
open Rg Go
variable {H : Heap}
theorem zd_len (s : List UInt8) : (zd (parseZ s)).l.length ≤ 64 := by
  cases h : parseZ s with
  | none => simp [zd]
  | some w => exact (may_parts (parseZ_sound h).2).2.1
set_option maxHeartbeats 8000000 in
theorem zoneTexts_ok (hG : GlobE H) (z : Zn) (tk : Rg.Tok) (s : List UInt8) : AOk Tryz.prog 8 [zAV z tk, str s] H (.sc (.bool true)) H := by
  refine ACalls.into Tryz.func8 rfl Tryz.ntmps8 Tryz.results8 (by simp) ?_
  simp -implicitDefEqProofs
  refine AAlloc.intro fun b2 h2 => ?_
  simp -implicitDefEqProofs
  generalize hK : Heap.set _ b2 _ = K1
  have g2 : K1 b2 = some (.cells (zC z tk) 55) := by rw [← hK]; simp [Heap.set]
  have kG : GlobE K1 := by rw [← hK]; exact hG.new h2
  have kW : HWk H K1 := by rw [← hK]; exact HWk.new h2 (HWk.refl _)
  clear hK
  refine ACall.eq (c_known36 kG.z) ?_
  simp -implicitDefEqProofs [g2]
  refine ACall.eq (c_heavyZ z tk) ?_
  by_cases hv : 100 < z.l.length
  · simp -implicitDefEqProofs [hv]
    exact kW
  · by_cases hs : 5000 < s.length
    · have hs' : (5000 : Int) < (s.length : Int) := by omega
      simp -implicitDefEqProofs [hv, hs, hs']
      exact kW
    · have hs' : ¬ (5000 : Int) < (s.length : Int) := by omega
      simp -implicitDefEqProofs [hv, hs, hs', g2]
      refine ACall.eq (c_zText kG.z z tk) ?_
      simp -implicitDefEqProofs [g2]
      refine ACall.eq (c_ofZ z tk (by omega)) ?_
      simp -implicitDefEqProofs
      refine ACall.eq (c_rText z .no (by omega)) ?_
      have hlen := text_len z
      generalize textZ z = t at *
      simp -implicitDefEqProofs
      refine AGo.rounds (fun μ ρ K => ∃ i : Nat, μ = 2 - i ∧ i ≤ 2 ∧ ρ 30 = .sl [str s, str t] .full ∧ ρ 31 = .sc (.int .i64 2) ∧ ρ 32 = .sc (.int .i64 (i : Int)) ∧ HLe K1 K) ?_ (m := 2) (HLe.refl _)
        ⟨0, rfl, by omega, by simp, by simp, by simp, HLe.refl _⟩
      rintro μ ρ K ih ⟨i, rfl, hi, r30, r31, r32, hle⟩
      by_cases hi2 : i < 2
      · obtain ⟨x, hx, hxs⟩ : ∃ x : List UInt8, [str s, str t][i]? = some (str x) ∧ x.length ≤ 5000 := by
          match i, hi2 with
          | 0, _ => exact ⟨s, rfl, by omega⟩
          | 1, _ => exact ⟨t, rfl, by omega⟩
        have hi2' : (i : Int) < 2 := by omega
        have hx0 : ∀ h, [str s, str t][i]'h = str x := fun h => by rw [List.getElem?_eq_getElem h] at hx; exact Option.some.inj hx
        have hwi : IntKind.i64.wrap ((i : Int) + 1) = ((i + 1 : Nat) : Int) := wadd (b := 1) rfl (by omega)
        have kGK := kG.le hle
        have hp := c_zParse kGK x (by omega)
        have hq := fun K : Heap => c_rParse (H := K) x (by omega)
        have hwl := zd_len x
        rw [ref_parse] at hq
        obtain ⟨w, hw⟩ : ∃ w, zd (parseZ x) = w := ⟨_, rfl⟩
        obtain ⟨k, hk⟩ : ∃ k, (parseZ x).isSome = k := ⟨_, rfl⟩
        rw [hw, hk] at hp hq
        rw [hw] at hwl
        have hof := fun K : Heap => c_ofZ (H := K) w .no (by omega)
        have htx := fun K : Heap => c_rText (H := K) w .no (by omega)
        simp -implicitDefEqProofs [r30, r31, r32, hi2, hi2', hx0]
        refine ACall.eq hp ?_
        simp -implicitDefEqProofs
        refine AAlloc.intro fun b8 h8 => ?_
        simp -implicitDefEqProofs
        refine ACall.eq (hq _) ?_
        simp -implicitDefEqProofs
        refine AAlloc.intro fun b10 h10 => ?_
        have n810 : b8 ≠ b10 := by intro e; subst e; simp [Heap.set] at h10
        have e10 : K b10 = none := (HLe.set_fresh h8).none h10
        simp -implicitDefEqProofs
        generalize hK : Heap.set _ b10 _ = K3
        have g8 : K3 b8 = some (.cells (zC w .no) 55) := by rw [← hK]; simp [Heap.set, n810]
        have g10 : K3 b10 = some (.cells (zC w .no) 61) := by rw [← hK]; simp [Heap.set]
        have hle3 : HLe K1 K3 := by
          rw [← hK]
          repeat (first | exact hle | refine HLe.set_new ?_ (by first | exact hle.none h8 | exact hle.none e10))
        clear hK
        cases k
        all_goals
          refine go_draw 36 f_mixed (by decide +kernel) ?_
          simp -implicitDefEqProofs [g8, g10]
          refine AQS.eq (hof _) ?_
          simp -implicitDefEqProofs [g8, g10]
          refine AQS.eq (htx _) ?_
          simp -implicitDefEqProofs [g8, g10]
          refine AQS.eq (htx _) ?_
          simp -implicitDefEqProofs [g8, g10, r30, r31, r32, hwi]
          exact AGo.again ih (m' := 2 - (i + 1)) (by omega) (HLe.refl _) ⟨i + 1, rfl, by omega, by simp [r30], by simp [r31], by simp, hle3⟩
      · obtain rfl : i = 2 := by omega
        simp -implicitDefEqProofs [r31, r32]
        exact kW.trans hle.wk
end Go.Proofs.YtmoncokklkiikaaGreatDoor
namespace Go.Proofs.YtmoncokklkiikaaGreatDoor
open Rg Go Go.RowKit
theorem eq_ctz : (Rows.laid_math_bits_deBruijn64tab : DataW Unit) = Lib.tabData .u8 (Lib.deBruijn64tab.map fun n : Nat => (n : Int)) := by kernel_rfl
def ctzUs : List Value := Lib.deBruijn64tab.map fun n : Nat => .int .u8 n
def firstUs : List Value := (List.range 256).map fun c => .int .u8 (Lib.firstT c)
def acceptUs : List Value := (List.range 16).flatMap fun i => [.int .u8 (Lib.accLo i), .int .u8 (Lib.accHi i)]
theorem ctz_reads {W : World} {l : List (String × DataW Unit)} (hL : laidMet Tryz.prog l W) (h1 : ("math/bits.deBruijn64tab", Rows.laid_math_bits_deBruijn64tab) ∈ l) (j : Nat) (u : Value) (hu : ctzUs[j]? = some u) : W.cell? ⟨0, j, none⟩ = some u := by
  obtain ⟨g, t, cs, fuel, p, hg, hty, hvar, hd⟩ := Lib.laidMet.reads hL h1
  obtain rfl : 0 = g := Option.some.inj ((show Tryz.prog.globalNamed "math/bits.deBruijn64tab" = some 0 by kernel_rfl).symm.trans hg)
  obtain rfl : 275 = t := Option.some.inj ((show (Tryz.prog.globals[0]?).map (·.type) = some 275 by kernel_rfl).symm.trans hty)
  rw [eq_ctz] at hd
  have hcs := Lib.cells_of_tab (e := 5) (n := 64) (by kernel_rfl) (by kernel_rfl) (by kernel_rfl) (by kernel_rfl) hd
  rw [World.var?_cell hg hvar j, ← Array.getElem?_toList, hcs, ← hu]
  unfold ctzUs
  simp [Function.comp_def]
def setCells (cs : Array Value) : Obj → Obj
  | .cells _ t fr => .cells cs t fr
  | o => o
noncomputable def low : Nat := (World.holding Tryz.prog default ⟨#[], #[], []⟩).heap.size
noncomputable def laidWorld (os : Os) : World :=
  let w0 := World.holding Tryz.prog os ⟨#[.cells #[.string ⟨#[105, 110, 118, 97, 108, 105, 100, 32, 115, 121, 110, 116, 97, 120]⟩] 318, .cells #[.string ⟨#[118, 97, 108, 117, 101, 32, 111, 117, 116, 32, 111, 102, 32, 114, 97, 110, 103, 101]⟩] 318], #[], []⟩
  { w0 with heap := ((((((w0.heap.modify 0 (setCells ctzUs.toArray)).modify 7 (setCells (Lib.deBruijn32tab.map fun n : Nat => Value.int .u8 n).toArray)).modify 5 (setCells firstUs.toArray)).modify 6 (setCells acceptUs.toArray)).modify 1
    (setCells ((List.range 20).map fun n => Value.int .u64 (10 ^ n)).toArray)).modify 2 (setCells #[.iface 316 (.pointer (some ⟨low, 0, none⟩))])).modify 3 (setCells #[.iface 316 (.pointer (some ⟨low + 1, 0, none⟩))]) }
theorem own : ownKnob Tryz.prog.godebug = none := by kernel_rfl
end Go.Proofs.YtmoncokklkiikaaGreatDoor
