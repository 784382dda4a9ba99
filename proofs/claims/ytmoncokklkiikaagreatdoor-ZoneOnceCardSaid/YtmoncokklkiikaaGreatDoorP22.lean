/- Zones, as the document has them: offsets at moments, moments of a clock, when it begins. The chapter's rows on zones. The chapter's rows on zones, all of them. All of a zone's firings, gone over. Clocks of two days, and when they begin: plainly, and as a map's keys. ZoneTells. -/
import Derived.Test.YtmoncokklkiikaaGreatDoorP21
import Derived.Test.YtmoncokklkiikaaGreatDoorP18
import Derived.Test.YtmoncokklkiikaaGreatDoorP09
set_option linter.unusedSimpArgs false
set_option linter.unusedVariables false
set_option linter.unnecessarySimpa false
namespace Go.Proofs.YtmoncokklkiikaaGreatDoor
open Rg Go
variable {H : Heap}
theorem at_none {f t : Int} : ∀ {l : List (Int × Int)}, (∀ (j : Nat) d, l[j]? = some d → t < d.1) → atL f l t = f
  | [], _ => rfl
  | (a, o) :: r, h => by
    unfold atL
    rw [if_pos (h 0 (a, o) rfl)]
theorem at_hit {t : Int} : ∀ {l : List (Int × Int)} {p : Option Int} {f : Int} {i : Nat} {c : Int × Int}, mayL p l = true → l[i]? = some c → c.1 ≤ t → (∀ (j : Nat) d, i < j → l[j]? = some d → t < d.1) → atL f l t = c.2
  | [], _, _, _, _, _, h, _, _ => by simp at h
  | (a, o) :: r, p, f, 0, c, hm, h, h1, h2 => by
    simp only [List.getElem?_cons_zero, Option.some.injEq] at h
    subst h
    simp only at h1
    unfold atL
    rw [if_neg (by omega)]
    exact at_none fun j d hd => h2 (j + 1) d (by omega) (by simpa using hd)
  | (a, o) :: r, p, f, i + 1, c, hm, h, h1, h2 => by
    simp only [List.getElem?_cons_succ] at h
    have hmr := (mayL_cons.1 hm).2.2.2.2.2
    have := mayL_ge hmr (Int.le_refl a) c.1 c.2 (List.mem_of_getElem? h)
    unfold atL
    rw [if_neg (by omega)]
    exact at_hit hmr h h1 fun j d hj hd => h2 (j + 1) d (by omega) (by simpa using hd)
set_option maxHeartbeats 1000000 in
theorem c_rAt (z : Zn) (t : Rg.Tok) (m : Int) (hz : mayZ z = true) : AOk Tryz.prog 39 [zAV z t, .sc (.int .i64 m)] H (.sc (.int .i64 (atZ z m))) H := by
  have hlen := z_len hz
  have hml := may_l hz
  have hit := fun i c => at_hit (t := m) (l := z.l) (f := z.first) (i := i) (c := c) hml
  have non := at_none (t := m) (f := z.first) (l := z.l)
  unfold atZ
  generalize hr : atL z.first z.l m = r at hit non
  have hwl : IntKind.i64.wrap ((z.l.length : Int) - 1) = (z.l.length : Int) - 1 := wrap_i64 (by omega) (by omega)
  refine ACalls.into Tryz.func39 rfl Tryz.ntmps39 Tryz.results39 (by simp) ?_
  simp -implicitDefEqProofs
  refine AAlloc.intro fun b1 h1 => ?_
  simp -implicitDefEqProofs [hwl]
  generalize hK : Heap.set _ b1 _ = K1
  have k1 : K1 b1 = some (.cells (zC z t) 61) := by rw [← hK]; simp [Heap.set]
  have kW : HLe H K1 := by rw [← hK]; exact HLe.set_fresh h1
  clear hK
  refine AGo.rounds (fun μ ρ K => ∃ (i : Nat), μ = i ∧ i ≤ z.l.length ∧ (∀ (j : Nat) d, i ≤ j → z.l[j]? = some d → m < d.1) ∧ ρ 1 = .sc (.int .i64 m) ∧ ρ 2 = .sc (.pointer (some ⟨b1, 0, none⟩)) ∧ ρ 5 = .sc (.int .i64 ((i : Int) - 1)) ∧ K = K1) ?_ (m := z.l.length) (HLe.refl _)
    ⟨z.l.length, rfl, by omega, fun j d hj hd => (by rw [List.getElem?_eq_none hj] at hd; cases hd), by simp, by simp, by simp, rfl⟩
  rintro μ ρ K ih ⟨i, rfl, hi, hall, r1, r2, r5, rfl⟩
  cases μ with
  | zero =>
    rw [non fun j d hd => hall j d (by omega) hd]
    simp -implicitDefEqProofs [r1, r2, r5, k1]
    exact kW.wk
  | succ i =>
    have hlt : i < z.l.length := by omega
    obtain ⟨c, hc, hc'⟩ := getAt hlt
    have e : (((i + 1 : Nat) : Int) - 1) = (i : Int) := by omega
    have hw2 : IntKind.i64.wrap ((i : Int) - 1) = (i : Int) - 1 := wrap_i64 (by omega) (by omega)
    rw [e] at r5
    by_cases hm : c.1 ≤ m
    · rw [hit i c hc' hm fun j d hj hd => hall j d hj hd]
      simp -implicitDefEqProofs [r1, r2, r5, k1, hlt, hc, hm]
      exact kW.wk
    · simp -implicitDefEqProofs [r1, r2, r5, k1, hlt, hc, hm, hw2]
      refine AGo.again ih (m' := i) (by omega) (HLe.refl _) ⟨i, rfl, by omega, fun j d hj hd => ?_, by simp [r1], by simp [r2], by simp, rfl⟩
      by_cases hji : j = i
      · subst hji
        rw [hc'] at hd
        cases hd
        omega
      · exact hall j d (by omega) hd
def momT (l : Int) (k : Nat) : Int := l - 50400 + 60 * (k : Int)
def momP (z : Zn) (l : Int) (k : Nat) : List Int := ((List.range k).map (momT l)).filter (momB z l)
theorem momP_all (z : Zn) (l : Int) : momP z l 1681 = momZ z l := rfl
theorem momP_succ (z : Zn) (l : Int) (k : Nat) : momP z l (k + 1) = momP z l k ++ (if momB z l (momT l k) = true then [momT l k] else []) := by
  unfold momP
  rw [List.range_succ, List.map_append, List.filter_append]
  congr 1
  simp only [List.map_cons, List.map_nil, List.filter_cons, List.filter_nil]
theorem momP_len (z : Zn) (l : Int) (k : Nat) : (momP z l k).length ≤ k := by
  unfold momP
  refine Nat.le_trans (List.length_filter_le _ _) (by simp)
set_option maxHeartbeats 2000000 in
theorem c_rMoments (z : Zn) (t : Rg.Tok) {l : Int} (h0 : 0 ≤ l) (h1 : l < 13569465600) (hz : mayZ z = true) : AOk Tryz.prog 43 [zAV z t, .sc (.int .i64 l)] H (.sl ((momZ z l).map i64) .no) H := by
  rw [← momP_all]
  have hw0 : IntKind.i64.wrap (l - 50400) = momT l 0 := by rw [wrap_i64 (by omega) (by omega)]; unfold momT; omega
  have hwe : IntKind.i64.wrap (l + 50400) = l + 50400 := wrap_i64 (by omega) (by omega)
  have hlen := momP_len z l
  have hsucc := momP_succ z l
  have hp0 : momP z l 0 = [] := rfl
  obtain ⟨N, hN⟩ : ∃ N, N = 1681 := ⟨_, rfl⟩
  rw [← hN]
  generalize momP z l = P at *
  refine ACalls.into Tryz.func43 rfl Tryz.ntmps43 Tryz.results43 (by simp) ?_
  simp -implicitDefEqProofs [hw0]
  refine AAlloc.intro fun b1 hb1 => ?_
  simp -implicitDefEqProofs [hw0]
  generalize hK : Heap.set _ b1 _ = K1
  have k1 : K1 b1 = some (.cells (zC z t) 61) := by rw [← hK]; simp [Heap.set]
  have kW : HLe H K1 := by rw [← hK]; exact HLe.set_fresh hb1
  clear hK
  refine AGo.rounds (fun μ ρ K => ∃ (k : Nat) (tk : Rg.Tok), μ = N - k ∧ k ≤ N ∧ ρ 1 = .sc (.int .i64 l) ∧ ρ 2 = .sc (.pointer (some ⟨b1, 0, none⟩)) ∧ ρ 5 = .sl ((P k).map i64) tk ∧ ρ 6 = .sc (.int .i64 (momT l k)) ∧ Grows K1 ((P k).map i64) 1 2 tk K) ?_ (m := N) (HLe.refl _)
    ⟨0, .nil, by omega, by omega, by simp, by simp, by simp [hp0], by simp, by rw [hp0]; exact Grows.zero⟩
  rintro μ ρ K ih ⟨k, tk, rfl, hk, r1, r2, r5, r6, hg⟩
  have k2 := hg.le _ _ k1
  have hPk := hlen k
  obtain ⟨u, hu⟩ : ∃ u, momT l k = u := ⟨_, rfl⟩
  have hu' : u = l - 50400 + 60 * (k : Int) := hu.symm
  have hw1 : IntKind.i64.wrap (u + 60) = momT l (k + 1) := by rw [wrap_i64 (by omega) (by omega)]; unfold momT; omega
  rw [hu] at r6
  by_cases hlt : k < N
  · have hle : u ≤ l + 50400 := by omega
    have hs := hsucc k
    rw [hu] at hs
    have hb : momB z l u = (decide (0 ≤ u) && decide (u < 13569465600) && decide (u + atZ z u = l)) := rfl
    by_cases c0 : 0 ≤ u
    · by_cases c1 : u < 13569465600
      · simp -implicitDefEqProofs [r1, r2, r5, r6, hwe, hle, c0, c1, k2]
        refine ACall.eq (c_rAt z t u hz) ?_
        have ho := offOk_iff.1 (at_ok hz u)
        have hw2 : IntKind.i64.wrap (u + atZ z u) = u + atZ z u := wrap_i64 (by omega) (by omega)
        have hw3 : IntKind.i64.wrap (atZ z u) = atZ z u := wrap_i64 (by omega) (by omega)
        by_cases c2 : u + atZ z u = l
        · rw [hb, if_pos (by simp [c0, c1, c2])] at hs
          have hwl : IntKind.i64.wrap l = l := wrap_i64 (by omega) (by omega)
          simp -implicitDefEqProofs [r1, r5, r6, hwl, hw3, c2]
          refine AApp.grows el_36 hg (HLe.refl _) (by simp) (by rw [szs, List.all_eq_true]; intro a ha; obtain ⟨c, _, rfl⟩ := List.mem_map.1 ha; rfl) (by simp [szs]) (by simp; omega) (by simp [maxLen]; omega) fun t' K' Hn hg' hl' => ?_
          simp -implicitDefEqProofs [r6, hw1]
          refine AGo.again ih (m' := N - (k + 1)) (by omega) hl' ⟨k + 1, t', rfl, by omega, by simp [r1], by simp [r2], by simp [hs, i64], by simp, ?_⟩
          rw [hs]
          simpa [i64] using hg'
        · rw [hb, if_neg (by simp [c2])] at hs
          rw [List.append_nil] at hs
          simp -implicitDefEqProofs [r1, r5, r6, hw2, hw3, c2, hw1]
          exact AGo.again ih (m' := N - (k + 1)) (by omega) (HLe.refl _) ⟨k + 1, tk, rfl, by omega, by simp [r1], by simp [r2], by simp [hs, r5], by simp, by rw [hs]; exact hg⟩
      · rw [hb, if_neg (by simp [c1])] at hs
        rw [List.append_nil] at hs
        simp -implicitDefEqProofs [r1, r2, r5, r6, hwe, hle, c0, c1, hw1]
        exact AGo.again ih (m' := N - (k + 1)) (by omega) (HLe.refl _) ⟨k + 1, tk, rfl, by omega, by simp [r1], by simp [r2], by simp [hs, r5], by simp, by rw [hs]; exact hg⟩
    · rw [hb, if_neg (by simp [c0])] at hs
      rw [List.append_nil] at hs
      simp -implicitDefEqProofs [r1, r2, r5, r6, hwe, hle, c0, hw1]
      exact AGo.again ih (m' := N - (k + 1)) (by omega) (HLe.refl _) ⟨k + 1, tk, rfl, by omega, by simp [r1], by simp [r2], by simp [hs, r5], by simp, by rw [hs]; exact hg⟩
  · obtain rfl : k = N := by omega
    have hle : ¬ u ≤ l + 50400 := by omega
    simp -implicitDefEqProofs [r1, r5, r6, hwe, hle]
    exact (kW.trans hg.le).wk
def beginI (z : Zn) (l : Int) : Int := match beginZ z l with | some a => a | none => -1
set_option maxHeartbeats 2000000 in
theorem c_rBegin (z : Zn) (t : Rg.Tok) {l : Int} (h0 : 0 ≤ l) (h1 : l < 13569465600) (hz : mayZ z = true) : AOk Tryz.prog 41 [zAV z t, .sc (.int .i64 l)] H (.sc (.int .i64 (beginI z l))) H := by
  have hlen := z_len hz
  have hfo := offOk_iff.1 (may_parts hz).1
  have hin := mayL_in (may_parts hz).2.2
  have hM := fun K => c_rMoments (H := K) z t h0 h1 hz
  unfold beginI beginZ
  refine ACalls.into Tryz.func41 rfl Tryz.ntmps41 Tryz.results41 (by simp) ?_
  simp -implicitDefEqProofs
  refine AAlloc.intro fun b2 h2 => ?_
  simp -implicitDefEqProofs
  generalize hK : Heap.set _ b2 _ = K1
  have k2 : K1 b2 = some (.cells (zC z t) 61) := by rw [← hK]; simp [Heap.set]
  have kW : HLe H K1 := by rw [← hK]; exact HLe.set_fresh h2
  clear hK
  refine ACall.eq (hM _) ?_
  generalize momZ z l = M
  cases M with
  | cons m M =>
    simp -implicitDefEqProofs [i64]
    exact kW.wk
  | nil =>
    simp only
    generalize hG : gapL z.first z.l l = G
    simp -implicitDefEqProofs
    refine AGo.rounds (fun μ ρ K => ∃ (i : Nat) (f : Int), μ = z.l.length - i ∧ i ≤ z.l.length ∧ gapL f (z.l.drop i) l = G ∧ (-50400 ≤ f ∧ f ≤ 50400) ∧ (i = 0 ∧ f = z.first ∨ ∃ (j : Nat) (d : Int × Int), i = j + 1 ∧ z.l[j]? = some d ∧ f = d.2) ∧
      ρ 1 = .sc (.int .i64 l) ∧ ρ 2 = .sc (.pointer (some ⟨b2, 0, none⟩)) ∧ ρ 6 = .sc (.int .i64 (i : Int)) ∧ K = K1) ?_ (m := z.l.length) (HLe.refl _)
      ⟨0, z.first, by omega, by omega, hG, hfo.2, .inl ⟨rfl, rfl⟩, by simp, by simp, by simp, rfl⟩
    clear hG
    rintro μ ρ K ih ⟨i, f, rfl, hi, hg, hf, hp, r1, r2, r6, rfl⟩
    rcases Nat.lt_or_ge i z.l.length with hlt | hge
    · obtain ⟨c, hc, hc'⟩ := getAt hlt
      have hcz := hin c (by rw [← hc]; exact List.getElem_mem _)
      have hco := offOk_iff.1 hcz.1
      have hw1 : IntKind.i64.wrap ((i : Int) + 1) = (i : Int) + 1 := wrap_i64 (by omega) (by omega)
      have hw2 : IntKind.i64.wrap (c.1 + f) = c.1 + f := wrap_i64 (by omega) (by omega)
      have hw3 : IntKind.i64.wrap (c.1 + c.2) = c.1 + c.2 := wrap_i64 (by omega) (by omega)
      have hw4 : IntKind.i64.wrap f = f := wrap_i64 (by omega) (by omega)
      have hw5 : IntKind.i64.wrap c.2 = c.2 := wrap_i64 (by omega) (by omega)
      rw [List.drop_eq_getElem_cons hlt, hc] at hg
      unfold gapL at hg
      simp -implicitDefEqProofs [r1, r2, r6, k2, hlt, hc]
      refine AAlloc.intro fun b7 h7 => ?_
      have n27 : b2 ≠ b7 := by intro e; subst e; rw [k2] at h7; cases h7
      have kW7 : ∀ o, HWk H (K.set b7 o) := fun o => (kW.trans (HLe.set_fresh h7)).wk
      rcases hp with ⟨rfl, rfl⟩ | ⟨j, d, hij, hjd, rfl⟩
      · by_cases c1 : c.1 + z.first ≤ l
        · by_cases c2 : l < c.1 + c.2
          · rw [if_pos ⟨c1, c2⟩] at hg
            subst hg
            simp -implicitDefEqProofs [r1, r2, r6, k2, n27, hw2, hw3, hw4, hw5, c1, c2]
            exact kW7 _
          · rw [if_neg (by omega)] at hg
            simp -implicitDefEqProofs [r1, r2, r6, k2, n27, hw2, hw3, hw4, hw5, c1, c2, wrap_i64]
            exact AGo.again ih (m' := z.l.length - (0 + 1)) (by omega) (HLe.set_fresh h7) ⟨0 + 1, c.2, rfl, by omega, hg, hco.2, .inr ⟨0, c, rfl, hc', rfl⟩, by simp [r1], by simp [r2], by simp, rfl⟩
        · rw [if_neg (by omega)] at hg
          simp -implicitDefEqProofs [r1, r2, r6, k2, n27, hw2, hw3, hw4, hw5, c1, wrap_i64]
          exact AGo.again ih (m' := z.l.length - (0 + 1)) (by omega) (HLe.set_fresh h7) ⟨0 + 1, c.2, rfl, by omega, hg, hco.2, .inr ⟨0, c, rfl, hc', rfl⟩, by simp [r1], by simp [r2], by simp, rfl⟩
      · have hjl : j < z.l.length := by omega
        have hjd' : z.l[j] = d := by rw [List.getElem?_eq_getElem hjl] at hjd; exact Option.some.inj hjd
        have hw6 : IntKind.i64.wrap ((i : Int) - 1) = (j : Int) := by rw [wrap_i64 (by omega) (by omega)]; omega
        have hi0 : 0 < i := by omega
        by_cases c1 : c.1 + d.2 ≤ l
        · by_cases c2 : l < c.1 + c.2
          · rw [if_pos ⟨c1, c2⟩] at hg
            subst hg
            simp -implicitDefEqProofs [r1, r2, r6, k2, n27, hw2, hw3, hw4, hw5, hw6, hi0, hjl, hjd', c1, c2]
            exact kW7 _
          · rw [if_neg (by omega)] at hg
            simp -implicitDefEqProofs [r1, r2, r6, k2, n27, hw2, hw3, hw4, hw5, hw6, hi0, hjl, hjd', c1, c2, hw1]
            exact AGo.again ih (m' := z.l.length - (i + 1)) (by omega) (HLe.set_fresh h7) ⟨i + 1, c.2, rfl, by omega, hg, hco.2, .inr ⟨i, c, rfl, hc', rfl⟩, by simp [r1], by simp [r2], by simp, rfl⟩
        · rw [if_neg (by omega)] at hg
          simp -implicitDefEqProofs [r1, r2, r6, k2, n27, hw2, hw3, hw4, hw5, hw6, hi0, hjl, hjd', c1, hw1]
          exact AGo.again ih (m' := z.l.length - (i + 1)) (by omega) (HLe.set_fresh h7) ⟨i + 1, c.2, rfl, by omega, hg, hco.2, .inr ⟨i, c, rfl, hc', rfl⟩, by simp [r1], by simp [r2], by simp, rfl⟩
    · have hn : ¬ i < z.l.length := by omega
      rw [List.drop_of_length_le hge] at hg
      simp only [gapL] at hg
      subst hg
      simp -implicitDefEqProofs [r1, r2, r6, k2, hn]
      exact kW.wk
end Go.Proofs.YtmoncokklkiikaaGreatDoor
namespace Go.Proofs.YtmoncokklkiikaaGreatDoor
open Rg Go
variable {H : Heap}
def zS : Zn := ⟨3600, [(10000800, 7200), (20000880, 3600)]⟩
theorem zS_may : mayZ zS = true := by decide +kernel
theorem zS_at1 : atZ zS 10000799 = 3600 := by decide +kernel
theorem zS_at2 : atZ zS 10000800 = 7200 := by decide +kernel
theorem zS_mom1 : momZ zS 10005000 = [] := by decide +kernel
theorem zS_mom2 : momZ zS 20005000 = [19997800, 20001400] := by decide +kernel
theorem zS_begin : beginZ zS 10005000 = some 10000800 := by unfold beginZ; rw [zS_mom1]; decide +kernel
def tyS : List UInt8 := [42, 32, 42, 32, 42, 32, 42, 32, 42]
def xS : Ex := (cronK tyS).1
theorem xS_eq : cronK tyS = (xS, 0) := by decide +kernel
theorem xS_ok : xS.ok ∧ mayX xS = true := ⟨⟨by decide, by decide, by decide, by decide, by decide⟩, by decide +kernel⟩
theorem zS_at (t : Int) : atZ zS t = 3600 ∨ atZ zS t = 7200 := by
  have := atL_mem zS.l zS.first t
  simp only [zS, List.map_cons, List.map_nil, List.mem_cons, List.not_mem_nil, or_false] at this
  unfold atZ
  simp only [zS]
  omega
theorem zS_aft : IsAft zS xS 0 59 (some 60) := by
  refine ⟨3660, by omega, by omega, by decide +kernel, ?_, by omega, fun k _ hk hf b hb => ?_⟩
  · have h1 : momZ zS ((3660 : Nat) : Int) = [60] := by decide +kernel
    unfold beginZ
    rw [h1]
  · obtain ⟨h1, h2, h3, h4⟩ := begin_some zS_may hb
    have h60 := (fire_eq xS (by omega)).1 hf |>.1
    have a1 := zS_at b
    have a2 := zS_at (b - 1)
    unfold gZ at h3 h4
    rcases h4 with h4 | ⟨⟨o, ho⟩, h4⟩
    · omega
    · simp only [zS, List.mem_cons, Prod.mk.injEq, List.not_mem_nil, or_false] at ho
      omega
theorem c_someZ : AOk Tryz.prog 95 [] H (zAV zS .no) H := by
  refine ACalls.into Tryz.func95 rfl Tryz.ntmps95 Tryz.results95 (by simp) ?_
  simp -implicitDefEqProofs
  refine AAlloc.intro fun b1 h1 => ?_
  simp -implicitDefEqProofs
  exact ⟨⟨rfl, wkL_refl _⟩, HWk.new h1 (HWk.refl _)⟩
theorem c_clockZ {t : Nat} (ht : t < 13569465600) : AOk Tryz.prog 96 [.sc (.int .i64 t)] H (cAV (clk t)) H := by
  refine ACalls.into Tryz.func96 rfl Tryz.ntmps96 Tryz.results96 (by simp) ?_
  simp -implicitDefEqProofs
  refine AAlloc.intro fun b2 h2 => ?_
  simp -implicitDefEqProofs
  refine ACall.eq (c_ref5Split ht) ?_
  simp -implicitDefEqProofs
  refine AAlloc.intro fun b3 h3 => ?_
  have n23 : b2 ≠ b3 := by intro e; subst e; simp [Heap.set] at h3
  have n32 := n23.symm
  have e3 : H b3 = none := (HLe.set_fresh h2).none h3
  simp -implicitDefEqProofs [n23, n32]
  repeat (first | exact HWk.refl _ | refine HWk.new (by assumption) ?_)
theorem c_eq64 (L M : List Int) (t u : Rg.Tok) (hL : L.length ≤ 1000000) (hM : M.length ≤ 1000000) : AOk Tryz.prog 42 [.sl (L.map i64) t, .sl (M.map i64) u] H (.sc (.bool (decide (L = M)))) H := by
  refine ACalls.into Tryz.func42 rfl Tryz.ntmps42 Tryz.results42 (by simp) ?_
  by_cases hl : L.length = M.length
  · simp -implicitDefEqProofs [hl]
    generalize hr : decide (L = M) = r
    refine AGo.rounds (fun μ ρ K => ∃ (i : Nat), μ = L.length - i ∧ i ≤ L.length ∧ (L.drop i = M.drop i ↔ L = M) ∧ ρ 0 = .sl (L.map i64) t ∧ ρ 1 = .sl (M.map i64) u ∧ ρ 12 = .sc (.int .i64 (L.length : Int)) ∧ ρ 13 = .sc (.int .i64 (i : Int)) ∧ K = H) ?_ (m := L.length) (HLe.refl _)
      ⟨0, by omega, by omega, by simp, by simp, by simp, by simp [hl], by simp, rfl⟩
    rintro μ ρ K ih ⟨i, rfl, hi, he, r0, r1, r12, r13, rfl⟩
    rcases Nat.lt_or_ge i L.length with hlt | hge
    · obtain ⟨x, hx, _⟩ := getAt hlt
      have hlt2 : i < M.length := by omega
      obtain ⟨y, hy, _⟩ := getAt hlt2
      have hw1 : IntKind.i64.wrap ((i : Int) + 1) = (i : Int) + 1 := wrap_i64 (by omega) (by omega)
      rw [List.drop_eq_getElem_cons hlt, List.drop_eq_getElem_cons hlt2, hx, hy] at he
      simp -implicitDefEqProofs [r0, r1, r12, r13, hlt]
      refine go_draw 9 f_mixed (by decide +kernel) ?_
      simp -implicitDefEqProofs [r0, r1, r12, r13, hlt, hlt2, hx, hy, i64]
      by_cases hxy : x = y
      · simp -implicitDefEqProofs [hxy, r13, hw1]
        refine AGo.again ih (m' := L.length - (i + 1)) (by omega) (HLe.refl _) ⟨i + 1, rfl, by omega, ?_, by simp [r0], by simp [r1], by simp [r12], by simp, rfl⟩
        rw [← he, hxy]
        simp
      · obtain rfl : r = false := by
          rw [← hr, decide_eq_false_iff_not, ← he]
          intro h
          injection h with h1 h2
          exact hxy h1
        simp -implicitDefEqProofs [hxy]
    · have hn : ¬ i < L.length := by omega
      rw [List.drop_of_length_le hge, List.drop_of_length_le (by omega)] at he
      obtain rfl : r = true := by rw [← hr, decide_eq_true_iff]; exact he.1 rfl
      simp -implicitDefEqProofs [r12, r13, hn]
  · have : ¬ L = M := fun h => hl (by rw [h])
    have hl' : ¬ (L.length : Int) = (M.length : Int) := by omega
    simp -implicitDefEqProofs [hl, hl', this]
theorem zS_text : textZ zS = [43, 48, 49, 48, 48, 32, 49, 48, 48, 48, 48, 56, 48, 48, 43, 48, 50, 48, 48, 32, 50, 48, 48, 48, 48, 56, 56, 48, 43, 48, 49, 48, 48] := by
  have e : ∀ u, Lib.decDigits u = if u < 10 then [UInt8.ofNat (48 + u)] else Lib.decDigits (u / 10) ++ [UInt8.ofNat (48 + u % 10)] := fun u => by
    rw [Lib.decDigits]; split <;> rfl
  have e1 : Lib.itoa 10000800 = [49, 48, 48, 48, 48, 56, 48, 48] := by
    rw [itoa_nat (by omega)]
    simp [e]
  have e2 : Lib.itoa 20000880 = [50, 48, 48, 48, 48, 56, 56, 48] := by
    rw [itoa_nat (by omega)]
    simp [e]
  have w1 : wrZ 3600 = [43, 48, 49, 48, 48] := by decide +kernel
  have w2 : wrZ 7200 = [43, 48, 50, 48, 48] := by decide +kernel
  unfold textZ
  rw [if_pos zS_may]
  unfold wordsZ
  simp only [zS, List.map_cons, List.map_nil, partZ, e1, e2, w1, w2]
  decide +kernel
end Go.Proofs.YtmoncokklkiikaaGreatDoor
namespace Go.Proofs.YtmoncokklkiikaaGreatDoor
open Rg Go
variable {H : Heap}
theorem clkS (t : Nat) (ht : t < 13569465600) : momI (clk t) = (t : Int) ∧ mayC (clk t) = true := ⟨momI_clk ht, mayC_clk ht⟩
theorem zS_m1 : momentsZ zS (clk 10005000) = [] ∧ argE zS (clk 10005000) = 0 := by
  obtain ⟨h1, h2⟩ := clkS 10005000 (by decide)
  unfold momentsZ argE
  rw [if_pos ⟨zS_may, h2⟩, if_pos ⟨zS_may, h2⟩, h1]
  exact ⟨zS_mom1, rfl⟩
theorem zS_m2 : momentsZ zS (clk 20005000) = [19997800, 20001400] ∧ argE zS (clk 20005000) = 0 := by
  obtain ⟨h1, h2⟩ := clkS 20005000 (by decide)
  unfold momentsZ argE
  rw [if_pos ⟨zS_may, h2⟩, if_pos ⟨zS_may, h2⟩, h1]
  exact ⟨zS_mom2, rfl⟩
theorem zS_b1 : beginC zS (clk 10005000) = some 10000800 ∧ beginE zS (clk 10005000) = 0 := by
  obtain ⟨h1, h2⟩ := clkS 10005000 (by decide)
  unfold beginC beginE
  rw [if_pos ⟨zS_may, h2⟩, if_pos ⟨zS_may, h2⟩, h1]
  exact ⟨zS_begin, by rw [show beginZ zS ((10005000 : Nat) : Int) = some 10000800 from zS_begin]; rfl⟩
theorem zS_o1 : offsetZ zS 10000799 = 3600 := by unfold offsetZ; rw [if_pos zS_may]; exact zS_at1
theorem zS_o2 : offsetZ zS 10000800 = 7200 := by unfold offsetZ; rw [if_pos zS_may]; exact zS_at2
set_option maxHeartbeats 4000000 in
theorem c_known36 (hG : GlobZ H) : AOk Tryz.prog 25 [] H (.sc (.bool true)) H := by
  have m1 := fun K => c_zMomentsC (H := K) zS .no (clk 10005000)
  have m2 := fun K => c_zMomentsC (H := K) zS .no (clk 20005000)
  have b1 := fun K => c_zBeginC (H := K) zS .no (clk 10005000)
  have q1 := fun K => c_clockZ (H := K) (t := 10005000) (by decide)
  have q2 := fun K => c_clockZ (H := K) (t := 20005000) (by decide)
  have px := fun K => c_ref7Parse (H := K) tyS (by decide)
  have af := fun K (hG : GlobZ K) => c_zAfter hG.tab zS .no xS_ok.1 (m := 59) zS_may xS_ok.2 (by decide) zS_aft
  have my := fun K => c_zMay (H := K) zS .no
  have o1 := fun K => c_zOffsetAt (H := K) zS .no 10000799
  have o2 := fun K => c_zOffsetAt (H := K) zS .no 10000800
  have tx := fun K (hG : GlobZ K) => c_zText hG zS .no
  have eq := fun K => c_eq64 (H := K) [19997800, 20001400] [19997800, 20001400] .no .full (by decide) (by decide)
  have sm := c_someZ (H := H)
  rw [zS_m1.1, zS_m1.2] at m1
  rw [zS_m2.1, zS_m2.2] at m2
  rw [zS_b1.1, zS_b1.2] at b1
  rw [xS_eq] at px
  rw [zS_may] at my
  rw [zS_o1] at o1
  rw [zS_o2] at o2
  rw [zS_text] at tx
  generalize clk 10005000 = k1 at *
  generalize clk 20005000 = k2 at *
  generalize zS = z at *
  generalize xS = x at *
  refine ACalls.into Tryz.func25 rfl Tryz.ntmps25 Tryz.results25 (by simp) ?_
  simp -implicitDefEqProofs
  refine ACall.eq sm ?_
  simp -implicitDefEqProofs
  refine AAlloc.intro fun c1 h1 => ?_
  simp -implicitDefEqProofs
  generalize hK : Heap.set _ c1 _ = K1
  have g1 : K1 c1 = some (.cells (zC z .no) 55) := by rw [← hK]; simp [Heap.set]
  have kG : GlobZ K1 := by rw [← hK]; exact hG.new h1
  have kW : HWk H K1 := by rw [← hK]; exact HWk.new h1 (HWk.refl _)
  clear hK
  refine go_draw 8 f_mixed (by decide +kernel) ?_
  simp -implicitDefEqProofs [g1]
  refine AQS.eq (q1 _) ?_
  simp -implicitDefEqProofs
  refine AQS.eq (m1 _) ?_
  simp -implicitDefEqProofs
  refine go_draw 8 f_mixed (by decide +kernel) ?_
  simp -implicitDefEqProofs [g1]
  refine AQS.eq (q1 _) ?_
  simp -implicitDefEqProofs
  refine AQS.eq (b1 _) ?_
  simp -implicitDefEqProofs [optI]
  refine go_draw 8 f_mixed (by decide +kernel) ?_
  simp -implicitDefEqProofs [g1]
  refine AQS.eq (q2 _) ?_
  simp -implicitDefEqProofs
  refine AQS.eq (m2 _) ?_
  simp -implicitDefEqProofs
  refine ACall.eq (px _) ?_
  simp -implicitDefEqProofs
  refine AAlloc.intro fun c8 h8 => ?_
  have n18 : c1 ≠ c8 := by intro e; subst e; rw [g1] at h8; cases h8
  simp -implicitDefEqProofs [n18, g1]
  generalize hK : Heap.set K1 c8 _ = K2
  have g2 : K2 c1 = some (.cells (zC z .no) 55) := by rw [← hK]; simp [Heap.set, n18, g1]
  have kG2 : GlobZ K2 := by rw [← hK]; exact kG.new h8
  have kW2 : HWk H K2 := by rw [← hK]; exact HWk.new (kW.none h8) kW
  clear hK
  refine ACall.eq (af _ kG2) ?_
  simp -implicitDefEqProofs [g2, optI, errI]
  refine ACall.eq (my _) ?_
  simp -implicitDefEqProofs [g2]
  refine ACall.eq (o1 _) ?_
  simp -implicitDefEqProofs [g2]
  refine ACall.eq (o2 _) ?_
  simp -implicitDefEqProofs [g2]
  refine ACall.eq (tx _ kG2) ?_
  simp -implicitDefEqProofs [i64]
  refine ACall.eq (eq _) ?_
  simp -implicitDefEqProofs
  exact kW2
end Go.Proofs.YtmoncokklkiikaaGreatDoor
namespace Go.Proofs.YtmoncokklkiikaaGreatDoor
open Rg Go
variable {H : Heap}
def AllZ (z : Zn) (t : Rg.Tok) (x : Ex) (a b : Int) (H : Heap) (r : AV) (K : Heap) : Prop :=
  ∃ b4 b5 b6 b7, r = .sc (.func (.func 114) #[] #[.pointer (some ⟨b6, 0, none⟩), .pointer (some ⟨b7, 0, none⟩), .pointer (some ⟨b4, 0, none⟩), .pointer (some ⟨b5, 0, none⟩)]) ∧ HLe H K ∧
    K b4 = some (.cells (zC z t) 55) ∧ K b5 = some (.cells (exC x) 42) ∧ K b6 = some (.cells [.sc (.int .i64 a)] 2) ∧ K b7 = some (.cells [.sc (.int .i64 b)] 2)
theorem c_zAll (z : Zn) (t : Rg.Tok) (x : Ex) (a b : Int) : ACalls Tryz.prog 45 [zAV z t, exAV x, .sc (.int .i64 a), .sc (.int .i64 b)] H (AllZ z t x a b H) := by
  refine ACalls.into Tryz.func45 rfl Tryz.ntmps45 Tryz.results45 (by simp) ?_
  simp -implicitDefEqProofs
  refine AAlloc.intro fun b4 h4 => ?_
  simp -implicitDefEqProofs
  refine AAlloc.intro fun b5 h5 => ?_
  have n45 : b4 ≠ b5 := by intro e; subst e; simp [Heap.set] at h5
  simp -implicitDefEqProofs
  refine AAlloc.intro fun b6 h6 => ?_
  have n46 : b4 ≠ b6 := by intro e; subst e; simp [Heap.set, n45] at h6
  have n56 : b5 ≠ b6 := by intro e; subst e; simp [Heap.set] at h6
  simp -implicitDefEqProofs
  refine AAlloc.intro fun b7 h7 => ?_
  have n47 : b4 ≠ b7 := by intro e; subst e; simp [Heap.set, n45, n46] at h7
  have n57 : b5 ≠ b7 := by intro e; subst e; simp [Heap.set, n56] at h7
  have n67 : b6 ≠ b7 := by intro e; subst e; simp [Heap.set] at h7
  simp -implicitDefEqProofs
  refine ⟨_, _, wk_refl _, HWk.refl _, b4, b5, b6, b7, rfl, (((HLe.set_fresh h4).trans (HLe.set_fresh h5)).trans (HLe.set_fresh h6)).trans (HLe.set_fresh h7), ?_, ?_, ?_, ?_⟩
  · simp [Heap.set, n45, n46, n47]
  · simp [Heap.set, n56, n57]
  · simp [Heap.set, n67]
  · simp [Heap.set]
theorem c_zAllIt {l b4 b5 b6 b7 : Nat} {z : Zn} {t : Rg.Tok} {x : Ex} (hz : mayZ z = true) (hx : x.ok) (hm : mayX x = true) {a b : Nat} (ha : a < 13569465600) (hb : b < 13569465600) {L : List Int} (hL : IsRunZ z x b a L) (J : Nat → Heap → Prop)
    (hJ : ∀ j K, J j K → K b4 = some (.cells (zC z t) 55) ∧ K b5 = some (.cells (exC x) 42) ∧ K b6 = some (.cells [.sc (.int .i64 a)] 2) ∧ K b7 = some (.cells [.sc (.int .i64 b)] 2) ∧ GlobT K)
    (hY : ∀ (j : Nat) (K : Heap) (t : Int), L[j]? = some t → J j K → ACalls Tryz.prog (Tryz.prog.funcs.size + 1 + l) [.sc (.int .i64 t)] K (fun v K' => v = .sc (.bool true) ∧ J (j + 1) K'))
    (h0 : J 0 H) : ACalls Tryz.prog 114 [.sc (.func (.yield l) #[] #[]), ptr b6, ptr b7, ptr b4, ptr b5] H (fun _ K => J L.length K) := by
  obtain ⟨k4, k5, k6, k7, kG⟩ := hJ 0 H h0
  have hmo : ∀ n : Nat, n < 13569465600 → momOk (n : Int) = true := fun n hn => momOk_iff.2 ⟨by omega, by omega⟩
  refine ACalls.into Tryz.func114 rfl Tryz.ntmps114 Tryz.results114 (by simp) ?_
  simp -implicitDefEqProofs [k6]
  refine ACall.eq (c_zMoment a) ?_
  rw [hmo a ha]
  simp -implicitDefEqProofs [k7]
  refine ACall.eq (c_zMoment b) ?_
  rw [hmo b hb]
  simp -implicitDefEqProofs [k4, k5, k6]
  obtain ⟨r, hr⟩ := aft_ex z x (a - 50400) a
  refine ACall.eq (c_zAfter kG z t hx hz hm ha hr) ?_
  simp -implicitDefEqProofs
  refine AGo.rounds (fun μ ρ K => ∃ (j prev : Nat) (L2 : List Int) (r : Option Int), μ = L2.length ∧ j + L2.length = L.length ∧ L.drop j = L2 ∧ prev < 13569465600 ∧ IsRunZ z x b prev L2 ∧ IsAft z x (prev - 50400) prev r ∧ ρ 0 = .sc (.func (.yield l) #[] #[]) ∧ ρ 2 = ptr b7 ∧ ρ 3 = ptr b4 ∧ ρ 4 = ptr b5 ∧ ρ 6 = .sc (.int .i64 (optI r)) ∧ ρ 7 = .sc (.int .i64 (errI r)) ∧ J j K) ?_ (m := L.length) (HLe.refl _)
    ⟨0, a, L, r, rfl, by omega, rfl, ha, hL, hr, by simp, by simp, by simp, by simp, by simp, by simp, h0⟩
  clear hr hL h0 k4 k5 k6 k7 kG
  rintro μ ρ K ih ⟨j, prev, L2, r, rfl, hlen, hdr, hprev, hL, hr, r0, r2, r3, r4, r6, r7, hJK⟩
  obtain ⟨k4, k5, k6, k7, kG⟩ := hJ j K hJK
  have epr : ((prev : Int) - 50400).toNat = prev - 50400 := by omega
  cases L2 with
  | nil =>
    obtain ⟨r', hr', hbt⟩ := hL
    rw [epr] at hr'
    obtain rfl := aft_one hr hr'
    have hj : j = L.length := by simpa using hlen
    subst hj
    cases r with
    | none =>
      simp -implicitDefEqProofs [r7, errI]
      exact ⟨_, _, wk_refl _, HWk.refl _, hJK⟩
    | some t =>
      have hb2 : ¬ t ≤ (b : Int) := by have := hbt t rfl; omega
      simp -implicitDefEqProofs [r7, errI, r6, optI, r2, k7, hb2]
      exact ⟨_, _, wk_refl _, HWk.refl _, hJK⟩
  | cons t L2 =>
    obtain ⟨ht, htb, hL⟩ := hL
    rw [epr] at ht
    obtain rfl := aft_one hr ht
    have hlt := aft_lt ht
    obtain ⟨t, rfl⟩ := Int.eq_ofNat_of_zero_le (a := t) (by omega)
    simp only [List.length_cons] at hlen
    have hjl : j < L.length := by omega
    have hLj : L[j]? = some (t : Int) := by
      rw [List.drop_eq_getElem_cons hjl] at hdr
      rw [List.getElem?_eq_getElem hjl, (List.cons.inj hdr).1]
    have hdr' : L.drop (j + 1) = L2 := by
      rw [List.drop_eq_getElem_cons hjl] at hdr
      exact (List.cons.inj hdr).2
    have htb' : t ≤ b := by omega
    simp -implicitDefEqProofs [r7, errI, r6, optI, r2, k7, htb, htb', r0]
    refine ACall.intro (hY j K t hLj hJK) fun v K' ⟨hv, hJ'⟩ => ?_
    subst hv
    obtain ⟨k4', k5', k6', k7', kG'⟩ := hJ _ _ hJ'
    obtain ⟨r2', hr2⟩ := aft_ex z x (t - 50400) t
    simp -implicitDefEqProofs [r3, r4, r6, optI, k4', k5']
    refine ACall.eq (c_zAfter kG' z _ hx hz hm (m := t) (by omega) hr2) ?_
    simp -implicitDefEqProofs
    exact AGo.again ih (m' := L2.length) (by simp) (HLe.refl _) ⟨j + 1, t, L2, r2', rfl, by omega, hdr', by omega, hL, hr2, by simp [r0], by simp [r2], by simp [r3], by simp [r4], by simp, by simp, hJ'⟩
end Go.Proofs.YtmoncokklkiikaaGreatDoor
namespace Go.Proofs.YtmoncokklkiikaaGreatDoor
open Rg Go
structure BegsOk (z : Zn) (x : Ex) (B i : Nat) (D : List Int) : Prop where
  len : D.length ≤ i
  sorted : D.Pairwise (· < ·)
  from_ : ∀ a ∈ D, ∃ j, j < i ∧ fireB x (B + 60 * j) = true ∧ beginZ z ((B + 60 * j : Nat) : Int) = some a
  all : ∀ j, j < i → fireB x (B + 60 * j) = true → ∃ a ∈ D, beginZ z ((B + 60 * j : Nat) : Int) = some a
theorem BegsOk.zero (z : Zn) (x : Ex) (B : Nat) : BegsOk z x B 0 [] := ⟨Nat.le_refl _, List.Pairwise.nil, fun a h => (by cases h), fun j h => by omega⟩
theorem BegsOk.skip {z : Zn} {x : Ex} {B i : Nat} {D : List Int} (h : BegsOk z x B i D) (hf : fireB x (B + 60 * i) = false) : BegsOk z x B (i + 1) D :=
  ⟨Nat.le_succ_of_le h.len, h.sorted, fun a ha => by obtain ⟨j, h1, h2⟩ := h.from_ a ha; exact ⟨j, by omega, h2⟩, fun j hj h1 => by
    by_cases e : j = i
    · subst e; rw [hf] at h1; cases h1
    · exact h.all j (by omega) h1⟩
theorem BegsOk.le {z : Zn} (hz : mayZ z = true) {x : Ex} {B i : Nat} {D : List Int} (h : BegsOk z x B i D) (hB : 50400 ≤ B) {a : Int} (hb : beginZ z ((B + 60 * i : Nat) : Int) = some a) : ∀ d ∈ D, d ≤ a := fun d hd => by
  obtain ⟨j, h1, _, h2⟩ := h.from_ d hd
  exact begin_mono hz (by have := gz_zero hz; omega) (by omega) h2 hb
theorem BegsOk.old {z : Zn} {x : Ex} {B i : Nat} {D : List Int} (h : BegsOk z x B i D) {a : Int} (hb : beginZ z ((B + 60 * i : Nat) : Int) = some a) (ha : a ∈ D) : BegsOk z x B (i + 1) D :=
  ⟨Nat.le_succ_of_le h.len, h.sorted, fun a ha => by obtain ⟨j, h1, h2⟩ := h.from_ a ha; exact ⟨j, by omega, h2⟩, fun j hj h1 => by
    by_cases e : j = i
    · subst e; exact ⟨a, ha, hb⟩
    · exact h.all j (by omega) h1⟩
theorem BegsOk.new {z : Zn} (hz : mayZ z = true) {x : Ex} {B i : Nat} {D : List Int} (h : BegsOk z x B i D) (hB : 50400 ≤ B) (hf : fireB x (B + 60 * i) = true) {a : Int} (hb : beginZ z ((B + 60 * i : Nat) : Int) = some a) (ha : a ∉ D) : BegsOk z x B (i + 1) (D ++ [a]) := by
  refine ⟨by have := h.len; simp; omega, ?_, fun d hd => ?_, fun j hj h1 => ?_⟩
  · rw [List.pairwise_append]
    refine ⟨h.sorted, by simp, fun d hd e he => ?_⟩
    simp only [List.mem_singleton] at he
    subst he
    have h1 := h.le hz hB hb d hd
    have : d ≠ e := by rintro rfl; exact ha hd
    omega
  · rcases List.mem_append.1 hd with hd | hd
    · obtain ⟨j, h1, h2⟩ := h.from_ d hd; exact ⟨j, by omega, h2⟩
    · simp only [List.mem_singleton] at hd
      subst hd
      exact ⟨i, by omega, hf, hb⟩
  · by_cases e : j = i
    · subst e; exact ⟨a, by simp, hb⟩
    · obtain ⟨b, h2, h3⟩ := h.all j (by omega) h1
      exact ⟨b, by simp [h2], h3⟩
theorem begin_there {z : Zn} (hz : mayZ z = true) {l : Nat} (h0 : 50400 ≤ l) (h1 : l + 50400 < 13569465600) : ∃ a, beginZ z (l : Int) = some a ∧ 0 ≤ a ∧ a < 13569465600 ∧ (l : Int) - 50400 ≤ a ∧ a ≤ l + 50400 := by
  have o1 := offOk_iff.1 (at_ok hz ((l : Int) + 50400))
  obtain ⟨b, h2, _⟩ := begin_least hz (l := (l : Int)) (t := (l : Int) + 50400) (by have := gz_zero hz; omega) (by omega) (by omega) (by unfold gZ; omega)
  have h3 := begin_near hz h2
  exact ⟨b, h2, h3.2.2.1, h3.2.2.2, h3.1, h3.2.1⟩
theorem once_all {z : Zn} (hz : mayZ z = true) {x : Ex} {B : Nat} (hB : 172740 ≤ B) (hB6 : B % 60 = 0) (hBM : B + 172800 + 50400 < 13569465600) {D L : List Int} {low high : Int} (hD : BegsOk z x B 2880 D)
    (hlo : beginZ z (B : Int) = some low) (hhi : beginZ z ((B + 172740 : Nat) : Int) = some high) (hL : IsRunZ z x high (low - 1) L) : (∀ t ∈ L, t ∈ D ∨ t = low ∨ t = high) ∧ L.filter (fun t => decide (t ∈ D)) = D := by
  have hln := begin_near hz hlo
  have hhn := begin_near hz hhi
  have hmem := runz_mem hz L hL (by omega)
  have hgt := runz_gt hL
  have hz0 := gz_zero hz
  refine ⟨fun t ht => ?_, sorted_eq (List.Pairwise.filter _ (runz_sorted hL)) hD.sorted fun t => ?_⟩
  · obtain ⟨l, h1, h2, h3, h4⟩ := runz_from hL t ht
    obtain ⟨g1, g2⟩ := hgt t ht
    have hl6 := (fire_eq x h1).1 h2 |>.1
    have hl50 : 50400 ≤ l := by omega
    by_cases c1 : l < B
    · have := begin_mono hz (l := l) (k := B) (by omega) (by omega) h3 hlo
      right; left; omega
    · by_cases c2 : B + 172740 < l
      · have := begin_mono hz (l := ((B + 172740 : Nat) : Int)) (k := l) (by omega) (by omega) hhi h3
        right; right; omega
      · left
        obtain ⟨j, hj⟩ : ∃ j, l = B + 60 * j := ⟨(l - B) / 60, by omega⟩
        subst hj
        obtain ⟨a, ha, h5⟩ := hD.all j (by omega) h2
        rw [h3] at h5
        cases h5
        exact ha
  · rw [List.mem_filter, decide_eq_true_eq]
    refine ⟨fun h => h.2, fun h => ⟨?_, h⟩⟩
    obtain ⟨j, h1, h2, h3⟩ := hD.from_ t h
    have g1 := begin_mono hz (l := (B : Int)) (k := ((B + 60 * j : Nat) : Int)) (by omega) (by omega) hlo h3
    have g2 := begin_mono hz (l := ((B + 60 * j : Nat) : Int)) (k := ((B + 172740 : Nat) : Int)) (by omega) (by omega) h3 hhi
    exact hmem (B + 60 * j) t (by omega) h2 h3 (by omega) g2
def setE (D : List Int) : List (AV × AV × Nat) := D.zipIdx.map fun p => (i64 p.1, .agg [], p.2)
theorem setE_len (D : List Int) : (setE D).length = D.length := by simp [setE]
theorem setE_snoc (D : List Int) (a : Int) : setE (D ++ [a]) = setE D ++ [(i64 a, .agg [], D.length)] := by
  unfold setE
  rw [List.zipIdx_append]
  simp
theorem aeqv_i64 (k x : Int) : aeqv Tryz.prog 5 2 (i64 k) (i64 x) = some (decide (k = x)) := by
  unfold i64 aeqv
  simp [tkd_2]
  rfl
theorem set_hit {D : List Int} {a : Int} (h : a ∈ D) : ∃ i, afind Tryz.prog 2 (i64 a) (setE D) 0 = some (some (i, .agg [])) ∧ i < D.length ∧ (setE D)[i]? = some (i64 a, .agg [], i) := by
  obtain ⟨n, hn, hmin⟩ : ∃ n, D[n]? = some a ∧ ∀ j, j < n → D[j]? ≠ some a := by
    obtain ⟨n, hn⟩ := List.getElem?_of_mem h
    obtain ⟨m, h1, h2, h3⟩ := least (fun k => D[k]? = some a) n hn
    exact ⟨m, h2, h3⟩
  have hlt := (List.getElem?_eq_some_iff.1 hn).1
  have hz : D.zipIdx[n]? = some (a, n) := by simp [List.getElem?_zipIdx, hn]
  refine ⟨n, ?_, hlt, by unfold setE; rw [List.getElem?_map, hz]; rfl⟩
  have := afind_hit (P := Tryz.prog) (kt := 2) (k := i64 a) (fun p : Int × Nat => i64 p.1) (fun _ => .agg []) (fun p => p.2) (fun p => decide (a = p.1)) D.zipIdx 0 n (a, n) (fun p _ => aeqv_i64 a p.1) hz (by simp) (fun j p hj hp => by
    simp only [decide_eq_false_iff_not]
    intro e
    simp only [List.getElem?_zipIdx, Option.map_eq_some_iff] at hp
    obtain ⟨y, h1, h2⟩ := hp
    subst h2
    simp only at e
    subst e
    exact hmin j hj h1)
  rw [Nat.zero_add] at this
  exact this
theorem set_miss {D : List Int} {a : Int} (h : a ∉ D) : afind Tryz.prog 2 (i64 a) (setE D) 0 = some none := by
  refine afind_miss (P := Tryz.prog) (kt := 2) (k := i64 a) (fun p : Int × Nat => i64 p.1) (fun _ => .agg []) (fun p => p.2) (fun p => decide (a = p.1)) D.zipIdx 0 (fun p _ => aeqv_i64 a p.1) fun p hp => ?_
  simp only [decide_eq_false_iff_not]
  rintro rfl
  exact h (List.fst_mem_of_mem_zipIdx hp)
theorem mapT : Tryz.prog.underlying 81 = some (.map 2 82) := by kernel_rfl
theorem intT : Tryz.prog.underlying 2 = some (.int .i64) := by kernel_rfl
theorem i64_check (a : Int) : acheck Tryz.prog 3 2 (i64 a) = true := by
  unfold acheck
  rw [intT]
  rfl
theorem set_eq {D : List Int} {i : Nat} {a : Int} (h : (setE D)[i]? = some (i64 a, .agg [], i)) : (setE D).set i (i64 a, .agg [], i) = setE D := by
  apply List.ext_getElem?
  intro j
  rw [List.getElem?_set]
  split
  · rename_i e
    subst e
    split
    · exact h.symm
    · rename_i e; rw [List.getElem?_eq_none (by omega)]
  · rfl
end Go.Proofs.YtmoncokklkiikaaGreatDoor
namespace Go.Proofs.YtmoncokklkiikaaGreatDoor
open Rg Go
variable {H : Heap}
theorem c_heavyZ (z : Zn) (t : Rg.Tok) : AOk Tryz.prog 26 [zAV z t] H (.sc (.bool (decide (100 < z.l.length)))) H := by
  refine ACalls.into Tryz.func26 rfl Tryz.ntmps26 Tryz.results26 (by simp) ?_
  simp -implicitDefEqProofs
  refine AAlloc.intro fun b1 h1 => ?_
  have e : ((100 : Int) < (z.l.length : Int)) ↔ 100 < z.l.length := by omega
  simp -implicitDefEqProofs [e]
  exact HWk.new h1 (HWk.refl _)
end Go.Proofs.YtmoncokklkiikaaGreatDoor
