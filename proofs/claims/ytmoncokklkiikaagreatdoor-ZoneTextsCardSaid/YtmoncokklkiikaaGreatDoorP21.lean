/- Which zone a text tells, as the document has it: the walk. Reading numbers with their errors; an offset's text; a text's words, gone over. A text's words, gone over. -/
import Derived.Test.YtmoncokklkiikaaGreatDoorP20
import Derived.Lib.IndexLaws
import Derived.Test.YtmoncokklkiikaaGreatDoorP19
set_option linter.unusedSimpArgs false
set_option linter.unusedVariables false
set_option linter.unnecessarySimpa false
namespace Go.Proofs.YtmoncokklkiikaaGreatDoor
open Rg Go
variable {H : Heap}
def zd (o : Option Zn) : Zn := o.getD ⟨0, []⟩
theorem goR_nil (f : Nat) (L : List (Int × Int)) : goR f [] L = (true, L) := by cases f <;> rfl
theorem digR_at {s : List UInt8} {q t : Nat} (hq : q < s.length) {c : UInt8} (hc : s[q]? = some c) (hd : isDg c = true) (ht : t < 13569465600) : digR t (s.drop q) = digR (10 * t + dv c) (s.drop (q + 1)) := by
  rw [List.drop_eq_getElem_cons hq]
  rw [List.getElem?_eq_getElem hq] at hc
  rw [Option.some.inj hc, digR, if_pos ⟨hd, ht⟩]
theorem digR_no {s : List UInt8} {q t : Nat} (hq : q < s.length) {c : UInt8} (hc : s[q]? = some c) (h : isDg c = false ∨ ¬ t < 13569465600) : digR t (s.drop q) = (t, s.drop q) := by
  rw [List.drop_eq_getElem_cons hq]
  rw [List.getElem?_eq_getElem hq] at hc
  rw [Option.some.inj hc, digR, if_neg]
  rintro ⟨h1, h2⟩
  rcases h with h | h
  · rw [h] at h1; cases h1
  · exact h h2
theorem digR_end {s : List UInt8} {q t : Nat} (hq : s.length ≤ q) : digR t (s.drop q) = (t, s.drop q) := by
  rw [List.drop_of_length_le hq]; rfl
theorem goR_step {s : List UInt8} {f p q t : Nat} {L : List (Int × Int)} (hp : p < s.length) (hf : s.length ≤ f + 1 + p) (hD : digR 0 (s.drop (p + 1)) = (t, s.drop q)) {o : Int} {k : Bool} (ho : offR (s.drop q) = (o, k)) :
    goR (f + 1) (s.drop p) L = if k = true then goR f (s.drop (q + 5)) (L ++ [((t : Int), o)]) else (false, L ++ [((t : Int), o)]) := by
  rw [List.drop_eq_getElem_cons hp, goR, hD]
  simp only [ho, List.drop_drop]
def resR (s : List UInt8) : Bool × List (Int × Int) := if (offR s).2 = true then goR s.length (s.drop 5) [] else (false, [])
theorem refZ_res (s : List UInt8) (h : s.length ≤ 4000) : refZ s = if (resR s).1 = true ∧ mayZ ⟨(offR s).1, (resR s).2⟩ = true ∧ textZ ⟨(offR s).1, (resR s).2⟩ = s then some ⟨(offR s).1, (resR s).2⟩ else none := by
  unfold refZ resR
  cases ho : (offR s).2 with
  | true => simp [h]
  | false => simp
theorem refZ_long (s : List UInt8) (h : 4000 < s.length) : refZ s = none := by
  unfold refZ
  rw [if_neg]
  rintro ⟨_, h2, _⟩
  omega
set_option maxHeartbeats 8000000 in
theorem c_rParse (s : List UInt8) (hs : s.length ≤ 1000000) : AOk Tryz.prog 49 [str s] H (.tup [zAV (zd (refZ s)) .no, .sc (.bool (refZ s).isSome)]) H := by
  refine ACalls.into Tryz.func49 rfl Tryz.ntmps49 Tryz.results49 (by simp) ?_
  simp -implicitDefEqProofs
  refine AAlloc.intro fun b2 h2 => ?_
  simp -implicitDefEqProofs
  refine AAlloc.intro fun b4 h4 => ?_
  have n24 : b2 ≠ b4 := by intro e; subst e; simp [Heap.set] at h4
  have e4 : H b4 = none := (HLe.set_fresh h2).none h4
  simp -implicitDefEqProofs
  generalize hK1 : Heap.set H b2 _ = K1 at h4 ⊢
  have k2 : K1 b2 = some (.cells [.sc (.int .i64 0), .sl [] .nil] 61) := by rw [← hK1]; simp [Heap.set]
  have kW : HWk H K1 := by rw [← hK1]; exact HWk.new h2 (HWk.refl _)
  clear hK1
  have hoff := fun K : Heap => c_off (H := K) s (p := 0) hs (by omega)
  rw [List.drop_zero] at hoff
  refine ACall.eq (hoff _) ?_
  obtain ⟨o, ho⟩ : ∃ o, (offR s).1 = o := ⟨_, rfl⟩
  obtain ⟨k, hk⟩ : ∃ k, (offR s).2 = k := ⟨_, rfl⟩
  rw [ho, hk]
  simp -implicitDefEqProofs [n24]
  by_cases hlen : 4000 < s.length
  · rw [refZ_long s hlen]
    have l1 : ¬ (s.length : Int) ≤ 4000 := by omega
    have l2 : (4000 : Int) < (s.length : Int) := by omega
    have l1' : ¬ s.length ≤ 4000 := by omega
    have h5 : (5 : Int) < (s.length : Int) := by omega
    have h5' : 5 < s.length := by omega
    refine AGo.rounds (fun μ ρ K => ρ 0 = str s ∧ ρ 2 = .sc (.pointer (some ⟨b2, 0, none⟩)) ∧ ρ 4 = .sc (.pointer (some ⟨b4, 0, none⟩)) ∧ ρ 6 = .sc (.bool k) ∧ ρ 7 = .sc (.int .i64 5) ∧ K b2 = some (.cells [.sc (.int .i64 0), .sl [] .nil] 61) ∧ HWk H K) ?_ (m := 0) (HLe.refl _)
      ⟨by simp, by simp, by simp, by simp, by simp, by simp [Heap.set, n24, k2], ?_⟩
    · rintro μ ρ K ih ⟨r0, r2, r4, r6, r7, q2, qW⟩
      cases k with
      | false =>
        simp -implicitDefEqProofs [r0, r2, r4, r6, r7, hlen, l1, l2, l1', h5, h5', q2, zd]
        exact HWk.new h2 qW
      | true =>
        simp -implicitDefEqProofs [r0, r2, r4, r6, r7, hlen, l1, l2, l1', h5, h5', q2, zd]
        exact HWk.new h2 qW
    · exact HWk.new e4 kW
  · have l1 : (s.length : Int) ≤ 4000 := by omega
    have l2 : ¬ (4000 : Int) < (s.length : Int) := by omega
    have l1' : s.length ≤ 4000 := by omega
    have hres := refZ_res s l1'
    rw [ho] at hres
    obtain ⟨R, hR⟩ : ∃ R, resR s = R := ⟨_, rfl⟩
    rw [hR] at hres
    unfold resR at hR
    rw [hk] at hR
    refine AGo.rounds (fun μ ρ K => ∃ (p f : Nat) (L : List (Int × Int)) (ok : Bool), μ = (if ok = true then s.length + 6 - p else 0) ∧ p ≤ 4010 ∧ 5 ≤ p ∧ L.length ≤ p ∧ s.length ≤ f + p ∧ (ok = true → goR f (s.drop p) L = R) ∧ (ok = false → R = (false, L)) ∧
      ρ 0 = str s ∧ ρ 2 = .sc (.pointer (some ⟨b2, 0, none⟩)) ∧ ρ 4 = .sc (.pointer (some ⟨b4, 0, none⟩)) ∧ ρ 6 = .sc (.bool ok) ∧ ρ 7 = .sc (.int .i64 (p : Int)) ∧
      RowZ 2 159 61 K1 b4 L.length (fun t => [.sc (.int .i64 o), .sl (L.map chAV) t]) K) ?_ (m := if k = true then s.length + 1 else 0) (HLe.refl _)
      ⟨5, s.length, [], k, ?_, by omega, by omega, by simp, by omega, fun h => by rw [h, if_pos rfl] at hR; exact hR, fun h => by rw [h, if_neg (by simp)] at hR; exact hR.symm, by simp, by simp, by simp, by simp, by simp, ⟨?_, h4, .nil, by simp [Heap.set], .inl ⟨rfl, rfl⟩⟩⟩
    · rintro μ ρ K ih ⟨p, f, L, ok, rfl, hp1, hp5, hL, hf, hgo, hno, r0, r2, r4, r6, r7, hRow⟩
      cases ok with
      | false =>
        obtain rfl := hno rfl
        have q2 := hRow.le _ _ k2
        have hrz : refZ s = none := by rw [hres, if_neg (by simp)]
        rw [hrz]
        by_cases hp : p < s.length
        · simp -implicitDefEqProofs [r0, r2, r4, r6, r7, hp, l1, l2, l1', q2, zd]
          exact HWk.new h2 (kW.trans hRow.le.wk)
        · simp -implicitDefEqProofs [r0, r2, r4, r6, r7, hp, l1, l2, l1', q2, zd]
          exact HWk.new h2 (kW.trans hRow.le.wk)
      | true =>
        have hgo := hgo rfl
        rcases Nat.lt_or_ge p s.length with hp | hp
        · obtain ⟨p1, hp1e⟩ : ∃ x, p + 1 = x := ⟨_, rfl⟩
          have hw1 : IntKind.i64.wrap ((p : Int) + 1) = (p1 : Int) := wadd (b := 1) hp1e (by omega)
          simp -implicitDefEqProofs [r0, r2, r4, r6, r7, hp, l1, l2, l1', hw1]
          refine AGo.joinLoop (fun ρ' K' => ∃ q t, digR 0 (s.drop p1) = (t, s.drop q) ∧ p1 ≤ q ∧ q ≤ s.length ∧ ρ' 0 = str s ∧ ρ' 2 = .sc (.pointer (some ⟨b2, 0, none⟩)) ∧ ρ' 4 = .sc (.pointer (some ⟨b4, 0, none⟩)) ∧ ρ' 7 = .sc (.int .i64 (q : Int)) ∧ ρ' 8 = .sc (.int .i64 (t : Int)) ∧ K' = K) (fun k' hk' => ?_) ?_
          · refine AGo.rounds (fun μ ρ' K' => ∃ q t, μ = s.length - q ∧ digR t (s.drop q) = digR 0 (s.drop p1) ∧ p1 ≤ q ∧ q ≤ s.length ∧ t < 135694656010 ∧ ρ' 0 = str s ∧ ρ' 2 = .sc (.pointer (some ⟨b2, 0, none⟩)) ∧ ρ' 4 = .sc (.pointer (some ⟨b4, 0, none⟩)) ∧ ρ' 7 = .sc (.int .i64 (q : Int)) ∧ ρ' 8 = .sc (.int .i64 (t : Int)) ∧ K' = K) ?_ (m := s.length - p1) (HLe.refl _)
              ⟨p1, 0, rfl, rfl, by omega, by omega, by omega, by simp [r0], by simp [r2], by simp [r4], by simp, by simp, rfl⟩
            clear ih hgo hno r0 r2 r4 r6 r7
            rintro μ ρ' K' ih2 ⟨q, t, rfl, hD, hq1, hq2, ht, r0, r2, r4, r7, r8, rfl⟩
            have out : digR t (s.drop q) = (t, s.drop q) → digR 0 (s.drop p1) = (t, s.drop q) := fun h => by rw [← hD, h]
            rcases Nat.lt_or_ge q s.length with hq | hq
            · obtain ⟨c, hc, hc'⟩ := getAt hq
              obtain ⟨m, hm⟩ : ∃ m, c.toNat = m := ⟨_, rfl⟩
              have hdg : isDg c = true ↔ 48 ≤ m ∧ m ≤ 57 := by rw [isDg_iff, hm]
              have c1 : (48 : Int) ≤ (m : Int) ↔ 48 ≤ m := by omega
              have c2 : (m : Int) ≤ 57 ↔ m ≤ 57 := by omega
              have c3 : (t : Int) < 13569465600 ↔ t < 13569465600 := by omega
              by_cases h48 : 48 ≤ m
              · by_cases h57 : m ≤ 57
                · by_cases htt : t < 13569465600
                  · have hdc : isDg c = true := hdg.2 ⟨h48, h57⟩
                    have hst := digR_at hq hc' hdc htt
                    unfold dv at hst
                    rw [hm] at hst
                    obtain ⟨A1, hA1⟩ : ∃ x, 10 * t = x := ⟨_, rfl⟩
                    obtain ⟨A2, hA2⟩ : ∃ x, A1 + m = x := ⟨_, rfl⟩
                    obtain ⟨A3, hA3⟩ : ∃ x, A2 - 48 = x := ⟨_, rfl⟩
                    obtain ⟨q1, hq1e⟩ : ∃ x, q + 1 = x := ⟨_, rfl⟩
                    have w1 : IntKind.i64.wrap (10 * (t : Int)) = (A1 : Int) := wmul (a := 10) hA1 (by omega)
                    have w2 : IntKind.i64.wrap ((A1 : Int) + (m : Int)) = (A2 : Int) := wadd hA2 (by omega)
                    have w3 : IntKind.i64.wrap ((A2 : Int) - 48) = (A3 : Int) := wsub (b := 48) hA3 (by omega) (by omega)
                    have w4 : IntKind.i64.wrap (m : Int) = (m : Int) := wrap_i64 (by omega) (by omega)
                    have w5 : IntKind.i64.wrap ((q : Int) + 1) = (q1 : Int) := wadd (b := 1) hq1e (by omega)
                    have hAA : 10 * t + (m - 48) = A3 := by omega
                    rw [hAA, hq1e] at hst
                    simp -implicitDefEqProofs [r0, r7, r8, hq, hc, hm, c1, c2, c3, h48, h57, htt, w1, w2, w3, w4, w5]
                    exact AGo.again ih2 (m' := s.length - q1) (by omega) (HLe.refl _) ⟨q1, A3, rfl, by rw [← hst, hD], by omega, by omega, by omega, by simp [r0], by simp [r2], by simp [r4], by simp, by simp, rfl⟩
                  · simp -implicitDefEqProofs [r0, r7, r8, hq, hc, hm, c1, c2, c3, h48, h57, htt]
                    refine hk' _ _ ⟨q, t, out (digR_no hq hc' (.inr htt)), hq1, hq2, by simp [r0], by simp [r2], by simp [r4], by simp [r7], by simp [r8], rfl⟩
                · simp -implicitDefEqProofs [r0, r7, r8, hq, hc, hm, c1, c2, c3, h48, h57]
                  refine hk' _ _ ⟨q, t, out (digR_no hq hc' (.inl ?_)), hq1, hq2, by simp [r0], by simp [r2], by simp [r4], by simp [r7], by simp [r8], rfl⟩
                  exact Bool.eq_false_iff.2 fun h => h57 (hdg.1 h).2
              · simp -implicitDefEqProofs [r0, r7, r8, hq, hc, hm, c1, c2, c3, h48]
                refine hk' _ _ ⟨q, t, out (digR_no hq hc' (.inl ?_)), hq1, hq2, by simp [r0], by simp [r2], by simp [r4], by simp [r7], by simp [r8], rfl⟩
                exact Bool.eq_false_iff.2 fun h => h48 (hdg.1 h).1
            · have hq' : ¬ q < s.length := by omega
              simp -implicitDefEqProofs [r0, r7, r8, hq']
              exact hk' _ _ ⟨q, t, out (digR_end hq), hq1, hq2, by simp [r0], by simp [r2], by simp [r4], by simp [r7], by simp [r8], rfl⟩
          · clear r0 r2 r4 r6 r7
            rintro ρ' K' ⟨q, t, hD, hq1, hq2, r0, r2, r4, r7, r8, rfl⟩
            obtain ⟨ov, hov⟩ : ∃ x, (offR (s.drop q)).1 = x := ⟨_, rfl⟩
            obtain ⟨ok, hok⟩ : ∃ x, (offR (s.drop q)).2 = x := ⟨_, rfl⟩
            have hoq := fun K : Heap => c_off (H := K) s (p := q) hs (by omega)
            rw [hov, hok] at hoq
            obtain ⟨f, rfl⟩ : ∃ f', f = f' + 1 := ⟨f - 1, by omega⟩
            rw [← hp1e] at hD
            have hst := goR_step (L := L) hp hf hD (o := ov) (k := ok) (by rw [← hov, ← hok])
            rw [hgo] at hst
            obtain ⟨q5, hq5⟩ : ∃ x, q + 5 = x := ⟨_, rfl⟩
            have hw5 : IntKind.i64.wrap ((q : Int) + 5) = (q5 : Int) := wadd (b := 5) hq5 (by omega)
            rw [hq5] at hst
            simp -implicitDefEqProofs [r0, r2, r4, r7, r8]
            refine ACall.eq (hoq _) ?_
            have hlm : (L.map chAV).length = L.length := by simp
            have hsz : szs 2 (L.map chAV) = true := by
              simp only [szs, List.all_eq_true]
              intro a ha
              obtain ⟨c, _, rfl⟩ := List.mem_map.1 ha
              rfl
            have hd : (L ++ [((t : Int), ov)]).map chAV = L.map chAV ++ [chAV ((t : Int), ov)] := by simp
            rw [← hlm] at hRow
            have hl1 : (L ++ [((t : Int), ov)]).length = (L.map chAV ++ [chAV ((t : Int), ov)]).length := by simp
            generalize L.map chAV = xs at *
            obtain ⟨t0, q0, _⟩ := hRow.row
            simp -implicitDefEqProofs [r4, r8, q0]
            obtain ⟨tk, G0, G, g1, g2, g3, g4, g5, g6⟩ := hRow.grows
            obtain rfl : t0 = tk := by rw [q0] at g1; simpa using g1
            refine AApp.grows el_59 g2 g3 (by simp) hsz (by simp [szs]) (by simp; omega) (by simp [maxLen]; omega) fun t' K' Hn hg' hl' => ?_
            have hn3 := hl' _ _ (hg'.le _ _ g5)
            simp -implicitDefEqProofs [r4, r7, hn3, hw5]
            refine AGo.again ih (m' := if ok = true then s.length + 6 - q5 else 0) (by rw [if_pos rfl]; split <;> omega) (HLe.refl _) ⟨q5, f, L ++ [((t : Int), ov)], ok, rfl, by omega, by omega, by simp; omega, by omega, fun h => by rw [h, if_pos rfl] at hst; exact hst.symm, fun h => by rw [h, if_neg (by simp)] at hst; exact hst, by simp [r0], by simp [r2], by simp [r4], by simp, by simp, ?_⟩
            have hsd := RowZ.stored (T := 61) (F := fun t' => [.sc (.int .i64 o), .sl (xs ++ [chAV ((t : Int), ov)]) t']) g4 h4 g5 hg' hl'
            rw [hl1, hd]
            exact hsd
        · have hp' : ¬ p < s.length := by omega
          obtain ⟨t, q4, _⟩ := hRow.row
          have q2 := hRow.le _ _ k2
          rw [List.drop_of_length_le hp, goR_nil] at hgo
          subst hgo
          simp only [true_and] at hres
          have hm := fun K : Heap => c_rMay (H := K) ⟨o, L⟩ t (by show L.length ≤ _; omega)
          have hx := fun K : Heap => c_rText (H := K) ⟨o, L⟩ t (by show L.length ≤ _; omega)
          simp -implicitDefEqProofs [r0, r2, r4, r6, r7, hp', l1, l2, l1', q4]
          first | refine ACall.eq (hm _) ?_ | refine AQS.eq (hm _) ?_
          cases hmz : mayZ ⟨o, L⟩ with
          | false =>
            have hrz : refZ s = none := by rw [hres, hmz, if_neg (by simp)]
            rw [hrz]
            simp -implicitDefEqProofs [r2, q2, zd]
            exact HWk.new h2 (kW.trans hRow.le.wk)
          | true =>
            simp -implicitDefEqProofs [r4, q4]
            first | refine ACall.eq (hx _) ?_ | refine AQS.eq (hx _) ?_
            by_cases heq : textZ ⟨o, L⟩ = s
            · have hrz : refZ s = some ⟨o, L⟩ := by rw [hres, hmz, if_pos ⟨rfl, heq⟩]
              rw [hrz]
              simp -implicitDefEqProofs [r0, r2, r4, q4, q2, zd, heq]
              exact HWk.new h2 (kW.trans hRow.le.wk)
            · have hrz : refZ s = none := by rw [hres, hmz, if_neg (fun h => heq h.2)]
              rw [hrz]
              have hbe : (textZ ⟨o, L⟩ == s) = false := by simpa using heq
              simp -implicitDefEqProofs [r0, r2, r4, q4, q2, zd, heq, hbe]
              exact HWk.new h2 (kW.trans hRow.le.wk)
    · cases k <;> simp
    · exact HLe.set_fresh h4
end Go.Proofs.YtmoncokklkiikaaGreatDoor
namespace Go.Proofs.YtmoncokklkiikaaGreatDoor
open Rg Go Go.RowKit Lib
variable {H : Heap}
structure GlobE (H : Heap) : Prop where
  z : GlobZ H
  syn : ∃ te pe, H 2 = some (.ro [.iface te pe])
  rng : ∃ te pe, H 3 = some (.ro [.iface te pe])
theorem GlobE.le {H K : Heap} (h : GlobE H) (hk : HLe H K) : GlobE K := by
  obtain ⟨hz, ⟨t1, p1, h1⟩, t2, p2, h2⟩ := h
  exact ⟨hz.le hk, ⟨t1, p1, hk _ _ h1⟩, t2, p2, hk _ _ h2⟩
theorem GlobE.new {H : Heap} {b : Nat} {o : AObj} (h : GlobE H) (hb : H b = none) : GlobE (H.set b o) := h.le (HLe.set_fresh hb)
theorem GlobE.set {H : Heap} {b : Nat} {o : AObj} (h : GlobE H) (hb : ∀ us, H b ≠ some (.ro us)) : GlobE (H.set b o) := by
  obtain ⟨hz, ⟨t1, p1, h1⟩, t2, p2, h2⟩ := h
  have key : ∀ {g us}, H g = some (.ro us) → H.set b o g = some (.ro us) := fun {g us} hg => by
    unfold Heap.set
    split
    · rename_i hc; subst hc; exact absurd hg (hb _)
    · exact hg
  exact ⟨hz.set hb, ⟨t1, p1, key h1⟩, t2, p2, key h2⟩
theorem ACalls.kit {P : Program} {f : FuncId} {vs : List Value} {R : Value → Prop} (h : ∀ (W0 : World) (C : Com) (w : World), Inv W0 C H w → Calls P f vs.toArray w fun e w' => ∃ r, R r ∧ e = .returned r ∧ Below w.heap.size w w') : ACalls P f (vs.map AV.sc) H (fun v K => ∃ r, R r ∧ v = avOf r ∧ K = H) := by
  intro W0 C w us hi ha
  obtain rfl := scs_of ha
  exact .inl ((h W0 C w hi).mono fun e w' ⟨r, h0, h1, h2⟩ => ⟨_, _, C, r, h1, ⟨r, h0, rfl, rfl⟩, CLe.refl C, rel_avOf r, hi.step h2⟩)
def errOf (ok : Bool) (e : Value) : Prop := (ok = true ∧ e = .nilIface) ∨ (ok = false ∧ ∃ t p, e = .iface t p)
def pU (a : List UInt8) : Nat × Bool :=
  match Lib.parseUintB 16 a with
  | .ok u => (u, true)
  | .range => (65535, false)
  | _ => (0, false)
theorem puM_le : ∀ (l : List UInt8) (M n u : Nat), n ≤ M → Lib.parseUintM M n l = .ok u → u ≤ M
  | [], M, n, u, hn, h => by unfold Lib.parseUintM at h; cases h; exact hn
  | c :: r, M, n, u, hn, h => by
    unfold Lib.parseUintM at h
    split at h
    · split at h
      · cases h
      · split at h
        · cases h
        · exact puM_le r M _ u (by omega) h
    · cases h
theorem pU_le (a : List UInt8) : (pU a).1 ≤ 65535 := by
  unfold pU
  split
  · rename_i u h
    unfold Lib.parseUintB at h
    split at h
    · cases h
    · exact puM_le _ _ _ _ (by omega) h
  · simp
  · simp
theorem readZ_pU (c : UInt8) (r : List UInt8) : readZ (c :: r) = if c = 43 ∨ c = 45 then (offV (decide (c = 45)) (pU r).1, (pU r).2) else (0, false) := by
  by_cases h : c = 43 ∨ c = 45
  · unfold readZ pU
    simp only
    rw [if_pos h, if_pos h]
    cases Lib.parseUintB 16 r <;> first | rfl | (simp only; unfold offV; split <;> rfl)
  · unfold readZ
    simp only
    rw [if_neg h, if_neg h]
theorem c_pU16 (hG : GlobE H) (a : List UInt8) (ha : a.length ≤ 1000000) : ACalls Tryz.prog 167 [str a, .sc (.int .i64 10), .sc (.int .i64 16)] H (fun v K => ∃ e, errOf (pU a).2 e ∧ v = .tup [.sc (.int .u64 (pU a).1), .sc e] ∧ K = H) := by
  obtain ⟨_, ⟨t1, p1, h1⟩, t2, p2, h2⟩ := hG
  refine (ACalls.kit (vs := [.string ⟨a.toArray⟩, .int .i64 10, .int .i64 16]) (R := fun r => ∃ e, errOf (pU a).2 e ∧ r = .tuple #[.int .u64 (pU a).1, e]) fun W0 C w hi => ?_).mono ?_
  · have hsz : (⟨a.toArray⟩ : ByteArray).size = a.length := by simp [Lib.size_eq]
    unfold pU
    cases hp : Lib.parseUintB 16 a
    case ok u => exact (Tryz.strconv_ParseUint_10_at16_ok ⟨a.toArray⟩ (by omega) u hp w).mono fun e w' ⟨q1, q2⟩ => ⟨_, ⟨_, .inl ⟨rfl, rfl⟩, rfl⟩, q1, by rcases q2 with rfl | rfl; exact Below.refl _ _; exact Lib.bytesWorld_below w _ _⟩
    case range => exact (Tryz.strconv_ParseUint_10_at16_range ⟨a.toArray⟩ (by omega) hp _ w (hi.ro h2 (j := 0) rfl) (.inr ⟨_, _, rfl⟩)).mono fun e w' ⟨N, q1, _, _, q2⟩ => ⟨_, ⟨_, .inr ⟨rfl, _, _, rfl⟩, rfl⟩, q1, q2⟩
    exact (Any.strconv_ParseUint_10_at16_syntax Tryz.laysPu14 ⟨a.toArray⟩ (by omega) hp _ w (hi.ro h1 (j := 0) rfl) (.inr ⟨_, _, rfl⟩)).mono fun e w' ⟨N, q1, _, _, q2⟩ => ⟨_, ⟨_, .inr ⟨rfl, _, _, rfl⟩, rfl⟩, q1, q2⟩
  · rintro v K ⟨r, ⟨e, he, rfl⟩, rfl, rfl⟩
    refine ⟨e, he, ?_, rfl⟩
    rcases he with ⟨_, rfl⟩ | ⟨_, t, p, rfl⟩ <;> rfl
theorem c_pI64 (hG : GlobE H) (a : List UInt8) (ha : a.length ≤ 1000000) : ACalls Tryz.prog 122 [str a, .sc (.int .i64 10), .sc (.int .i64 64)] H (fun v K => ∃ e, errOf (pI a).2 e ∧ v = .tup [.sc (.int .i64 (pI a).1), .sc e] ∧ K = H) := by
  obtain ⟨_, ⟨t1, p1, h1⟩, t2, p2, h2⟩ := hG
  refine (ACalls.kit (vs := [.string ⟨a.toArray⟩, .int .i64 10, .int .i64 64]) (R := fun r => ∃ e, errOf (pI a).2 e ∧ r = .tuple #[.int .i64 (pI a).1, e]) fun W0 C w hi => ?_).mono ?_
  · have hsz : (⟨a.toArray⟩ : ByteArray).size = a.length := by simp [Lib.size_eq]
    unfold pI
    cases hp : Lib.parseIntB 64 a
    case ok u => exact (Tryz.strconv_ParseInt_10_at64_ok ⟨a.toArray⟩ (by omega) u hp w).mono fun e w' ⟨q1, q2⟩ => ⟨_, ⟨_, .inl ⟨rfl, rfl⟩, rfl⟩, q1, by rcases q2 with rfl | ⟨t, rfl⟩; exact Below.refl _ _; exact Lib.bytesWorld_below w _ _⟩
    case range => exact (Tryz.strconv_ParseInt_10_at64_range ⟨a.toArray⟩ (by omega) hp _ w (hi.ro h2 (j := 0) rfl) (.inr ⟨_, _, rfl⟩)).mono fun e w' ⟨N, q1, _, _, q2⟩ => ⟨_, ⟨_, .inr ⟨rfl, _, _, rfl⟩, rfl⟩, q1, q2⟩
    exact (Any.strconv_ParseInt_10_at64_syntax Tryz.laysC174 ⟨a.toArray⟩ (by omega) hp _ w (hi.ro h1 (j := 0) rfl) (.inr ⟨_, _, rfl⟩)).mono fun e w' ⟨N, q1, _, _, q2⟩ => ⟨_, ⟨_, .inr ⟨rfl, _, _, rfl⟩, rfl⟩, q1, q2⟩
  · rintro v K ⟨r, ⟨e, he, rfl⟩, rfl, rfl⟩
    refine ⟨e, he, ?_, rfl⟩
    rcases he with ⟨_, rfl⟩ | ⟨_, t, p, rfl⟩ <;> rfl
theorem c_index1 (s : List UInt8) (c : UInt8) : AOk Tryz.prog 183 [str s, str [c]] H (.sc (.int .i64 (Lib.indexByte s c))) H :=
  AOk.kit (vs := [.string ⟨s.toArray⟩, .string ⟨[c].toArray⟩]) (r := .int .i64 (Lib.indexByte s c)) fun W0 C w _ => (Tryz.strings_Index_one ⟨s.toArray⟩ c w).mono fun e w' ⟨h1, h2⟩ => ⟨h1, h2 ▸ Below.refl _ _⟩
theorem sp_idx (c : UInt8) : ∀ s : List UInt8, (Lib.indexByte s c = -1 ∧ sp c s = [s]) ∨ ∃ o : Nat, Lib.indexByte s c = (o : Int) ∧ o < s.length ∧ sp c s = s.take o :: sp c (s.drop (o + 1))
  | [] => .inl ⟨rfl, rfl⟩
  | x :: r => by
    unfold Lib.indexByte
    by_cases hx : x = c
    · subst hx
      right
      exact ⟨0, by simp, by simp, by simp [sp]⟩
    · have hb : (x == c) = false := by simpa using hx
      rw [hb]
      rcases sp_idx c r with ⟨h1, h2⟩ | ⟨o, h1, h2, h3⟩
      · left
        rw [h1]
        refine ⟨by decide, ?_⟩
        unfold sp
        rw [if_neg hx, h2]
      · right
        rw [h1]
        refine ⟨o + 1, ?_, by simpa using h2, ?_⟩
        · have : ((o : Int) == -1) = false := by rw [beq_eq_false_iff_ne]; omega
          rw [this]
          rfl
        · rw [sp, if_neg hx, h3]
          simp
theorem ofV_nil : ofV .nilIface = .sc .nilIface := rfl
theorem tkd_err : tkd Tryz.prog 179 = 8 := by kernel_rfl
set_option maxHeartbeats 2000000 in
theorem c_zRead (hG : GlobE H) (s : List UInt8) (hs : s.length = 5) : AOk Tryz.prog 121 [str s] H (.tup [.sc (.int .i64 (readZ s).1), .sc (.bool (readZ s).2)]) H := by
  match s, hs with
  | c :: r, hs =>
    have hr : r.length = 4 := by simpa using hs
    rw [readZ_pU]
    refine ACalls.into Tryz.func121 rfl Tryz.ntmps121 Tryz.results121 (by simp) ?_
    obtain ⟨u, hu⟩ : ∃ u, (pU r).1 = u := ⟨_, rfl⟩
    obtain ⟨k, hk⟩ : ∃ k, (pU r).2 = k := ⟨_, rfl⟩
    have hul := pU_le r
    have hc := fun K (h : GlobE K) => c_pU16 h r (by omega)
    rw [hu, hk] at hc ⊢
    rw [hu] at hul
    by_cases h43 : c = 43 ∨ c = 45
    · rw [if_pos h43]
      have two : (c.toNat = 43 ∧ ¬ c.toNat = 45 ∧ decide (c = 45) = false) ∨ (¬ c.toNat = 43 ∧ c.toNat = 45 ∧ decide (c = 45) = true) := by
        rcases h43 with rfl | rfl
        · exact .inl ⟨rfl, by decide, by decide⟩
        · exact .inr ⟨by decide, rfl, by decide⟩
      obtain ⟨a, ha⟩ : ∃ x, u / 100 = x := ⟨_, rfl⟩
      obtain ⟨b, hb⟩ : ∃ x, a * 3600 = x := ⟨_, rfl⟩
      obtain ⟨e, he⟩ : ∃ x, u % 100 = x := ⟨_, rfl⟩
      obtain ⟨f, hf⟩ : ∃ x, e * 60 = x := ⟨_, rfl⟩
      obtain ⟨g, hg⟩ : ∃ x, b + f = x := ⟨_, rfl⟩
      have hov : ∀ t, offV t u = if t = true then -(g : Int) else (g : Int) := fun t => by unfold offV; rw [ha, hb, he, hf, hg]
      have v1 : IntKind.u64.wrap ((u : Int) / 100) = (a : Int) := by
        rw [← ha]; rw [show (u : Int) / 100 = ((u / 100 : Nat) : Int) by omega]; exact wrap_u64 (by omega) (by omega)
      have v2 : (u : Int).tmod 100 = (e : Int) := wmod (b := 100) he
      have v3 : IntKind.i64.wrap (a : Int) = (a : Int) := wrap_i64 (by omega) (by omega)
      have v4 : IntKind.i64.wrap (e : Int) = (e : Int) := wrap_i64 (by omega) (by omega)
      have w2 : IntKind.i64.wrap ((a : Int) * 3600) = (b : Int) := wmul (b := 3600) hb (by omega)
      have w4 : IntKind.i64.wrap ((e : Int) * 60) = (f : Int) := wmul (b := 60) hf (by omega)
      have w5 : IntKind.i64.wrap ((b : Int) + (f : Int)) = (g : Int) := wadd hg (by omega)
      have w6 : IntKind.i64.wrap (-(g : Int)) = -(g : Int) := wrap_i64 (by omega) (by omega)
      rw [hov]
      have ht : List.take 4 r = r := List.take_of_length_le (by omega)
      have ii : ∀ n : Nat, (c.toNat : Int) = (n : Int) ↔ c.toNat = n := fun n => by omega
      have i43 := ii 43
      have i45 := ii 45
      simp only [Int.cast_ofNat_Int] at i43 i45
      rcases two with ⟨h1, h2, h3⟩ | ⟨h1, h2, h3⟩
      · rw [h3]
        simp -implicitDefEqProofs [hr, h1, h2, ht, i43, i45]
        refine ACall.intro (hc _ hG) fun v K hv => ?_
        obtain ⟨ev, he, rfl, rfl⟩ := hv
        rcases he with ⟨rfl, rfl⟩ | ⟨rfl, t, p, rfl⟩
        · simp -implicitDefEqProofs [v1, v2, v3, v4, w2, w4, w5, h1, h2, i43, i45]
          refine go_draw 5 f_mixed (by decide +kernel) ?_
          simp -implicitDefEqProofs [ofV_nil, tkd_err]
        · simp -implicitDefEqProofs [v1, v2, v3, v4, w2, w4, w5, h1, h2, i43, i45]
          refine go_draw 5 f_mixed (by decide +kernel) ?_
          simp -implicitDefEqProofs [ofV_nil, tkd_err]
      · rw [h3]
        simp -implicitDefEqProofs [hr, h1, h2, ht, i43, i45]
        refine ACall.intro (hc _ hG) fun v K hv => ?_
        obtain ⟨ev, he, rfl, rfl⟩ := hv
        rcases he with ⟨rfl, rfl⟩ | ⟨rfl, t, p, rfl⟩
        · simp -implicitDefEqProofs [v1, v2, v3, v4, w2, w4, w5, w6, h1, h2, i43, i45]
          refine go_draw 5 f_mixed (by decide +kernel) ?_
          simp -implicitDefEqProofs [ofV_nil, tkd_err]
        · simp -implicitDefEqProofs [v1, v2, v3, v4, w2, w4, w5, w6, h1, h2, i43, i45]
          refine go_draw 5 f_mixed (by decide +kernel) ?_
          simp -implicitDefEqProofs [ofV_nil, tkd_err]
    · rw [if_neg h43]
      have n43 : ¬ c.toNat = 43 := fun h => h43 (.inl (UInt8.toNat_inj.1 h))
      have n45 : ¬ c.toNat = 45 := fun h => h43 (.inr (UInt8.toNat_inj.1 h))
      have i43 : ¬ (c.toNat : Int) = 43 := by omega
      have i45 : ¬ (c.toNat : Int) = 45 := by omega
      simp -implicitDefEqProofs [hr, n43, n45, i43, i45]
end Go.Proofs.YtmoncokklkiikaaGreatDoor
namespace Go.Proofs.YtmoncokklkiikaaGreatDoor
open Rg Go Go.RowKit
variable {H : Heap}
def SplitA (s : List UInt8) (c : UInt8) (H : Heap) (r : AV) (K : Heap) : Prop :=
  ∃ b1 b2 b3, r = .sc (.func (.func 203) #[] #[.pointer (some ⟨b1, 0, none⟩), .pointer (some ⟨b2, 0, none⟩), .pointer (some ⟨b3, 0, none⟩)]) ∧ HLe H K ∧
    K b1 = some (.cells [str [c]] 9) ∧ K b2 = some (.cells [str s] 9) ∧ K b3 = some (.cells [.sc (.int .i64 0)] 3) ∧ H b1 = none ∧ H b2 = none ∧ H b3 = none ∧ b1 ≠ b2 ∧ b3 ≠ b2
theorem c_splitSeq0 (s : List UInt8) (c : UInt8) : ACalls Tryz.prog 166 [str s, str [c], .sc (.int .i64 0)] H (SplitA s c H) := by
  refine ACalls.into Tryz.func166 rfl Tryz.ntmps166 Tryz.results166 (by simp) ?_
  simp -implicitDefEqProofs
  refine AAlloc.intro fun b2 h2 => ?_
  simp -implicitDefEqProofs
  refine AAlloc.intro fun b1 h1 => ?_
  have n12 : b1 ≠ b2 := by intro e; subst e; simp [Heap.set] at h1
  have e1 : H b1 = none := (HLe.set_fresh h2).none h1
  simp -implicitDefEqProofs
  refine AAlloc.intro fun b3 h3 => ?_
  have n32 : b3 ≠ b2 := by intro e; subst e; simp [Heap.set, n12.symm] at h3
  have n31 : b3 ≠ b1 := by intro e; subst e; simp [Heap.set] at h3
  have e3 : H b3 = none := by simpa [Heap.set, n31, n32] using h3
  simp -implicitDefEqProofs
  refine ⟨_, _, wk_refl _, HWk.refl _, b1, b2, b3, rfl, ((HLe.set_fresh h2).trans (HLe.set_fresh h1)).trans (HLe.set_fresh h3), ?_, ?_, ?_, e1, h2, e3, n12, n32⟩
  · simp [Heap.set, n31.symm]
  · simp [Heap.set, n12.symm, n32.symm]
  · simp [Heap.set]
theorem c_splitSeq (s : List UInt8) (c : UInt8) : ACalls Tryz.prog 120 [str s, str [c]] H (SplitA s c H) := by
  refine ACalls.into Tryz.func120 rfl Tryz.ntmps120 Tryz.results120 (by simp) ?_
  simp -implicitDefEqProofs
  refine ACall.intro (c_splitSeq0 s c) fun v K hv => ?_
  obtain ⟨b1, b2, b3, rfl, h⟩ := hv
  simp -implicitDefEqProofs
  exact ⟨_, _, wk_refl _, HWk.refl _, b1, b2, b3, rfl, h⟩
theorem c_splitIt {l b1 b2 b3 : Nat} {s : List UInt8} {c : UInt8} (hs : s.length ≤ 1000000) (n12 : b1 ≠ b2) (n32 : b3 ≠ b2) (J : Nat → Heap → Prop) (Jx : Heap → Prop)
    (hJ : ∀ j K, J j K → K b1 = some (.cells [str [c]] 9) ∧ K b3 = some (.cells [.sc (.int .i64 0)] 3) ∧ ∃ x, K b2 = some (.cells [str x] 9))
    (hS : ∀ j K x, J j K → J j (K.set b2 (.cells [str x] 9)))
    (hY : ∀ (j : Nat) (K : Heap) (w x : List UInt8), (sp c s)[j]? = some w → J j K → K b2 = some (.cells [str x] 9) → ACalls Tryz.prog (Tryz.prog.funcs.size + 1 + l) [str w] K (fun v K' => (v = .sc (.bool true) ∧ J (j + 1) K' ∧ K' b2 = some (.cells [str x] 9)) ∨ (v = .sc (.bool false) ∧ Jx K')))
    (h0 : J 0 H) (hb : H b2 = some (.cells [str s] 9)) : ACalls Tryz.prog 203 [.sc (.func (.yield l) #[] #[]), ptr b1, ptr b2, ptr b3] H (fun _ K => J (sp c s).length K ∨ Jx K) := by
  obtain ⟨k1, k3, _⟩ := hJ 0 H h0
  refine ACalls.into Tryz.func203 rfl Tryz.ntmps203 Tryz.results203 (by simp) ?_
  simp -implicitDefEqProofs [k1]
  refine AGo.rounds (fun m ρ K => ∃ (j : Nat) (x : List UInt8), m = x.length ∧ x.length ≤ s.length ∧ sp c x = (sp c s).drop j ∧ ρ 0 = .sc (.func (.yield l) #[] #[]) ∧ ρ 1 = ptr b1 ∧ ρ 2 = ptr b2 ∧ ρ 3 = ptr b3 ∧ K b2 = some (.cells [str x] 9) ∧ J j K) ?_ (m := s.length) (HLe.refl _)
    ⟨0, s, rfl, Nat.le_refl _, rfl, by simp, by simp, by simp, by simp, hb, h0⟩
  clear h0 hb k1 k3
  rintro m ρ K ih ⟨j, x, rfl, hx, hsp, r0, r1, r2, r3, k2, hJK⟩
  obtain ⟨k1, k3, _⟩ := hJ j K hJK
  have hidx := fun K : Heap => c_index1 (H := K) x c
  rcases sp_idx c x with ⟨h1, h2⟩ | ⟨o, h1, h2, h3⟩
  · rw [h1] at hidx
    rw [h2] at hsp
    have hlt : j < (sp c s).length := by
      refine Nat.lt_of_not_le fun h => ?_
      rw [List.drop_of_length_le h] at hsp
      cases hsp
    have hj : (sp c s)[j]? = some x := by
      have := congrArg (fun l => l[0]?) hsp
      simpa using this.symm
    have hlen : (sp c s).length = j + 1 := by
      have := congrArg List.length hsp
      simp at this
      omega
    simp -implicitDefEqProofs [r0, r1, r2, r3, k1, k2]
    refine ACall.eq (hidx _) ?_
    simp -implicitDefEqProofs [r0, r1, r2, r3, k1, k2]
    refine ACall.intro (hY j K x x hj hJK k2) fun v K' hv => ?_
    rcases hv with ⟨rfl, hJ', _⟩ | ⟨rfl, hJx⟩
    · simp -implicitDefEqProofs
      exact ⟨_, _, wk_refl _, HWk.refl _, .inl (by rw [hlen]; exact hJ')⟩
    · simp -implicitDefEqProofs
      exact ⟨_, _, wk_refl _, HWk.refl _, .inr hJx⟩
  · rw [h1] at hidx
    rw [h3] at hsp
    have hlt : j < (sp c s).length := by
      refine Nat.lt_of_not_le fun h => ?_
      rw [List.drop_of_length_le h] at hsp
      cases hsp
    rw [List.drop_eq_getElem_cons hlt, List.cons.injEq] at hsp
    have hj : (sp c s)[j]? = some (x.take o) := by rw [List.getElem?_eq_getElem hlt, hsp.1]
    have w1 : IntKind.i64.wrap (o : Int) = (o : Int) := wrap_i64 (by omega) (by omega)
    have hoi : (o : Int) ≤ (x.length : Int) := by omega
    obtain ⟨o1, ho1⟩ : ∃ q, o + 1 = q := ⟨_, rfl⟩
    have w2 : IntKind.i64.wrap ((o : Int) + 1) = (o1 : Int) := wadd (b := 1) ho1 (by omega)
    have hneg : ¬ (o : Int) < 0 := by omega
    have hox : o ≤ x.length := by omega
    have hox1 : o1 ≤ x.length := by omega
    have hoi1 : (o1 : Int) ≤ (x.length : Int) := by omega
    simp -implicitDefEqProofs [r0, r1, r2, r3, k1, k2]
    refine ACall.eq (hidx _) ?_
    simp -implicitDefEqProofs [r0, r1, r2, r3, k1, k2, k3, w1, hneg, hox, hoi]
    refine ACall.intro (hY j K (x.take o) x hj hJK k2) fun v K' hv => ?_
    rcases hv with ⟨rfl, hJ', k2'⟩ | ⟨rfl, hJx⟩
    · obtain ⟨k1', k3', _⟩ := hJ _ _ hJ'
      simp -implicitDefEqProofs [r0, r1, r2, r3, k1', k2', k3', w2, hox1, hoi1]
      refine AGo.again ih (m' := (x.drop o1).length) (by rw [List.length_drop]; omega) (HLe.refl _) ⟨j + 1, x.drop o1, rfl, by rw [List.length_drop]; omega, by rw [← ho1]; exact hsp.2, by simp [r0], by simp [r1], by simp [r2], by simp [r3], by simp [Heap.set], hS _ _ _ hJ'⟩
    · simp -implicitDefEqProofs
      exact ⟨_, _, wk_refl _, HWk.refl _, .inr hJx⟩
end Go.Proofs.YtmoncokklkiikaaGreatDoor
