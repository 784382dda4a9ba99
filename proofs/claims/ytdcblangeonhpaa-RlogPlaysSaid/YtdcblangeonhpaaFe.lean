/- RlogPlays gives true. -/
import Derived.Test.YtdcblangeonhpaaFd
namespace Go.Proofs.Ytdcblangeonhpaa
open Rg Go

structure OprOk (o : Opr) : Prop where
  ix : 0 ≤ o.ix ∧ o.ix ≤ 18446744073709551615
  tm : 0 ≤ o.tm ∧ o.tm ≤ 18446744073709551615
  fits : Fits o.l
  len : o.l.length ≤ maxLen

section
variable {H : Heap} {b : Nat} {i t : Int} {L : List Ent} {T : TypeId} {tk : Tok}

theorem tk_wk (htk : tk = .no ∨ tk = .nil) : wkL [u64 i, u64 t, .sl (L.map Ent.av) tk] (refC i t L) := by
  rcases htk with rfl | rfl <;> simp

theorem rAppend_ok' (hb : H b = some (.cells [u64 i, u64 t, .sl (L.map Ent.av) tk] T)) (htk : tk = .no ∨ tk = .nil) (hs : St i t L) (y : Int) (bd : List UInt8) :
    AOk Try.prog 25 [ptr b, u64 y, bodyAV bd] H (Ent.av ⟨lastI i L + 1, y, bd⟩) (H.set b (.cells (refC i t (L ++ [⟨lastI i L + 1, y, bd⟩])) T)) :=
  AOk.over hb (tk_wk htk) (rAppend_ok (by simp) hs y bd)
theorem rPut_ok' (hb : H b = some (.cells [u64 i, u64 t, .sl (L.map Ent.av) tk] T)) (htk : tk = .no ∨ tk = .nil) (hs : St i t L) (x y : Int) (hx : 0 ≤ x ∧ x ≤ 18446744073709551615) (E : List Ent) (hE : Fits E) (hl : E.length ≤ 1000000) :
    AOk Try.prog 26 [ptr b, u64 x, u64 y, rowAV E] H (.tup [u64 (putE i t L x y E).1.1, boolV (putE i t L x y E).1.2]) (H.set b (.cells (refC i t (putE i t L x y E).2) T)) :=
  AOk.over hb (tk_wk htk) (rPut_ok (by simp) hs x y hx E hE hl)
theorem rCompact_ok' (hb : H b = some (.cells [u64 i, u64 t, .sl (L.map Ent.av) tk] T)) (htk : tk = .no ∨ tk = .nil) (hs : St i t L) (x : Int) {u : Int} (h : termE i t L x = some u) :
    AOk Try.prog 27 [ptr b, u64 x] H (i64 0) (H.set b (.cells (refC x u (L.drop (x - i).toNat)) T)) :=
  AOk.over hb (tk_wk htk) (rCompact_ok (by simp) hs x h)
end

theorem Play.mk2 {H Kc : Heap} {b r : Nat} {n : Nat} {i t : Int} {L : List Ent} {tk : Tok} (htk : tk = .no ∨ tk = .nil) (hle : HLe H Kc) (hbH : H b = none) (hrH : H r = none) (hne : b ≠ r) (hs : St i t L) (hl : L.length ≤ n) :
    Play H b r n ((Kc.set b (.cells (logC i t L) 61)).set r (.cells [u64 i, u64 t, .sl (L.map Ent.av) tk] 53)) i t L :=
  ⟨by simp [hne], ⟨tk, htk, by simp⟩, hs, hl, hbH, (hle.set_new hbH).set_new hrH, hne⟩

set_option maxHeartbeats 4000000 in
theorem rlogPlays_ok {H : Heap} (i0 t0 : Int) (F : List Ent) (ops : List Opr) (x most : Int) (hi : 0 ≤ i0 ∧ i0 ≤ 18446744073709551615) (ht : 0 ≤ t0 ∧ t0 ≤ 18446744073709551615) (hF : Fits F) (hmF : F.length ≤ maxLen) (hmo : ops.length ≤ maxLen)
    (ho : ∀ o ∈ ops, OprOk o) (hx : 0 ≤ x ∧ x ≤ 18446744073709551615) (hm : -9223372036854775808 ≤ most ∧ most ≤ 9223372036854775807) :
    AOk Try.prog 5 [u64 i0, u64 t0, rowAV F, .sl (ops.map Opr.av) .no, u64 x, i64 most] H (boolV true) H := by
  refine ACalls.into Try.func5 rfl Try.ntmps5 Try.results5 (by simp) ?_
  simp -implicitDefEqProofs
  refine ACall.eq known_ok ?_
  by_cases c1 : (30 : Int) < F.length
  · simp -implicitDefEqProofs [c1]
  by_cases c2 : (40 : Int) < ops.length
  · simp -implicitDefEqProofs [c1, c2]
  simp -implicitDefEqProofs [c1, c2]
  refine ACall.eq (bodies_ok F (by omega)) ?_
  cases c3 : bodiesB F with
  | true => simp -implicitDefEqProofs
  | false =>
  by_cases c4 : (4611686018427387904 : Int) ≤ i0
  · simp -implicitDefEqProofs [c4]
  simp -implicitDefEqProofs [c4]
  have hsl := bodiesB_slim c3
  cases c5 : standB i0 F with
  | false =>
    refine ACall.eq (new_bad hF (by omega) hi c5) ?_
    simp -implicitDefEqProofs
    refine ACall.eq (rRow_ok i0 hi F hF (by omega)) ?_
    simp -implicitDefEqProofs [c5]
  | true =>
  have s0 : St i0 t0 F := St.of hi.1 (by omega) ht.1 ht.2 (by omega) hsl c5 hF
  refine ACall.use (new_ok hF hsl (by omega) hi c5) (wkL_refl _) (HWk.refl _) ?_
  rintro v K ⟨b0, hb0, rfl, rfl⟩
  simp -implicitDefEqProofs
  refine ACall.eq (rRow_ok i0 hi F hF (by omega)) ?_
  simp -implicitDefEqProofs [c5]
  refine AAlloc.intro fun r hr => ?_
  have nrb : r ≠ b0 := by rintro rfl; simp at hr
  have hrH : H r = none := by simpa [nrb] using hr
  simp -implicitDefEqProofs
  refine AGo.rounds (fun m ρ K => ∃ j : Nat, j ≤ ops.length ∧ m = ops.length - j ∧ ρ 3 = .sl (ops.map Opr.av) .no ∧ ρ 4 = u64 x ∧ ρ 5 = i64 most ∧ ρ 15 = ptr r ∧ ρ 16 = i64 j ∧ PlayAt H r (30 + 30 * j) K (ρ 13))
    ?_ (m := ops.length) (HLe.refl _) ⟨0, by omega, by omega, by simp, by simp, by simp, by simp, by simp, b0, i0, t0, F, by simp, by simp [nrb.symm], ⟨.no, .inl rfl, by simp⟩, s0, by omega, hb0, ((HLe.refl H).set_new hb0).set_new hrH, nrb.symm⟩
  rintro m ρ K ih ⟨j, hj, rfl, h3, h4, h5, h15, h16, b, i, t, L, h13, hp⟩
  obtain ⟨tk, htk, hr⟩ := hp.hr
  have hbk := hp.hb
  have hsk := hp.hs
  have hlk := hp.hl
  have nbr := hp.ne
  have nrb := nbr.symm
  by_cases hlt : j < ops.length
  · obtain ⟨o, hoj, ho'⟩ := getAt hlt
    have hok := ho o (List.mem_of_getElem? ho')
    simp -implicitDefEqProofs [h3, h16, hlt, hoj]
    refine AAlloc.intro fun c hc => ?_
    have ncb : c ≠ b := by rintro rfl; rw [hbk] at hc; cases hc
    have ncr : c ≠ r := by rintro rfl; rw [hr] at hc; cases hc
    have nbc := ncb.symm
    have nrc := ncr.symm
    have hcH : H c = none := hp.le.none hc
    simp -implicitDefEqProofs
    refine ACall.eq (great_ok o hok.len) ?_
    cases hg : greatB o with
    | true =>
      simp -implicitDefEqProofs
      exact hp.le.wk.new hcH
    | false =>
    simp only [greatB, Bool.or_eq_false_iff, decide_eq_false_iff_not] at hg
    obtain ⟨⟨⟨g1, g2⟩, g3⟩, g4⟩ := hg
    have gsl := bodiesB_slim g4
    obtain ⟨Kc, hKc⟩ : ∃ Kc, K.set c (.cells [i64 o.k, u64 o.ix, u64 o.tm, bodyAV o.bd, rowAV o.l] 55) = Kc := ⟨_, rfl⟩
    have hcc : Kc c = some (.cells [i64 o.k, u64 o.ix, u64 o.tm, bodyAV o.bd, rowAV o.l] 55) := by rw [← hKc]; simp
    have hbc : Kc b = some (.cells (logC i t L) 61) := by rw [← hKc]; simp [nbc, hbk]
    have hrc : Kc r = some (.cells [u64 i, u64 t, .sl (L.map Ent.av) tk] 53) := by rw [← hKc]; simp [nrc, hr]
    have hlc : HLe H Kc := by rw [← hKc]; exact hp.le.set_new hcH
    rw [hKc]
    clear hr hbk hKc
    have w16 : IntKind.i64.wrap ((j : Int) + 1) = j + 1 := wrap_i64 (by omega) (by omega)
    simp -implicitDefEqProofs [hcc]
    refine ABr.join (fun ρ' K' => ρ' 3 = .sl (ops.map Opr.av) .no ∧ ρ' 4 = u64 x ∧ ρ' 5 = i64 most ∧ ρ' 15 = ptr r ∧ ρ' 16 = i64 j ∧ ρ' 17 = ptr c ∧ K' c = some (.cells [i64 o.k, u64 o.ix, u64 o.tm, bodyAV o.bd, rowAV o.l] 55) ∧ PlayAt H r (30 + 30 * (j + 1)) K' (ρ' 13)) (fun k' hk' => ?_) ?_
    · refine ABr.dec (fun k0 => ?_) (fun k0 => ?_)
      · -- an append
        have hc0 : HC ((Kc.del b).del r) Kc := HC.del.trans HC.del
        have hc1 : ∀ ob, HC ((Kc.del b).del r) (Kc.set b ob) := fun ob => hc0.setn (by simp)
        have hc2 : ∀ ob ob', HC ((Kc.del b).del r) ((Kc.set b ob).set r ob') := fun ob ob' => (hc1 ob).setn (by simp)
        simp -implicitDefEqProofs
        refine go_draw2 14 [0, 1, 2, 3, 4, 6, 7, 8, 9, 10] [5, 11, 12, 13] ((Kc.del b).del r) f_mixed (by decide +kernel) hc0 ?_
        simp -implicitDefEqProofs [h13, h15, ncb, ncr, hcc]
        refine AES.ok (append_ok (T := 61) hbc hsk o.tm o.bd (by omega)) (wkL_refl _) (HWk.refl _) (hc1 _) ?_
        simp -implicitDefEqProofs
        refine AES.ok (rAppend_ok' (T := 53) (by simp [nrb, hrc]) htk hsk o.tm o.bd) (wkL_refl _) (HWk.refl _) (hc2 _ _) ?_
        simp -implicitDefEqProofs
        refine AES.ok (same_ok ⟨lastI i L + 1, o.tm, o.bd⟩ ⟨lastI i L + 1, o.tm, o.bd⟩) (wkL_refl _) (HWk.refl _) (hc2 _ _) ?_
        simp -implicitDefEqProofs
        exact hk' _ _ ⟨by simp [h3], by simp [h4], by simp [h5], by simp [h15], by simp [h16], by simp, by simp [ncb, ncr, hcc], b, i, t, _, by simp [h13], Play.mk2 (.inl rfl) hlc hp.fb hrH nbr (hsk.append (by omega) hok.tm (by omega)) (by simp; omega)⟩
      · simp -implicitDefEqProofs
        refine ABr.dec (fun k1 => ?_) (fun k1 => ?_)
        · -- a put
          simp -implicitDefEqProofs [h13, hcc]
          refine ACall.eq (put_ok (T := 61) hbc hsk o.ix o.tm hok.ix o.l hok.fits gsl (by omega)) ?_
          simp -implicitDefEqProofs [h15, ncb, hcc]
          refine ACall.eq (rPut_ok' (T := 53) (by simp [nrb, hrc]) htk hsk o.ix o.tm hok.ix o.l hok.fits (by omega)) ?_
          simp -implicitDefEqProofs
          have hst := putE_st hsk hok.fits gsl (by omega) o.ix o.tm
          exact hk' _ _ ⟨by simp [h3], by simp [h4], by simp [h5], by simp [h15], by simp [h16], by simp, by simp [ncb, ncr, hcc], b, i, t, _, by simp [h13], Play.mk2 (.inl rfl) hlc hp.fb hrH nbr hst.1 (by omega)⟩
        · simp -implicitDefEqProofs
          refine ABr.dec (fun k2 => ?_) (fun k2 => ?_)
          · -- compacted
            have hc0 : HC ((Kc.del b).del r) Kc := HC.del.trans HC.del
            have hc1 : ∀ ob, HC ((Kc.del b).del r) (Kc.set b ob) := fun ob => hc0.setn (by simp)
            have hc2 : ∀ ob ob', HC ((Kc.del b).del r) ((Kc.set b ob).set r ob') := fun ob ob' => (hc1 ob).setn (by simp)
            simp -implicitDefEqProofs
            refine go_draw2 9 [0, 1, 2, 4, 5, 6] [3, 7, 8] ((Kc.del b).del r) f_mixed (by decide +kernel) hc0 ?_
            simp -implicitDefEqProofs [h13, h15, ncb, ncr, hcc]
            cases hte : termE i t L o.ix with
            | none =>
              have hrw : HWk (Kc.set r (.cells (refC i t L) 53)) Kc := HWk.at_ hrc (tk_wk htk) (HWk.refl _)
              have hc3 : HC ((Kc.del b).del r) (Kc.set r (.cells (refC i t L) 53)) := hc0.setn (by simp)
              refine AES.ok (Hw := Kc.set r (.cells (refC i t L) 53)) (compact_none (T := 61) (by simp [nbr, hbc]) hsk o.ix hok.ix hte) (wkL_refl _) hrw hc3 ?_
              simp -implicitDefEqProofs
              refine AES.ok (rCompact_none (T := 53) (by simp) hsk o.ix hte) (wkL_refl _) (HWk.refl _) hc3 ?_
              simp -implicitDefEqProofs
              exact hk' _ _ ⟨by simp [h3], by simp [h4], by simp [h5], by simp [h15], by simp [h16], by simp, by simp [ncr, hcc], b, i, t, L, by simp [h13], by simp [nbr, hbc], ⟨.no, .inl rfl, by simp⟩, hsk, by omega, hp.fb, hlc.set_new hrH, nbr⟩
            | some u =>
              obtain ⟨q, _, _, _, _⟩ := termE_some hte
              refine AES.ok (compact_ok (T := 61) hbc hsk o.ix hok.ix hte) (wkL_refl _) (HWk.refl _) (hc1 _) ?_
              simp -implicitDefEqProofs
              refine AES.ok (rCompact_ok' (T := 53) (by simp [nrb, hrc]) htk hsk o.ix hte) (wkL_refl _) (HWk.refl _) (hc2 _ _) ?_
              simp -implicitDefEqProofs
              exact hk' _ _ ⟨by simp [h3], by simp [h4], by simp [h5], by simp [h15], by simp [h16], by simp, by simp [ncb, ncr, hcc], b, _, _, _, by simp [h13], Play.mk2 (.inl rfl) hlc hp.fb hrH nbr (hsk.drop (by omega) hte) (by simp; omega)⟩
          · simp -implicitDefEqProofs
            refine ABr.dec (fun k3 => ?_) (fun k3 => ?_)
            · -- reset
              simp -implicitDefEqProofs [h13, hcc]
              refine ACall.eq (reset_ok (T := 61) hbc o.ix o.tm) ?_
              simp -implicitDefEqProofs
              refine go_draw2 16 [0, 1, 2, 3, 4, 5, 6, 7, 8] [9, 10, 11, 12, 13, 14, 15] ((Kc.set b (.cells (logC o.ix o.tm []) 61)).del r) f_mixed (by decide +kernel) HC.del ?_
              simp -implicitDefEqProofs [h15, ncb, ncr, hcc, nrb, hrc]
              have hcr : ∀ ob, HC ((Kc.set b (.cells (logC o.ix o.tm []) 61)).del r) ((Kc.set b (.cells (logC o.ix o.tm []) 61)).set r ob) := fun ob => HC.setn HC.del (by simp)
              refine AES.store (cs := [u64 i, u64 t, .sl (L.map Ent.av) tk]) (T := 53) (by simp [nrb, hrc]) (hcr _) ?_
              simp -implicitDefEqProofs
              refine AES.store (cs := [u64 o.ix, u64 t, .sl (L.map Ent.av) tk]) (T := 53) (by simp) (by rw [Heap.set_set]; exact hcr _) ?_
              simp -implicitDefEqProofs
              refine AES.store (cs := [u64 o.ix, u64 o.tm, .sl (L.map Ent.av) tk]) (T := 53) (by simp) (by rw [Heap.set_set]; exact hcr _) ?_
              simp -implicitDefEqProofs
              exact hk' _ _ ⟨by simp [h3], by simp [h4], by simp [h5], by simp [h15], by simp [h16], by simp, by simp [ncb, ncr, hcc], b, _, _, _, by simp [h13], Play.mk2 (.inr rfl) hlc hp.fb hrH nbr (St.reset hok.ix.1 (by omega) hok.tm) (by simp)⟩
            · simp -implicitDefEqProofs
              refine ABr.dec (fun k4 => ?_) (fun k4 => ?_)
              · -- a copy
                simp -implicitDefEqProofs [h13]
                refine ACall.use (copy_ok (T := 61) hbc hsk) (wkL_refl _) (HWk.refl _) ?_
                rintro v K' ⟨d, hd, rfl, rfl⟩
                have ndb : d ≠ b := by rintro rfl; rw [hbc] at hd; cases hd
                have ndr : d ≠ r := by rintro rfl; rw [hrc] at hd; cases hd
                have ndc : d ≠ c := by rintro rfl; rw [hcc] at hd; cases hd
                have hdH : H d = none := hlc.none hd
                simp -implicitDefEqProofs [h13]
                refine ALits.intro fun g hg => ?_
                have hdel : (Kc.set d (.cells (logC i t L) 61)).del g = Kc.set d (.cells (logC i t L) 61) := by
                  funext k; simp only [Heap.del]
                  by_cases hk : k = g
                  · rw [if_pos hk, hk, hg]
                  · rw [if_neg hk]
                have hdel2 : ∀ ob, ((Kc.set d (.cells (logC i t L) 61)).set g ob).del g = Kc.set d (.cells (logC i t L) 61) := fun ob => by
                  rw [← hdel]; funext k; simp only [Heap.del, Heap.set]
                  by_cases hk : k = g
                  · simp [hk]
                  · simp [hk]
                simp -implicitDefEqProofs [hdel2]
                refine ACall.ok (args' := [ptr b, u64 99, bodyAV [111, 116, 104, 101, 114]]) (append_ok (T := 61) (L := L) (i := i) (t := t) (by simp [ndb.symm, hbc]) hsk 99 [111, 116, 104, 101, 114] (by simp)) (by simp) ?_
                have hs2 := hsk.append (y := 99) (bd := [111, 116, 104, 101, 114]) (by omega) (by omega) (by simp)
                simp -implicitDefEqProofs [h13, ndc.symm, ncb, hcc]
                refine ACall.eq (put_ok (T := 61) (by simp) hs2 o.ix o.tm hok.ix o.l hok.fits gsl (by omega)) ?_
                simp -implicitDefEqProofs [h13]
                refine ACall.eq (reset_ok (T := 61) (i := i) (t := t) (by simp; rfl) 1 1) ?_
                simp -implicitDefEqProofs
                exact hk' _ _ ⟨by simp [h3], by simp [h4], by simp [h5], by simp [h15], by simp [h16], by simp, by simp [ncb, ndc.symm, hcc], d, i, t, L, by simp, by simp [ndb], ⟨tk, htk, by simp [nrb, ndr.symm, hrc]⟩, hsk, by omega, hdH, (hlc.set_new hdH).set_new hp.fb, ndr⟩
              · simp -implicitDefEqProofs
                exact hk' _ _ ⟨by simp [h3], by simp [h4], by simp [h5], by simp [h15], by simp [h16], by simp, by simp [hcc], b, i, t, L, by simp [h13], hbc, ⟨tk, htk, hrc⟩, hsk, by omega, hp.fb, hlc, nbr⟩
    · clear h3 h4 h5 h13 h15 h16 hbc hrc hcc hlc hp hsk hlk nbr nrb ncb nbc
      rintro ρ' K' ⟨h3, h4, h5, h15, h16, h17, hcc, b', i', t', L', h13, hp⟩
      obtain ⟨tk', htk', hr'⟩ := hp.hr
      have hbk := hp.hb
      have hlk := hp.hl
      have nbr := hp.ne
      have ncb : c ≠ b' := by rintro rfl; rw [hbk] at hcc; cases hcc
      simp -implicitDefEqProofs [h4, h5, h13, h15, h17, hcc]
      refine ACall.use (H' := K'.set r (.cells (refC i' t' L') 53)) (alike_ok (b := b') (r := r) (i := i') (t := t') (L := L') (T := 61) (T' := 53) (by simp [nbr, hbk]) (by simp) hp.hs (by omega) x o.tm most hx hm) (wkL_refl _) (HWk.at_ hr' (tk_wk htk') (HWk.refl _)) ?_
      rintro v K2 ⟨rfl, rfl⟩
      simp -implicitDefEqProofs [h5, h13, h15, h17, hcc, ncr]
      refine ACall.eq (alike_ok (b := b') (r := r) (i := i') (t := t') (L := L') (T := 61) (T' := 53) (by simp [nbr, hbk]) (by simp) hp.hs (by omega) o.ix o.tm most hok.ix hm) ?_
      simp -implicitDefEqProofs [h16, w16]
      exact AGo.again ih (m' := ops.length - (j + 1)) (by omega) (HLe.refl _) ⟨j + 1, by omega, rfl, by simp [h3], by simp [h4], by simp [h5], by simp [h15], by simp, b', i', t', L', by simp [h13], by simp [nbr, hbk], ⟨.no, .inl rfl, by simp⟩, hp.hs, by omega, hp.fb, hp.le.set_new hrH, nbr⟩
  · simp -implicitDefEqProofs [h3, h16, hlt]
    refine AAlloc.intro fun z hz => ?_
    have hzH : H z = none := hp.le.none hz
    simp -implicitDefEqProofs
    refine ACall.eq (get_nil 1) ?_
    simp -implicitDefEqProofs
    refine AAlloc.intro fun y hy => ?_
    have nyz : y ≠ z := by rintro rfl; simp at hy
    have nzy := nyz.symm
    have hyH : H y = none := hp.le.none (by simpa [nyz] using hy)
    simp -implicitDefEqProofs
    refine ACall.eq (term_zero_log (T := 61) 0 (by simp [nzy])) ?_
    simp -implicitDefEqProofs
    refine ACall.eq (put_zero (T := 61) 0 0 _ (by simp [nzy])) ?_
    simp -implicitDefEqProofs
    refine ACall.eq (reset_zero (T := 61) 5 5 (by simp [nzy])) ?_
    simp -implicitDefEqProofs
    refine ACall.eq (last_zero (T := 61) (by simp [nzy])) ?_
    have w0 : IntKind.u64.wrap 0 = 0 := rfl
    simp -implicitDefEqProofs [w0]
    refine ACall.eq (compact_nil 0) ?_
    simp -implicitDefEqProofs
    refine ACall.eq copy_nil ?_
    simp -implicitDefEqProofs
    refine ACall.eq (slice_nil 1 1) ?_
    simp -implicitDefEqProofs
    refine ACall.eq (newer_nil 1 1) ?_
    simp -implicitDefEqProofs
    refine ACall.eq (append_nil 1 _) ?_
    simp -implicitDefEqProofs
    exact (hp.le.wk.new hzH).new hyH

end Go.Proofs.Ytdcblangeonhpaa
