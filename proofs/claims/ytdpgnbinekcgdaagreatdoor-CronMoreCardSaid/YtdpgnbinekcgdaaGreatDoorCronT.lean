/- Texts of expressions. -/
import Derived.Test.YtdpgnbinekcgdaaGreatDoorRefJ
namespace Go.Proofs.YtdpgnbinekcgdaaGreatDoor
open Rg Go

variable {H : Heap}

def txs (x : Ex) : List (List UInt8) := [textK 0 x.a, textK 1 x.b, textK 2 x.c, textK 3 x.d, textK 4 x.e]
def textX (x : Ex) : List UInt8 := if mayX x = true then Lib.join (txs x) [32] else []
theorem mayX_all {x : Ex} (h : mayX x = true) : mayB 0 x.a.bits = true ∧ mayB 1 x.b.bits = true ∧ mayB 2 x.c.bits = true ∧ mayB 3 x.d.bits = true ∧ mayB 4 x.e.bits = true := by
  simp only [mayX, Bool.and_eq_true] at h
  obtain ⟨⟨⟨⟨h0, h1⟩, h2⟩, h3⟩, h4⟩ := h
  exact ⟨h0, h1, h2, h3, h4⟩
theorem txs_len {x : Ex} (hx : x.ok) (h : mayX x = true) : ∀ t ∈ txs x, t.length ≤ 150 := by
  obtain ⟨h0, h1, h2, h3, h4⟩ := mayX_all h
  intro t ht
  simp only [txs, List.mem_cons, List.not_mem_nil, or_false] at ht
  rcases ht with rfl | rfl | rfl | rfl | rfl
  · exact (text_back hx.a h0).2
  · exact (text_back hx.b h1).2
  · exact (text_back hx.c h2).2
  · exact (text_back hx.d h3).2
  · exact (text_back hx.e h4).2

set_option maxHeartbeats 2000000 in
theorem c_cronText (hG : Glob H) (x : Ex) (hx : x.ok) : AOk Tryz.prog 26 [exAV x] H (str (textX x)) H := by
  unfold textX
  refine ACalls.into Tryz.func26 rfl Tryz.ntmps26 Tryz.results26 (by simp) ?_
  simp -implicitDefEqProofs
  refine AAlloc.intro fun b1 h1 => ?_
  simp -implicitDefEqProofs
  generalize hK : Heap.set _ b1 _ = K1
  have k1 : K1 b1 = some (.cells (exC x) 37) := by rw [← hK]; simp [Heap.set]
  have kG : Glob K1 := by rw [← hK]; exact hG.new h1
  have kW : HWk H K1 := by rw [← hK]; exact HWk.new h1 (HWk.refl _)
  clear hK
  cases hm : mayX x with
  | false =>
      rw [if_neg (by simp)]
      refine AGd.bool (fun h => ?_) (fun h => ?_)
      · simp -implicitDefEqProofs [k1, h]
        refine ACall.eq (c_cronMay x hx) ?_
        simp -implicitDefEqProofs [hm, h]
        exact kW
      · have hz : x = ex0 := by
          obtain ⟨⟨a0, a1⟩, ⟨b0, b1'⟩, ⟨c0, c1⟩, ⟨d0, d1⟩, ⟨g0, g1⟩⟩ := x
          simp at h
          simp [ex0, f0, h]
        subst hz
        simp -implicitDefEqProofs [ex0, f0]
        exact kW
  | true =>
    rw [if_pos rfl]
    obtain ⟨m0, m1, m2, m3, m4⟩ := mayX_all hm
    have ha0 : ¬ x.a.bits = 0 := (may_bits hx.a m0).2.1
    have htl := txs_len hx hm
    have hab : ((x.a.bits : Int) == 0) = false := by simpa using ha0
    simp -implicitDefEqProofs [k1, hab]
    refine ACall.eq (c_cronMay x hx) ?_
    simp -implicitDefEqProofs [hm, k1]
    refine AGo.rounds (fun m ρ K => ∃ (j : Nat) (t : Tok) (K2 : Heap) (out : List (List UInt8)), j ≤ 5 ∧ m = 5 - j ∧ out = (txs x).take j ∧ out.length ≤ 5 ∧ ρ 3 = .sl (strL out) t ∧ ρ 14 = exAV x ∧ ρ 15 = .sc (.int .i64 j) ∧ Grows K1 (strL out) 1 9 t K2 ∧ HLe K2 K) ?_ (m := 5) (HLe.refl _)
      ⟨0, .nil, K1, [], by omega, rfl, rfl, by simp, by simp, by simp, by simp, Grows.zero, HLe.refl _⟩
    rintro m ρ K ih ⟨j, t, K2, out, hj, rfl, hout, hol, r3, r14, r15, hg, hle⟩
    have hc : j = 0 ∨ j = 1 ∨ j = 2 ∨ j = 3 ∨ j = 4 ∨ j = 5 := by omega
    rcases hc with rfl | rfl | rfl | rfl | rfl | rfl
    · simp -implicitDefEqProofs [r14, r15]
      refine AAlloc.intro fun b5 h5 => ?_
      simp -implicitDefEqProofs [r3]
      have kG2 := (kG.le (hg.le.trans hle)).new (o := .cells [.sc (.int .u64 x.a.bits), .sc (.bool x.a.star)] 25) h5
      refine ACall.eq (c_text kG2 0 x.a hx.a) ?_
      simp -implicitDefEqProofs [r3]
      refine AApp.grows el_69 hg (hle.trans (HLe.set_fresh h5)) (by simp) (szs_strs _) (by simp [szs, AV.cells]) (by simp; omega) (by simp [maxLen]; omega) fun t' K3 Hn hg' hl' => ?_
      simp -implicitDefEqProofs [r15, wrap_i64]
      exact AGo.again ih (m' := 4) (by omega) (HLe.refl _) ⟨1, t', K3, out ++ [textK 0 x.a], by omega, rfl, by rw [hout]; rfl, by rw [hout]; simp [txs], by simp, by simp [r14], by simp, by simpa using hg', hl'⟩
    · simp -implicitDefEqProofs [r14, r15]
      refine AAlloc.intro fun b5 h5 => ?_
      simp -implicitDefEqProofs [r3]
      have kG2 := (kG.le (hg.le.trans hle)).new (o := .cells [.sc (.int .u64 x.b.bits), .sc (.bool x.b.star)] 25) h5
      refine ACall.eq (c_text kG2 1 x.b hx.b) ?_
      simp -implicitDefEqProofs [r3]
      refine AApp.grows el_69 hg (hle.trans (HLe.set_fresh h5)) (by simp) (szs_strs _) (by simp [szs, AV.cells]) (by simp; omega) (by simp [maxLen]; omega) fun t' K3 Hn hg' hl' => ?_
      simp -implicitDefEqProofs [r15, wrap_i64]
      exact AGo.again ih (m' := 3) (by omega) (HLe.refl _) ⟨2, t', K3, out ++ [textK 1 x.b], by omega, rfl, by rw [hout]; rfl, by rw [hout]; simp [txs], by simp, by simp [r14], by simp, by simpa using hg', hl'⟩
    · simp -implicitDefEqProofs [r14, r15]
      refine AAlloc.intro fun b5 h5 => ?_
      simp -implicitDefEqProofs [r3]
      have kG2 := (kG.le (hg.le.trans hle)).new (o := .cells [.sc (.int .u64 x.c.bits), .sc (.bool x.c.star)] 25) h5
      refine ACall.eq (c_text kG2 2 x.c hx.c) ?_
      simp -implicitDefEqProofs [r3]
      refine AApp.grows el_69 hg (hle.trans (HLe.set_fresh h5)) (by simp) (szs_strs _) (by simp [szs, AV.cells]) (by simp; omega) (by simp [maxLen]; omega) fun t' K3 Hn hg' hl' => ?_
      simp -implicitDefEqProofs [r15, wrap_i64]
      exact AGo.again ih (m' := 2) (by omega) (HLe.refl _) ⟨3, t', K3, out ++ [textK 2 x.c], by omega, rfl, by rw [hout]; rfl, by rw [hout]; simp [txs], by simp, by simp [r14], by simp, by simpa using hg', hl'⟩
    · simp -implicitDefEqProofs [r14, r15]
      refine AAlloc.intro fun b5 h5 => ?_
      simp -implicitDefEqProofs [r3]
      have kG2 := (kG.le (hg.le.trans hle)).new (o := .cells [.sc (.int .u64 x.d.bits), .sc (.bool x.d.star)] 25) h5
      refine ACall.eq (c_text kG2 3 x.d hx.d) ?_
      simp -implicitDefEqProofs [r3]
      refine AApp.grows el_69 hg (hle.trans (HLe.set_fresh h5)) (by simp) (szs_strs _) (by simp [szs, AV.cells]) (by simp; omega) (by simp [maxLen]; omega) fun t' K3 Hn hg' hl' => ?_
      simp -implicitDefEqProofs [r15, wrap_i64]
      exact AGo.again ih (m' := 1) (by omega) (HLe.refl _) ⟨4, t', K3, out ++ [textK 3 x.d], by omega, rfl, by rw [hout]; rfl, by rw [hout]; simp [txs], by simp, by simp [r14], by simp, by simpa using hg', hl'⟩
    · simp -implicitDefEqProofs [r14, r15]
      refine AAlloc.intro fun b5 h5 => ?_
      simp -implicitDefEqProofs [r3]
      have kG2 := (kG.le (hg.le.trans hle)).new (o := .cells [.sc (.int .u64 x.e.bits), .sc (.bool x.e.star)] 25) h5
      refine ACall.eq (c_text kG2 4 x.e hx.e) ?_
      simp -implicitDefEqProofs [r3]
      refine AApp.grows el_69 hg (hle.trans (HLe.set_fresh h5)) (by simp) (szs_strs _) (by simp [szs, AV.cells]) (by simp; omega) (by simp [maxLen]; omega) fun t' K3 Hn hg' hl' => ?_
      simp -implicitDefEqProofs [r15, wrap_i64]
      exact AGo.again ih (m' := 0) (by omega) (HLe.refl _) ⟨5, t', K3, out ++ [textK 4 x.e], by omega, rfl, by rw [hout]; rfl, by rw [hout]; simp [txs], by simp, by simp [r14], by simp, by simpa using hg', hl'⟩
    · have e5 : (txs x).take 5 = txs x := rfl
      rw [e5] at hout
      subst hout
      simp -implicitDefEqProofs [r3, r15]
      refine ACall.eq (c_join (txs x) t [32] (by simp [txs]) (Nat.le_trans (join_le htl 32) (by simp [txs]))) ?_
      simp -implicitDefEqProofs
      exact kW.trans ((hg.le.trans hle).wk)

def pre1 (x : Ex) : List UInt8 := textK 0 x.a
def pre2 (x : Ex) : List UInt8 := pre1 x ++ [32] ++ textK 1 x.b
def pre3 (x : Ex) : List UInt8 := pre2 x ++ [32] ++ textK 2 x.c
def pre4 (x : Ex) : List UInt8 := pre3 x ++ [32] ++ textK 3 x.d
def pre5 (x : Ex) : List UInt8 := pre4 x ++ [32] ++ textK 4 x.e
theorem pre_join (x : Ex) : pre5 x = Lib.join (txs x) [32] := by
  unfold txs
  rw [join_cons2, join_cons2, join_cons2, join_cons2]
  simp [pre1, pre2, pre3, pre4, pre5, Lib.join]
set_option maxHeartbeats 2000000 in
theorem c_ref7Text (x : Ex) (hx : x.ok) : AOk Tryz.prog 27 [exAV x] H (str (textX x)) H := by
  unfold textX
  refine ACalls.into Tryz.func27 rfl Tryz.ntmps27 Tryz.results27 (by simp) ?_
  simp -implicitDefEqProofs
  refine AAlloc.intro fun b1 h1 => ?_
  simp -implicitDefEqProofs
  generalize hK : Heap.set _ b1 _ = K1
  have k1 : K1 b1 = some (.cells (exC x) 37) := by rw [← hK]; simp [Heap.set]
  have kW : HWk H K1 := by rw [← hK]; exact HWk.new h1 (HWk.refl _)
  clear hK
  refine ACall.eq (c_ref7May x hx) ?_
  cases hm : mayX x with
  | false =>
    rw [if_neg (by simp)]
    simp -implicitDefEqProofs
    exact kW
  | true =>
    rw [if_pos rfl, ← pre_join]
    have htl := txs_len hx hm
    have t0 : (textK 0 x.a).length ≤ 150 := htl _ (by simp [txs])
    have t1 : (textK 1 x.b).length ≤ 150 := htl _ (by simp [txs])
    have t2 : (textK 2 x.c).length ≤ 150 := htl _ (by simp [txs])
    have t3 : (textK 3 x.d).length ≤ 150 := htl _ (by simp [txs])
    have t4 : (textK 4 x.e).length ≤ 150 := htl _ (by simp [txs])
    have q1 : (pre1 x).length ≤ 150 := t0
    have q2 : (pre2 x).length ≤ 301 := by rw [show pre2 x = pre1 x ++ [32] ++ textK 1 x.b from rfl]; simp only [List.length_append, List.length_singleton]; omega
    have q3 : (pre3 x).length ≤ 452 := by rw [show pre3 x = pre2 x ++ [32] ++ textK 2 x.c from rfl]; simp only [List.length_append, List.length_singleton]; omega
    have q4 : (pre4 x).length ≤ 603 := by rw [show pre4 x = pre3 x ++ [32] ++ textK 3 x.d from rfl]; simp only [List.length_append, List.length_singleton]; omega
    have l1 : (pre1 x).length + 1 ≤ 9223372036854775807 := by omega
    have l2 : (pre2 x).length + 1 ≤ 9223372036854775807 := by omega
    have l3 : (pre3 x).length + 1 ≤ 9223372036854775807 := by omega
    have l4 : (pre4 x).length + 1 ≤ 9223372036854775807 := by omega
    have l5 : (pre1 x).length + 1 + (textK 1 x.b).length ≤ 9223372036854775807 := by omega
    have l6 : (pre2 x).length + 1 + (textK 2 x.c).length ≤ 9223372036854775807 := by omega
    have l7 : (pre3 x).length + 1 + (textK 3 x.d).length ≤ 9223372036854775807 := by omega
    have l8 : (pre4 x).length + 1 + (textK 4 x.e).length ≤ 9223372036854775807 := by omega
    have p2 : pre2 x = pre1 x ++ [32] ++ textK 1 x.b := rfl
    have p3 : pre3 x = pre2 x ++ [32] ++ textK 2 x.c := rfl
    have p4 : pre4 x = pre3 x ++ [32] ++ textK 3 x.d := rfl
    have p5 : pre5 x = pre4 x ++ [32] ++ textK 4 x.e := rfl
    have r0 : textK 0 x.a = pre1 x := rfl
    simp -implicitDefEqProofs [k1]
    refine ACall.eq (c_refText 0 x.a hx.a) ?_
    rw [r0]
    simp -implicitDefEqProofs
    generalize hR : pre5 x = R at *
    generalize pre1 x = s1 at *
    generalize pre2 x = s2 at *
    generalize pre3 x = s3 at *
    generalize pre4 x = s4 at *
    refine AGo.rounds (fun m ρ K => ∃ (j : Nat) (s : List UInt8), m = 5 - j ∧ ρ 1 = .sc (.pointer (some ⟨b1, 0, none⟩)) ∧ ρ 3 = str s ∧ ρ 4 = .sc (.int .i64 j) ∧ ((j = 1 ∧ s = s1) ∨ (j = 2 ∧ s = s2) ∨ (j = 3 ∧ s = s3) ∨ (j = 4 ∧ s = s4) ∨ (j = 5 ∧ s = R)) ∧ K = K1) ?_ (m := 4) (HLe.refl _)
      ⟨1, s1, rfl, by simp, by simp, by simp, by simp, rfl⟩
    rintro m ρ K ih ⟨j, s, rfl, r1, r3, r4, hc, rfl⟩
    rcases hc with ⟨rfl, rfl⟩ | ⟨rfl, rfl⟩ | ⟨rfl, rfl⟩ | ⟨rfl, rfl⟩ | ⟨rfl, rfl⟩
    · simp -implicitDefEqProofs [r1, r3, r4, k1, l1]
      refine ACall.eq (c_refText 1 x.b hx.b) ?_
      simp -implicitDefEqProofs [r3, r4, wrap_i64, l1, l5]
      exact AGo.again ih (m' := 3) (by omega) (HLe.refl _) ⟨2, _, rfl, by simp [r1], by simp; rfl, by simp, by simp [p2], rfl⟩
    · simp -implicitDefEqProofs [r1, r3, r4, k1, l2]
      refine ACall.eq (c_refText 2 x.c hx.c) ?_
      simp -implicitDefEqProofs [r3, r4, wrap_i64, l2, l6]
      exact AGo.again ih (m' := 2) (by omega) (HLe.refl _) ⟨3, _, rfl, by simp [r1], by simp; rfl, by simp, by simp [p3], rfl⟩
    · simp -implicitDefEqProofs [r1, r3, r4, k1, l3]
      refine ACall.eq (c_refText 3 x.d hx.d) ?_
      simp -implicitDefEqProofs [r3, r4, wrap_i64, l3, l7]
      exact AGo.again ih (m' := 1) (by omega) (HLe.refl _) ⟨4, _, rfl, by simp [r1], by simp; rfl, by simp, by simp [p4], rfl⟩
    · simp -implicitDefEqProofs [r1, r3, r4, k1, l4]
      refine ACall.eq (c_refText 4 x.e hx.e) ?_
      simp -implicitDefEqProofs [r3, r4, wrap_i64, l4, l8]
      exact AGo.again ih (m' := 0) (by omega) (HLe.refl _) ⟨5, _, rfl, by simp [r1], by simp; rfl, by simp, by simp [p5], rfl⟩
    · simp -implicitDefEqProofs [r3, r4]
      exact kW
end Go.Proofs.YtdpgnbinekcgdaaGreatDoor
