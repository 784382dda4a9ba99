/- RlogMatch gives true. -/
import Derived.Test.YtdcblangeonhpaaEa
import Derived.Test.YtdcblangeonhpaaRgP
namespace Go.Proofs.Ytdcblangeonhpaa
open Rg Go Classical

theorem fromB_all {L : List Ent} (h : fromB L = true) : ∀ j, FromAt L j := by
  unfold fromB at h; exact of_decide_eq_true h
theorem agreeB_all {A B : List Ent} (h : agreeB A B = true) : Agr A B := by
  unfold agreeB at h; exact of_decide_eq_true h

def two (H : Heap) (b c : Nat) (X Y : List Ent) : Heap := (H.set b (.cells (logC 0 0 X) 61)).set c (.cells (logC 0 0 Y) 61)
theorem two_b {H : Heap} {b c : Nat} {X Y : List Ent} (h : b ≠ c) : two H b c X Y b = some (.cells (logC 0 0 X) 61) := by simp [two, h]
theorem two_c {H : Heap} {b c : Nat} {X Y : List Ent} : two H b c X Y c = some (.cells (logC 0 0 Y) 61) := by simp [two]
theorem two_set_b {H : Heap} {b c : Nat} {X Y Z : List Ent} (h : b ≠ c) : (two H b c X Y).set b (.cells (logC 0 0 Z) 61) = two H b c Z Y := by
  funext k; simp only [two, Heap.set]
  by_cases h1 : k = b
  · subst h1; simp [h]
  · simp [h1]
theorem two_set_c {H : Heap} {b c : Nat} {X Y Z : List Ent} : (two H b c X Y).set c (.cells (logC 0 0 Z) 61) = two H b c X Z := by
  simp [two]

theorem fits_part {S : List Ent} (h : Fits S) (a e : Nat) : Fits ((S.take e).drop a) := fun x hx => h x (List.mem_of_mem_take (List.mem_of_mem_drop hx))
theorem slim_part {S : List Ent} (h : Slim S) (a e : Nat) : Slim ((S.take e).drop a) := fun x hx => h x (List.mem_of_mem_take (List.mem_of_mem_drop hx))

/-- Which log is put to. -/
def Dst (A B : List Ent) (H : Heap) (b c : Nat) (K : Heap) (x : AV) : Prop := ∃ d Z, x = ptr d ∧ K d = some (.cells (logC 0 0 Z) 61) ∧ Pre A B Z ∧
  ∀ Z', Pre A B Z' → ∃ X' Y', Pre A B X' ∧ Pre A B Y' ∧ K.set d (.cells (logC 0 0 Z') 61) = two H b c X' Y'

theorem rlogMatch_ok {H : Heap} (A B : List Ent) (ps : List Int) (hA : Fits A) (hB : Fits B) (hmA : A.length ≤ maxLen) (hmB : B.length ≤ maxLen) (hmp : ps.length ≤ maxLen)
    (hps : ∀ p ∈ ps, -9223372036854775808 ≤ p ∧ p ≤ 9223372036854775807) :
    AOk Try.prog 3 [rowAV A, rowAV B, .sl (ps.map i64) .no] H (boolV true) H := by
  refine ACalls.into Try.func3 rfl Try.ntmps3 Try.results3 (by simp) ?_
  simp -implicitDefEqProofs
  refine ACall.eq known_ok ?_
  by_cases c1 : (30 : Int) < A.length
  · simp -implicitDefEqProofs [c1]
  by_cases c2 : (30 : Int) < B.length
  · simp -implicitDefEqProofs [c1, c2]
  by_cases c3 : (40 : Int) < ps.length
  · simp -implicitDefEqProofs [c1, c2, c3]
  simp -implicitDefEqProofs [c1, c2, c3]
  refine ACall.eq (bodies_ok A (by omega)) ?_
  cases c4 : bodiesB A with
  | true => simp -implicitDefEqProofs
  | false =>
  simp -implicitDefEqProofs
  refine ACall.eq (bodies_ok B (by omega)) ?_
  cases c5 : bodiesB B with
  | true => simp -implicitDefEqProofs
  | false =>
  simp -implicitDefEqProofs
  refine ACall.eq (from_ok A (by omega)) ?_
  cases c6 : fromB A with
  | false => simp -implicitDefEqProofs
  | true =>
  simp -implicitDefEqProofs
  refine ACall.eq (from_ok B (by omega)) ?_
  cases c7 : fromB B with
  | false => simp -implicitDefEqProofs
  | true =>
  simp -implicitDefEqProofs
  refine ACall.eq (agree_ok A B (by omega) (by omega)) ?_
  cases c8 : agreeB A B with
  | false => simp -implicitDefEqProofs
  | true =>
  have fA := fromB_all c6
  have fB := fromB_all c7
  have gAB := agreeB_all c8
  have sA := bodiesB_slim c4
  have sB := bodiesB_slim c5
  simp -implicitDefEqProofs
  refine ACall.use (new_ok (i := 0) (t := 0) (L := []) (by simp [Fits]) (by simp [Slim]) (by simp) (by simp) rfl) (by simp) (HWk.refl _) ?_
  rintro v K ⟨b, hb, rfl, rfl⟩
  simp -implicitDefEqProofs
  refine ACall.use (new_ok (i := 0) (t := 0) (L := []) (by simp [Fits]) (by simp [Slim]) (by simp) (by simp) rfl) (by simp) (HWk.refl _) ?_
  rintro v K ⟨c, hc, rfl, rfl⟩
  have nbc : b ≠ c := by rintro rfl; simp at hc
  have hc : H c = none := by simpa [nbc.symm] using hc
  have hend : ∀ X Y, HWk H (two H b c X Y) := fun X Y => ((HWk.refl H).new hb).new hc
  have hst : ∀ X, Pre A B X → St 0 0 X := fun X h => h.st hA hB sA sB (by omega) (by omega) fA fB
  simp -implicitDefEqProofs
  refine AGo.rounds (fun m ρ K => ∃ (j : Nat) (X Y : List Ent), j ≤ ps.length + 2 ∧ m = ps.length + 3 - j ∧ ρ 0 = rowAV A ∧ ρ 1 = rowAV B ∧ ρ 2 = .sl (ps.map i64) .no ∧ ρ 7 = ptr b ∧ ρ 9 = ptr c ∧ ρ 11 = i64 j ∧ Pre A B X ∧ Pre A B Y ∧ K = two H b c X Y)
    ?_ (m := ps.length + 3) (H0 := two H b c [] []) (HLe.refl _) ⟨0, [], [], by omega, by omega, by simp, by simp, by simp, by simp, by simp, by simp, .nil _ _, .nil _ _, rfl⟩
  rintro m ρ K ih ⟨j, X, Y, hj, rfl, h0, h1, h2, h7, h9, h11, hX, hY, rfl⟩
  have hw2 : IntKind.i64.wrap ((j : Int) + 2) = j + 2 := wrap_i64 (by omega) (by omega)
  by_cases hlt : (j : Int) + 2 < ps.length
  case neg =>
    simp -implicitDefEqProofs [h2, h11, hw2, hlt]
    refine AGo.rounds (fun m ρ K => ∃ n : Nat, n ≤ 30 ∧ m = 31 - n ∧ ρ 7 = ptr b ∧ ρ 9 = ptr c ∧ ρ 24 = u64 (n + 1) ∧ K = two H b c X Y)
      ?_ (m := 31) (H0 := two H b c X Y) (HLe.refl _) ⟨0, by omega, by omega, by simp [h7], by simp [h9], by simp, rfl⟩
    rintro m ρ K ih ⟨n, hn, rfl, h7, h9, h24, rfl⟩
    by_cases hn30 : (n : Int) + 1 ≤ 30
    case neg =>
      simp -implicitDefEqProofs [h24, hn30]
      exact hend X Y
    have hw3 : IntKind.i64.wrap ((n : Int) + 1) = n + 1 := wrap_i64 (by omega) (by omega)
    have hw4 : IntKind.u64.wrap ((n : Int) + 1 + 1) = n + 1 + 1 := wrap_u64 (by omega) (by omega)
    simp -implicitDefEqProofs [h7, h24, hn30]
    refine ACall.eq (term_ok (two_b nbc) (hst X hX) (n + 1) (by omega)) ?_
    simp -implicitDefEqProofs [h9, h24]
    refine ACall.eq (term_ok two_c (hst Y hY) (n + 1) (by omega)) ?_
    cases t1 : termE 0 0 X (n + 1) with
    | none =>
      simp -implicitDefEqProofs [h24, hw4]
      exact AGo.again ih (m' := 31 - (n + 1)) (by omega) (HLe.refl _) ⟨n + 1, by omega, rfl, by simp [h7], by simp [h9], by simp, rfl⟩
    | some s =>
      cases t2 : termE 0 0 Y (n + 1) with
      | none =>
        simp -implicitDefEqProofs [h24, hw4]
        exact AGo.again ih (m' := 31 - (n + 1)) (by omega) (HLe.refl _) ⟨n + 1, by omega, rfl, by simp [h7], by simp [h9], by simp, rfl⟩
      | some t =>
        by_cases hst2 : s = t
        · subst hst2
          have heq := hX.agree hY gAB t1 t2
          have e1 : sliceE 0 X 1 (n + 1) = X.take (n + 1) := by have := sliceE_at (i := 0) (L := X) (k := 0) (m := n + 1) (by omega); simpa using this
          have e2 : sliceE 0 Y 1 (n + 1) = X.take (n + 1) := by have := sliceE_at (i := 0) (L := Y) (k := 0) (m := n + 1) (by omega); simpa [heq] using this
          simp -implicitDefEqProofs [h7, h24, hw3]
          refine ACall.eq (slice_ok (two_b nbc) (hst X hX) 1 (n + 1) (by omega) (by omega)) ?_
          simp -implicitDefEqProofs [h9, h24, hw3]
          refine ACall.eq (slice_ok two_c (hst Y hY) 1 (n + 1) (by omega) (by omega)) ?_
          simp -implicitDefEqProofs [e1, e2]
          refine ACall.eq (all_ok _ _ (by simp; omega)) ?_
          simp -implicitDefEqProofs [h24, hw4]
          exact AGo.again ih (m' := 31 - (n + 1)) (by omega) (HLe.refl _) ⟨n + 1, by omega, rfl, by simp [h7], by simp [h9], by simp, rfl⟩
        · simp -implicitDefEqProofs [h24, hw4, hst2]
          exact AGo.again ih (m' := 31 - (n + 1)) (by omega) (HLe.refl _) ⟨n + 1, by omega, rfl, by simp [h7], by simp [h9], by simp, rfl⟩
  obtain ⟨p0, hp0⟩ : ∃ p, ps[j]? = some p := ⟨ps[j]'(by omega), List.getElem?_eq_getElem _⟩
  obtain ⟨p1, hp1⟩ : ∃ p, ps[j + 1]? = some p := ⟨ps[j + 1]'(by omega), List.getElem?_eq_getElem _⟩
  obtain ⟨p2, hp2⟩ : ∃ p, ps[j + 2]? = some p := ⟨ps[j + 2]'(by omega), List.getElem?_eq_getElem _⟩
  have hw1 : IntKind.i64.wrap ((j : Int) + 1) = j + 1 := wrap_i64 (by omega) (by omega)
  have hw3 : IntKind.i64.wrap ((j : Int) + 3) = j + 3 := wrap_i64 (by omega) (by omega)
  have n1 : ¬ ((j : Int) + 1 < 0) := by omega
  have n2 : ¬ ((j : Int) + 2 < 0) := by omega
  have i1 : ((j : Int) + 1).toNat = j + 1 := by omega
  have i2 : ((j : Int) + 2).toNat = j + 2 := by omega
  simp -implicitDefEqProofs [h0, h2, h7, h11, hw2, hlt, hp0]
  refine ABr.cut (fun ρ' K' => K' = two H b c X Y ∧ ρ' 0 = rowAV A ∧ ρ' 1 = rowAV B ∧ ρ' 2 = .sl (ps.map i64) .no ∧ ρ' 7 = ptr b ∧ ρ' 9 = ptr c ∧ ρ' 11 = i64 j ∧ ρ' 13 = ptr b ∧ ∃ S, (S = A ∨ S = B) ∧ ρ' 12 = rowAV S) (fun _ => ?_) (fun _ => ?_) ?_ (by rfl)
  · simp -implicitDefEqProofs [h0, h1, h2, h7, h9, h11]
  · simp -implicitDefEqProofs [h0, h1, h2, h7, h9, h11]
  clear h0 h1 h2 h7 h9 h11
  rintro ρ K ⟨rfl, h0, h1, h2, h7, h9, h11, h13, S, hS, h12⟩
  have fS : ∀ k, FromAt S k := by rcases hS with rfl | rfl <;> assumption
  have hfS : Fits S := by rcases hS with rfl | rfl <;> assumption
  have sS : Slim S := by rcases hS with rfl | rfl <;> assumption
  have lS : S.length ≤ 30 := by rcases hS with rfl | rfl <;> omega
  simp -implicitDefEqProofs [h2, h11, hp0]
  refine ABr.cut (fun ρ' K' => K' = two H b c X Y ∧ ρ' 0 = rowAV A ∧ ρ' 1 = rowAV B ∧ ρ' 2 = .sl (ps.map i64) .no ∧ ρ' 7 = ptr b ∧ ρ' 9 = ptr c ∧ ρ' 11 = i64 j ∧ ρ' 12 = rowAV S ∧ Dst A B H b c K' (ρ' 13)) (fun _ => ?_) (fun _ => ?_) ?_ (by rfl)
  · simp -implicitDefEqProofs [h0, h1, h2, h7, h9, h11, h12]
    exact ⟨c, Y, rfl, by simp [two], hY, fun Z' hZ' => ⟨X, Z', hX, hZ', two_set_c⟩⟩
  · simp -implicitDefEqProofs [h0, h1, h2, h7, h9, h11, h12, h13]
    exact ⟨b, X, rfl, by simp [two, nbc], hX, fun Z' hZ' => ⟨Z', Y, hZ', hY, two_set_b nbc⟩⟩
  clear h0 h1 h2 h7 h9 h11 h12 h13
  rintro ρ K ⟨rfl, h0, h1, h2, h7, h9, h11, h12, d, Z, h13, hd, hZ, hset⟩
  by_cases d1 : S = []
  · subst d1
    simp -implicitDefEqProofs [h11, h12, hw3]
    exact AGo.again ih (m' := ps.length + 3 - (j + 3)) (by omega) (HLe.refl _) ⟨j + 3, X, Y, by omega, rfl, by simp [h0], by simp [h1], by simp [h2], by simp [h7], by simp [h9], by simp, hX, hY, rfl⟩
  have d1' : 0 < S.length := List.length_pos_iff.2 d1
  have d1'' : ¬ ((S.length : Int) = 0) := by omega
  by_cases d2 : p0 < 0
  · simp -implicitDefEqProofs [h2, h11, h12, hw3, d1, hp0, d2]
    exact AGo.again ih (m' := ps.length + 3 - (j + 3)) (by omega) (HLe.refl _) ⟨j + 3, X, Y, by omega, rfl, by simp [h0], by simp [h1], by simp [h2], by simp [h7], by simp [h9], by simp, hX, hY, rfl⟩
  by_cases d3 : p1 < 0
  · simp -implicitDefEqProofs [h2, h11, h12, hw1, hw3, d1, hp0, hp1, n1, i1, d2, d3]
    exact AGo.again ih (m' := ps.length + 3 - (j + 3)) (by omega) (HLe.refl _) ⟨j + 3, X, Y, by omega, rfl, by simp [h0], by simp [h1], by simp [h2], by simp [h7], by simp [h9], by simp, hX, hY, rfl⟩
  by_cases d4 : p2 < 0
  · simp -implicitDefEqProofs [h2, h11, h12, hw1, hw2, hw3, d1, hp0, hp1, hp2, n1, n2, i1, i2, d2, d3, d4]
    exact AGo.again ih (m' := ps.length + 3 - (j + 3)) (by omega) (HLe.refl _) ⟨j + 3, X, Y, by omega, rfl, by simp [h0], by simp [h1], by simp [h2], by simp [h7], by simp [h9], by simp, hX, hY, rfl⟩
  obtain ⟨a, ha, haS⟩ : ∃ a : Nat, p1.tmod (S.length : Int) = a ∧ a < S.length := by
    rw [Int.tmod_eq_emod_of_nonneg (by omega)]
    have g1 := Int.emod_nonneg p1 d1''
    have g2 := Int.emod_lt_of_pos p1 (show (0 : Int) < S.length by omega)
    exact ⟨(p1 % S.length).toNat, by omega, by omega⟩
  have w1 : IntKind.i64.wrap ((S.length : Int) - a) = (S.length : Int) - a := wrap_i64 (by omega) (by omega)
  have w2 : IntKind.i64.wrap ((S.length : Int) - a + 1) = (S.length : Int) - a + 1 := wrap_i64 (by omega) (by omega)
  have z2 : ¬ ((S.length : Int) - a + 1 = 0) := by omega
  obtain ⟨q, hq, hqS⟩ : ∃ q : Nat, p2.tmod ((S.length : Int) - a + 1) = q ∧ a + q ≤ S.length := by
    rw [Int.tmod_eq_emod_of_nonneg (by omega)]
    have g1 := Int.emod_nonneg p2 z2
    have g2 := Int.emod_lt_of_pos p2 (show (0 : Int) < (S.length : Int) - a + 1 by omega)
    exact ⟨(p2 % ((S.length : Int) - a + 1)).toNat, by omega, by omega⟩
  have w3 : IntKind.i64.wrap ((a : Int) + q) = ((a + q : Nat) : Int) := by rw [wrap_i64 (by omega) (by omega)]; omega
  simp -implicitDefEqProofs [h2, h11, h12, hw1, hw2, d1, hp0, hp1, hp2, n1, n2, i1, i2, d2, d3, d4, ha, hq, w1, w2, w3, z2]
  generalize hae : a + q = e at *
  have hae' : a ≤ e := by omega
  refine ABr.cut (fun ρ' K' => K' = two H b c X Y ∧ ρ' 0 = rowAV A ∧ ρ' 1 = rowAV B ∧ ρ' 2 = .sl (ps.map i64) .no ∧ ρ' 7 = ptr b ∧ ρ' 9 = ptr c ∧ ρ' 11 = i64 j ∧ ρ' 12 = rowAV S ∧ ρ' 13 = ptr d ∧ ρ' 14 = i64 a ∧ ρ' 15 = i64 e ∧ ∃ u, ρ' 16 = u64 u ∧ TermOf S a u) (fun t1 => ?_) (fun t1 => ?_) ?_ (by rfl)
  · have t1 : 0 < a := by simpa using t1
    obtain ⟨p, hp⟩ : ∃ p, S[a - 1]? = some p := ⟨S[a - 1]'(by omega), List.getElem?_eq_getElem _⟩
    have w4 : IntKind.i64.wrap ((a : Int) - 1) = ((a - 1 : Nat) : Int) := by rw [wrap_i64 (by omega) (by omega)]; omega
    simp -implicitDefEqProofs [h0, h1, h2, h7, h9, h11, h12, h13, w4, hp, t1]
    exact ⟨by omega, .inr ⟨p, t1, hp, rfl⟩⟩
  · have t1 : a = 0 := by simpa using t1
    simp -implicitDefEqProofs [h0, h1, h2, h7, h9, h11, h12, h13, t1]
    exact ⟨by omega, .inl ⟨rfl, rfl⟩⟩
  clear h0 h1 h2 h7 h9 h11 h12 h13
  rintro ρ K' ⟨rfl, h0, h1, h2, h7, h9, h11, h12, h13, h14, h15, u, h16, hu⟩
  have w5 : IntKind.u64.wrap (a : Int) = a := wrap_u64 (by omega) (by omega)
  have huR : 0 ≤ u ∧ u ≤ 18446744073709551615 := by
    rcases hu with ⟨_, rfl⟩ | ⟨p, _, hp, rfl⟩
    · omega
    · exact (hfS p (List.mem_of_getElem? hp)).2
  have hsE := slim_part sS a e
  have hfE := fits_part hfS a e
  have lE : ((S.take e).drop a).length ≤ 1000000 := by simp; omega
  obtain ⟨T, n, hT, hZT⟩ := hZ
  have hZ : Pre A B Z := ⟨T, n, hT, hZT⟩
  have gTS := agr_of gAB hS hT
  simp -implicitDefEqProofs [h12, h13, h14, h15, h16, w5, hae', hqS]
  rcases putE_part (e := e) fS gTS hZT hu hae' hqS with hbad | ⟨f, Z', hok, hZ', hZe, hagain⟩
  · have hsame : (two H b c X Y).set d (.cells (logC 0 0 Z) 61) = two H b c X Y := by
      funext k; simp only [Heap.set]
      by_cases hk : k = d
      · subst hk; simp [hd]
      · simp [hk]
    refine ACall.ok (args' := [ptr d, u64 a, u64 u, rowAV ((S.take e).drop a)]) (put_ok hd (hst Z hZ) a u (by omega) _ hfE hsE lE) (by simp) ?_
    simp -implicitDefEqProofs [h12, h13, h14, h15, h16, w5, hae', hqS, hbad, hsame]
    refine ACall.ok (args' := [ptr d, u64 a, u64 u, rowAV ((S.take e).drop a)]) (put_ok hd (hst Z hZ) a u (by omega) _ hfE hsE lE) (by simp) ?_
    simp -implicitDefEqProofs [h14, hbad, hsame]
    refine go_lp.2 ⟨_, HLe.refl _, ?_⟩
    by_cases t2 : (a : Int) < e
    · simp -implicitDefEqProofs [h11, h15, t2, hw3]
      exact AGo.again ih (m' := ps.length + 3 - (j + 3)) (by omega) (HLe.refl _) ⟨j + 3, X, Y, by omega, rfl, by simp [h0], by simp [h1], by simp [h2], by simp [h7], by simp [h9], by simp, hX, hY, rfl⟩
    · simp -implicitDefEqProofs [h11, h15, t2, hw3]
      exact AGo.again ih (m' := ps.length + 3 - (j + 3)) (by omega) (HLe.refl _) ⟨j + 3, X, Y, by omega, rfl, by simp [h0], by simp [h1], by simp [h2], by simp [h7], by simp [h9], by simp, hX, hY, rfl⟩
  · have hZp : Pre A B Z' := by
      rcases hZ' with rfl | rfl
      · exact hZ
      · exact ⟨S, e, hS, rfl⟩
    obtain ⟨X', Y', hX', hY', hXY⟩ := hset Z' hZp
    have hXd : (two H b c X' Y') d = some (.cells (logC 0 0 Z') 61) := by rw [← hXY]; simp
    have hsame : (two H b c X' Y').set d (.cells (logC 0 0 Z') 61) = two H b c X' Y' := by
      rw [← hXY]; simp
    refine ACall.ok (args' := [ptr d, u64 a, u64 u, rowAV ((S.take e).drop a)]) (put_ok hd (hst Z hZ) a u (by omega) _ hfE hsE lE) (by simp) ?_
    simp -implicitDefEqProofs [h12, h13, h14, h15, h16, w5, hae', hqS, hok, hXY]
    refine ACall.ok (args' := [ptr d, u64 a, u64 u, rowAV ((S.take e).drop a)]) (put_ok hXd (hst Z' hZp) a u (by omega) _ hfE hsE lE) (by simp) ?_
    simp -implicitDefEqProofs [h14, hagain, hsame]
    refine AGo.rounds (fun m ρ K => ∃ k : Nat, a ≤ k ∧ k ≤ e ∧ m = e - k ∧ ρ 0 = rowAV A ∧ ρ 1 = rowAV B ∧ ρ 2 = .sl (ps.map i64) .no ∧ ρ 7 = ptr b ∧ ρ 9 = ptr c ∧ ρ 11 = i64 j ∧ ρ 12 = rowAV S ∧ ρ 13 = ptr d ∧ ρ 15 = i64 e ∧ ρ 18 = boolV true ∧ ρ 21 = i64 k ∧ K = two H b c X' Y')
      ?_ (m := e - a) (H0 := two H b c X' Y') (HLe.refl _) ⟨a, by omega, by omega, rfl, by simp [h0], by simp [h1], by simp [h2], by simp [h7], by simp [h9], by simp [h11], by simp [h12], by simp [h13], by simp [h15], by simp, by simp, rfl⟩
    clear h0 h1 h2 h7 h9 h11 h12 h13 h14 h15 h16
    rintro m ρ K ih2 ⟨k, hak, hke, rfl, h0, h1, h2, h7, h9, h11, h12, h13, h15, h18, h21, rfl⟩
    by_cases t2 : (k : Int) < e
    · obtain ⟨x, hx⟩ : ∃ x, S[k]? = some x := ⟨S[k]'(by omega), List.getElem?_eq_getElem _⟩
      have hget : getE 0 Z' (k + 1) = some x := by
        unfold getE
        rw [if_neg (by omega), show ((k : Int) + 1 - 0 - 1).toNat = k by omega, take_get hZe (by omega), hx]
      have w6 : IntKind.i64.wrap ((k : Int) + 1) = k + 1 := wrap_i64 (by omega) (by omega)
      have w7 : IntKind.u64.wrap ((k : Int) + 1) = k + 1 := wrap_u64 (by omega) (by omega)
      simp -implicitDefEqProofs [h13, h15, h18, h21, t2, w6, w7]
      refine ACall.ok (args' := [ptr d, u64 (k + 1)]) (get_ok hXd (hst Z' hZp) (k + 1) (by omega)) (by simp) ?_
      simp -implicitDefEqProofs [hget]
      refine AAlloc.intro fun z hz => ?_
      simp -implicitDefEqProofs
      refine go_draw 11 f_mixed (by decide +kernel) ?_
      simp -implicitDefEqProofs [h12, h21, hx]
      refine AQS.eq (same_ok x x) ?_
      simp -implicitDefEqProofs [h21, w6]
      exact AGo.again ih2 (m' := e - (k + 1)) (by omega) (HLe.set_fresh hz) ⟨k + 1, by omega, by omega, rfl, by simp [h0], by simp [h1], by simp [h2], by simp [h7], by simp [h9], by simp [h11], by simp [h12], by simp [h13], by simp [h15], by simp [h18], by simp, rfl⟩
    · simp -implicitDefEqProofs [h11, h15, h21, t2, hw3]
      exact AGo.again ih (m' := ps.length + 3 - (j + 3)) (by omega) (HLe.refl _) ⟨j + 3, X', Y', by omega, rfl, by simp [h0], by simp [h1], by simp [h2], by simp [h7], by simp [h9], by simp, hX', hY', rfl⟩

end Go.Proofs.Ytdcblangeonhpaa
