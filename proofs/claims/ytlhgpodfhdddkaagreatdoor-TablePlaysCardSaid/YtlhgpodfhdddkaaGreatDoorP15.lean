/- The document's fields: what is allowed. The document's fields: a text at each of a byte. The document's fields: kinds, which may be. The document's text of a field is the program's: in plain words. The document's numbers of words are the program's: in plain words. The document's items are the program's: in plain words. -/
import Derived.Test.YtlhgpodfhdddkaaGreatDoorP14
import Derived.Lib.MapLaws
import Derived.Lib.TrimAscii
import Derived.Lib.TrimU
set_option linter.unusedSimpArgs false
set_option linter.unusedVariables false
set_option linter.unnecessarySimpa false
namespace Go.Proofs.YtlhgpodfhdddkaaGreatDoor
open Rg Go
variable {H : Heap}
theorem shr_succ (b i : Nat) : shr b i / 2 = shr b (i + 1) := by
  unfold shr
  rw [Nat.shiftRight_succ]
theorem shr_half {b i : Nat} (hb : b < 18446744073709551616) : IntKind.u64.wrap ((shr b i : Int) / 2) = (shr b (i + 1) : Int) := by
  have h1 := shr_lt (i + 1) hb
  have e : (shr b i : Int) / 2 = ((shr b i / 2 : Nat) : Int) := by push_cast; rfl
  rw [e, shr_succ]
  exact wrap_u64 (by omega) (by omega)
theorem shr_odd (b i : Nat) : ((shr b i : Int).tmod 2 = 1) = (b.testBit i = true) := by
  have e : (shr b i : Int).tmod 2 = ((shr b i % 2 : Nat) : Int) := rfl
  rw [e, Nat.testBit_eq_decide_div_mod_eq]
  unfold shr
  rw [Nat.shiftRight_eq_div_pow]
  simp only [decide_eq_true_eq]
  apply propext
  omega
theorem c_refHas (f : Fld) (n : Int) (hf : f.bits < 18446744073709551616) : AOk Tryz.prog 87 [fAV f, .sc (.int .i64 n)] H (.sc (.bool (hasB f.bits n))) H := by
  refine ACalls.into Tryz.func87 rfl Tryz.ntmps87 Tryz.results87 (by simp) ?_
  simp -implicitDefEqProofs [fAV]
  refine AAlloc.intro fun b hb => ?_
  by_cases h0 : n < 0
  · have e : hasB f.bits n = false := by simp [hasB]; omega
    simp -implicitDefEqProofs [h0, e]
    exact HWk.new hb (HWk.refl _)
  · by_cases h1 : 63 < n
    · have e : hasB f.bits n = false := by simp [hasB]; omega
      simp -implicitDefEqProofs [h0, h1, e]
      exact HWk.new hb (HWk.refl _)
    · obtain ⟨N, rfl⟩ := Int.eq_ofNat_of_zero_le (a := n) (by omega)
      have hN : N ≤ 63 := by omega
      have e : hasB f.bits (N : Int) = f.bits.testBit N := by simp [hasB]; omega
      rw [e]
      simp -implicitDefEqProofs [h0, h1]
      refine AGo.rounds (fun m ρ K => ∃ i : Nat, i ≤ N ∧ m = N - i ∧ ρ 1 = .sc (.int .i64 N) ∧ ρ 5 = .sc (.int .u64 (shr f.bits i)) ∧ ρ 6 = .sc (.int .i64 i) ∧ HWk H K) ?_ (m := N) (HLe.refl _) ⟨0, by omega, rfl, by simp, by simp [shr], by simp, HWk.new hb (HWk.refl _)⟩
      rintro m ρ K ih ⟨i, hi, rfl, r1, r5, r6, hW⟩
      by_cases hlt : i < N
      · have hlt' : (i : Int) < (N : Int) := by omega
        have hwi : IntKind.i64.wrap ((i : Int) + 1) = ((i + 1 : Nat) : Int) := by rw [wrap_i64 (by omega) (by omega)]; push_cast; rfl
        simp -implicitDefEqProofs [r1, r5, r6, hlt, shr_half hf, hwi]
        exact AGo.again ih (m' := N - (i + 1)) (by omega) (HLe.refl _) ⟨i + 1, by omega, rfl, by simp [r1], by simp, by simp, hW⟩
      · obtain rfl : i = N := by omega
        simp -implicitDefEqProofs [r1, r5, r6, shr_odd]
        exact hW
end Go.Proofs.YtlhgpodfhdddkaaGreatDoor
namespace Go.Proofs.YtlhgpodfhdddkaaGreatDoor
open Rg Go
variable {H : Heap}
theorem c_refSplit (s : List UInt8) (c : UInt8) (hs : s.length ≤ 1000000) : AOk Tryz.prog 85 [str s, .sc (.int .u8 c.toNat)] H (.sl (strL (sp c s)) .no) H := by
  refine ACalls.into Tryz.func85 rfl Tryz.ntmps85 Tryz.results85 (by simp) ?_
  simp -implicitDefEqProofs
  refine AGo.rounds (fun m ρ K => ∃ (a i : Nat) (out : List (List UInt8)) (t : Tok), a ≤ i ∧ i ≤ s.length ∧ m = s.length - i ∧ ρ 0 = str s ∧ ρ 1 = .sc (.int .u8 c.toNat) ∧ ρ 5 = .sl (strL out) t ∧ ρ 6 = .sc (.int .i64 a) ∧ ρ 7 = .sc (.int .i64 i) ∧
    out.length ≤ a ∧ out ++ sp c (s.drop a) = sp c s ∧ c ∉ (s.drop a).take (i - a) ∧ Grows H (strL out) 1 9 t K) ?_ (m := s.length) (HLe.refl _)
    ⟨0, 0, [], .nil, by omega, by omega, by omega, by simp, by simp, by simp, by simp, by simp, by simp, by simp, by simp, Grows.zero⟩
  rintro m ρ K ih ⟨a, i, out, t, hai, hi, rfl, r0, r1, r5, r6, r7, hol, hsp, hno, hg⟩
  by_cases hlt : i < s.length
  · have hwi : IntKind.i64.wrap ((i : Int) + 1) = ((i + 1 : Nat) : Int) := by rw [wrap_i64 (by omega) (by omega)]; push_cast; rfl
    have hd : (s.drop a).drop (i - a) = s[i] :: s.drop (i + 1) := by
      rw [List.drop_drop, show a + (i - a) = i by omega, List.drop_eq_getElem_cons hlt]
    have hsplit : s.drop a = (s.drop a).take (i - a) ++ s[i] :: s.drop (i + 1) := by rw [← hd, List.take_append_drop]
    by_cases hc : s[i] = c
    · have hc' : ((s[i]).toNat : Int) = (c.toNat : Int) := by rw [hc]
      have hai' : (a : Int) ≤ (i : Int) := by omega
      have hi' : (i : Int) ≤ s.length := by omega
      simp -implicitDefEqProofs [r0, r1, r5, r6, r7, hlt, hc', hai', hi']
      refine AApp.grows el_99 hg (HLe.refl _) (by simp) (szs_strs _) (by simp [szs, AV.cells]) (by simp; omega) (by simp [maxLen]; omega) fun t' K' Hn hg' hl' => ?_
      simp -implicitDefEqProofs [r7, hwi]
      have hcur : (s.drop a).take (i - a) = (s.take i).drop a := by rw [List.drop_take]
      refine AGo.again ih (m' := s.length - (i + 1)) (by omega) hl' ⟨i + 1, i + 1, out ++ [(s.take i).drop a], t', by omega, by omega, rfl, by simp [r0], by simp [r1], by simp, by simp, by simp, by simp; omega, ?_, by simp, by simpa using hg'⟩
      rw [← hsp, hsplit, hc, sp_app, sp_not hno, hcur]
      simp
    · have hc' : ¬ ((s[i]).toNat : Int) = (c.toNat : Int) := by
        intro h; apply hc; apply UInt8.toNat_inj.1; omega
      simp -implicitDefEqProofs [r0, r1, r7, hlt, hc', hwi]
      refine AGo.again ih (m' := s.length - (i + 1)) (by omega) (HLe.refl _) ⟨a, i + 1, out, t, by omega, by omega, rfl, by simp [r0], by simp [r1], by simp [r5], by simp [r6], by simp, hol, hsp, ?_, hg⟩
      rw [show i + 1 - a = (i - a) + 1 by omega, List.take_add_one]
      have he : (s.drop a)[i - a]? = some s[i] := by rw [List.getElem?_drop, show a + (i - a) = i by omega, List.getElem?_eq_getElem hlt]
      rw [he]
      simp only [Option.toList_some, List.mem_append, List.mem_singleton, not_or]
      exact ⟨hno, fun h => hc h.symm⟩
  · obtain rfl : i = s.length := by omega
    have hai' : (a : Int) ≤ s.length := by omega
    simp -implicitDefEqProofs [r0, r5, r6, r7, hai']
    refine AApp.grows el_99 hg (HLe.refl _) (by simp) (szs_strs _) (by simp [szs, AV.cells]) (by simp; omega) (by simp [maxLen]; omega) fun t' K' Hn hg' hl' => ?_
    have hno' : c ∉ s.drop a := by rw [List.take_of_length_le (by simp)] at hno; exact hno
    rw [← hsp, sp_not hno']
    simp -implicitDefEqProofs
    exact ((hg'.le).trans hl').wk
end Go.Proofs.YtlhgpodfhdddkaaGreatDoor
namespace Go.Proofs.YtlhgpodfhdddkaaGreatDoor
open Rg Go
variable {H : Heap}
theorem c_refLow {k : Int} (hk : isK k = true) : AOk Tryz.prog 107 [.sc (.int .i64 k)] H (.sc (.int .i64 (lowK k))) H := by
  refine ACalls.into Tryz.func107 rfl Tryz.ntmps107 Tryz.results107 (by simp) ?_
  rcases isK_cases hk with rfl | rfl | rfl | rfl | rfl <;> simp -implicitDefEqProofs [lowK]
theorem c_refHigh {k : Int} (hk : isK k = true) : AOk Tryz.prog 108 [.sc (.int .i64 k)] H (.sc (.int .i64 (mostK k))) H := by
  refine ACalls.into Tryz.func108 rfl Tryz.ntmps108 Tryz.results108 (by simp) ?_
  rcases isK_cases hk with rfl | rfl | rfl | rfl | rfl <;> simp -implicitDefEqProofs [mostK]
end Go.Proofs.YtlhgpodfhdddkaaGreatDoor
namespace Go.Proofs.YtlhgpodfhdddkaaGreatDoor
open Rg Go
section
variable {b : Nat} (hb : b < 18446744073709551616)
include hb
end
end Go.Proofs.YtlhgpodfhdddkaaGreatDoor
namespace Go.Proofs.YtlhgpodfhdddkaaGreatDoor
open Rg Go
def lowB (b : UInt8) : UInt8 := if 65 ≤ b.toNat ∧ b.toNat ≤ 90 then b + 32 else b
theorem lowB_high {b : UInt8} (h : 128 ≤ b.toNat) : lowB b = b := by unfold lowB; rw [if_neg (by omega)]
theorem lowB_low {b : UInt8} (h : b.toNat < 128) : (lowB b).toNat < 128 ∧ ((lowB b).toNat : Int) = lowR b.toNat := by
  unfold lowB lowR
  by_cases h1 : 65 ≤ b.toNat ∧ b.toNat ≤ 90
  · have e : (b + 32).toNat = b.toNat + 32 := by rw [UInt8.toNat_add]; simp; omega
    rw [if_pos h1, if_pos (by omega), e]
    omega
  · rw [if_neg h1, if_neg (by omega)]
    exact ⟨h, rfl⟩
theorem enc_low {b : UInt8} (h : b.toNat < 128) : Lib.encodeRune (lowR b.toNat) = [lowB b] := by
  obtain ⟨h1, h2⟩ := lowB_low h
  rw [← h2]
  unfold Lib.encodeRune
  rw [Lib.encodeRuneZ_one (by omega) (by omega)]
  simp
theorem mapD_low {b : UInt8} (h : b.toNat < 128) (t : List UInt8) : Lib.mapD lowR (b :: t) = lowB b :: Lib.mapD lowR t := by
  have h2 := (lowB_low h).2
  rw [Lib.mapD_step _ _ (by simp), Lib.decodeL_ascii b t h]
  simp only [List.drop_one, List.tail_cons]
  rw [if_pos (by omega), enc_low h]
  rfl
theorem mapD_high {b : UInt8} (h : 128 ≤ b.toNat) (t : List UInt8) : ∃ x r, Lib.mapD lowR (b :: t) = x :: r ∧ 128 ≤ x.toNat := by
  rw [Lib.mapD_step _ _ (by simp)]
  have hw := Lib.decodeL_width (b :: t)
  by_cases hv : (Lib.decodeL (b :: t)).1 = 65533 ∧ (Lib.decodeL (b :: t)).2 = 1
  · rw [hv.1]
    have e : lowR ((65533 : Nat) : Int) = 65533 := rfl
    rw [e]
    exact ⟨239, _, rfl, by decide⟩
  · have e := Lib.encode_decode (b :: t) (by simp) hv
    obtain ⟨w, hw'⟩ : ∃ w, (Lib.decodeL (b :: t)).2 = w + 1 := ⟨(Lib.decodeL (b :: t)).2 - 1, by omega⟩
    rw [hw', List.take_succ_cons] at e
    have hlow : lowR ((Lib.decodeL (b :: t)).1 : Int) = ((Lib.decodeL (b :: t)).1 : Int) := by
      unfold lowR
      rw [if_neg]
      intro hr
      unfold Lib.encodeRune at e
      rw [Lib.encodeRuneZ_one (by omega) (by omega)] at e
      simp only [List.map_cons, List.map_nil, List.cons.injEq] at e
      have e1 := congrArg UInt8.toNat e.1
      simp at e1
      omega
    rw [hlow, if_pos (by omega), e]
    exact ⟨b, _, rfl, h⟩
theorem mapD_iff : ∀ (s m : List UInt8), (∀ x ∈ m, x.toNat < 128) → (Lib.mapD lowR s = m ↔ s.map lowB = m)
  | [], m, _ => by simp [Lib.mapD_nil]
  | b :: t, m, hm => by
    by_cases h : b.toNat < 128
    · rw [mapD_low h, List.map_cons]
      cases m with
      | nil => simp
      | cons x m => simp only [List.cons.injEq]; rw [mapD_iff t m fun y hy => hm y (by simp [hy])]
    · obtain ⟨x, r, hx, hx2⟩ := mapD_high (b := b) (by omega) t
      rw [hx, List.map_cons, lowB_high (by omega)]
      cases m with
      | nil => simp
      | cons y m =>
        have hy := hm y (by simp)
        constructor
        · intro e; simp at e; rw [← e.1] at hy; omega
        · intro e; simp at e; rw [← e.1] at hy; omega
theorem idxL_low (s : List UInt8) : ∀ (zs : List (List UInt8)) (i : Nat), (∀ z ∈ zs, ∀ x ∈ z, x.toNat < 128) → idxL zs (Lib.mapD lowR s) i = idxL zs (s.map lowB) i
  | [], i, _ => rfl
  | z :: zs, i, h => by
    unfold idxL
    have e : (z = Lib.mapD lowR s) = (z = s.map lowB) := by
      apply propext
      rw [eq_comm, mapD_iff s z (h z (by simp)), eq_comm]
    simp only [e]
    rw [idxL_low s zs (i + 1) fun y hy => h y (by simp [hy])]
theorem idxL_len {n : Nat} {x : List UInt8} (hx : x.length ≠ n) : ∀ (zs : List (List UInt8)) (i : Nat), (∀ z ∈ zs, z.length = n) → idxL zs x i = -1
  | [], i, _ => rfl
  | z :: zs, i, h => by
    unfold idxL
    rw [if_neg (fun e => hx (by rw [← e]; exact h z (by simp))), idxL_len hx zs (i + 1) fun y hy => h y (by simp [hy])]
def refNum (k : Int) (s : List UInt8) : Int := if (numK k s).2 = true then (numK k s).1 else -1
def isD (b : UInt8) : Bool := decide (48 ≤ b.toNat) && decide (b.toNat ≤ 57)
theorem isD_digs (b : UInt8) : digs.contains b = isD b := by
  have h : ∀ n, n < 256 → digs.contains (UInt8.ofNat n) = isD (UInt8.ofNat n) := by decide +kernel
  have := h b.toNat (UInt8.toNat_lt b)
  simpa using this
theorem digitVal_isD {b : UInt8} (h : isD b = true) : Lib.digitVal b = some (b.toNat - 48) := by
  have h0 : ∀ n, n < 256 → isD (UInt8.ofNat n) = true → Lib.digitVal (UInt8.ofNat n) = some ((UInt8.ofNat n).toNat - 48) := by decide +kernel
  have := h0 b.toNat (UInt8.toNat_lt b)
  simpa [h] using this
theorem dig2_iff (s : List UInt8) : dig2 s = (decide (s.length = 1 ∨ s.length = 2) && s.all isD) := by
  unfold dig2
  have h : decide (Lib.trimS s digs = []) = s.all isD := by
    rw [Bool.eq_iff_iff]
    simp only [decide_eq_true_eq, trimS_nil, isD_digs, List.all_eq_true]
  rw [h]
  congr 1
  rw [Bool.eq_iff_iff]
  simp
  omega
def digV (s : List UInt8) : Nat := s.foldl (fun n b => 10 * n + (b.toNat - 48)) 0
theorem refNum_dig {k : Int} {s : List UInt8} (h1 : s.length = 1 ∨ s.length = 2) (h2 : s.all isD = true) : refNum k s = digV s := by
  have hd : dig2 s = true := by rw [dig2_iff, h2]; simp [h1]
  unfold refNum numK
  rw [if_pos hd]
  simp only [if_true]
  have e0 : ∀ {a : UInt8}, isD a = true → (a == 45) = false ∧ (a == 43) = false := fun {a} h => by
    simp [isD] at h
    constructor <;> (apply beq_false_of_ne; rintro rfl; simp at h)
  match s, h1, h2 with
  | [a], _, h2 =>
    simp at h2
    have e := digitVal_isD h2
    simp [Lib.atoi, e0 h2, Lib.decNat, Lib.decFrom, e, digV]
  | [a, b], _, h2 =>
    simp at h2
    have e := digitVal_isD h2.1
    have e' := digitVal_isD h2.2
    simp [Lib.atoi, e0 h2.1, Lib.decNat, Lib.decFrom, e, e', digV]
    omega
  | [], h1, _ => simp at h1
  | a :: b :: c :: r, h1, _ => simp at h1
theorem refNum_name {k : Int} {s : List UInt8} (h : (decide (s.length = 1 ∨ s.length = 2) && s.all isD) = false) : refNum k s = nameK k (s.map lowB) := by
  have hd : dig2 s = false := by rw [dig2_iff, h]
  have e : nameK k (Lib.mapD lowR s) = nameK k (s.map lowB) := by
    unfold nameK
    rw [idxL_low s months 0 (by decide), idxL_low s days 0 (by decide)]
  have hle := nameK_le k (s.map lowB)
  have hnk : numK k s = (nameK k (s.map lowB), decide (0 ≤ nameK k (s.map lowB))) := by
    unfold numK
    rw [if_neg (by simp [hd]), e]
  unfold refNum
  rw [hnk]
  simp only [decide_eq_true_eq]
  split <;> omega
theorem nameK_len {k : Int} {s : List UInt8} (h : s.length ≠ 3) : nameK k s = -1 := by
  unfold nameK
  rw [idxL_len h months 0 (by decide), idxL_len h days 0 (by decide)]
  (repeat' split) <;> first | rfl | omega
theorem nameK_kind {k : Int} (s : List UInt8) (h3 : k ≠ 3) (h4 : k ≠ 4) : nameK k s = -1 := by unfold nameK; rw [if_neg h3, if_neg h4]
end Go.Proofs.YtlhgpodfhdddkaaGreatDoor
namespace Go.Proofs.YtlhgpodfhdddkaaGreatDoor
open Rg Go
theorem idxL_mem {y : UInt8} {x : List UInt8} (hx : y ∈ x) : ∀ (zs : List (List UInt8)) (i : Nat), (∀ z ∈ zs, y ∉ z) → idxL zs x i = -1
  | [], i, _ => rfl
  | z :: zs, i, h => by
    unfold idxL
    rw [if_neg (fun e => h z (by simp) (by rw [e]; exact hx)), idxL_mem hx zs (i + 1) fun w hw => h w (by simp [hw])]
theorem refNum_bad {k : Int} {s : List UInt8} {c : UInt8} (hc : c = 45 ∨ c = 47) (h : c ∈ s) : refNum k s = -1 := by
  have hall : s.all isD = false := by
    cases ha : s.all isD with
    | false => rfl
    | true =>
      have := List.all_eq_true.1 ha c h
      rcases hc with rfl | rfl <;> simp [isD] at this
  rw [refNum_name (by rw [hall]; simp)]
  have hm : c ∈ s.map lowB := List.mem_map.2 ⟨c, h, by rcases hc with rfl | rfl <;> decide⟩
  unfold nameK
  rw [idxL_mem hm months 0 (by rcases hc with rfl | rfl <;> decide), idxL_mem hm days 0 (by rcases hc with rfl | rfl <;> decide)]
  (repeat' split) <;> first | rfl | omega
theorem refNum_le (k : Int) (s : List UInt8) : -1 ≤ refNum k s ∧ refNum k s ≤ 99 := by
  have := numK_le k s
  unfold refNum
  split <;> omega
theorem numK_neg {k : Int} {s : List UInt8} : (numK k s).2 = false ↔ refNum k s < 0 := by
  unfold refNum
  cases h : (numK k s).2 with
  | false => simp
  | true =>
    simp only [if_true]
    constructor
    · intro h; cases h
    · intro hn
      exfalso
      unfold numK at h hn
      split at h
      · rename_i hd
        rw [if_pos hd] at hn
        obtain ⟨n, h1, _⟩ := dig2_atoi hd
        rw [h1] at hn
        simp at hn
      · rename_i hd
        rw [if_neg hd] at hn
        simp at h hn
        omega
theorem refNum_of {k : Int} {s : List UInt8} (h : 0 ≤ refNum k s) : (numK k s).2 = true ∧ (numK k s).1 = refNum k s := by
  have h2 : (numK k s).2 = true := by
    cases hc : (numK k s).2 with
    | true => rfl
    | false => have := numK_neg.1 hc; omega
  refine ⟨h2, ?_⟩
  unfold refNum
  rw [if_pos h2]
def rowFrom (step : Nat) (last : Int) : Nat → Nat → List Nat
  | 0, _ => []
  | f + 1, n => if (n : Int) ≤ last then n :: rowFrom step last f (n + step) else []
def refEnd (first last step : Int) : List Nat × Int := if step = 0 ∨ 59 < step then ([], 61) else (rowFrom step.toNat last 200 first.toNat, 0)
def refEnds (k a b step : Int) : List Nat × Int :=
  if a < 0 ∨ b < 0 then ([], 60) else if a < lowK k ∨ highK k < a ∨ highK k < b ∨ b < a then ([], 61) else refEnd a b step
def refBody (k : Int) (body : List UInt8) (two : Bool) (step : Int) : List Nat × Int :=
  if body = [42] then refEnd (lowK k) (mostK k) step else
  match sp 45 body with
  | [a] => if two = true then ([], 60) else refEnds k (refNum k a) (refNum k a) step
  | [a, b] => refEnds k (refNum k a) (refNum k b) step
  | _ => ([], 60)
def refItem (k : Int) (s : List UInt8) : List Nat × Int :=
  match sp 47 s with
  | [a] => refBody k a false 1
  | [a, b] => if refNum 0 b < 0 then ([], 60) else refBody k a true (refNum 0 b)
  | _ => ([], 60)
def orRow (M : Nat) (l : List Nat) (set : Nat) : Nat := l.foldl (fun st n => st ||| pow2 (modN n M)) set
theorem setFrom_row (M step : Nat) (last : Int) : ∀ (f n set : Nat), setFrom M step last f n set = orRow M (rowFrom step last f n) set
  | 0, n, set => rfl
  | f + 1, n, set => by
    unfold setFrom rowFrom
    by_cases h : (n : Int) ≤ last
    · rw [if_pos h, if_pos h, setFrom_row M step last f]; rfl
    · rw [if_neg h, if_neg h]; rfl
def asItem (k : Int) (r : List Nat × Int) : Nat × Int := (orRow (mostK k + 1).toNat r.1 0, r.2)
theorem fin_ref {k first last step : Int} (hle : first ≤ last) (hs : 0 ≤ step) : finK k first last step 0 = asItem k (refEnd first last step) := by
  unfold finK refEnd asItem
  rw [if_neg (by simp)]
  by_cases h : step = 0 ∨ 59 < step
  · rw [if_pos (by omega), if_pos h]; rfl
  · rw [if_neg (by omega), if_neg h, setFrom_row]
theorem fin_err {k first last step e : Int} (h : e ≠ 0) : finK k first last step e = (0, e) := by unfold finK; rw [if_pos h]
theorem ends_ref {k : Int} {a b : List UInt8} {step : Int} (hs : 0 ≤ step) : finK k (numK k a).1 (numK k b).1 step (takeE k b (takeE k a 0)) = asItem k (refEnds k (refNum k a) (refNum k b) step) := by
  unfold refEnds
  by_cases ha : refNum k a < 0
  · rw [if_pos (.inl ha)]
    have e1 : takeE k a 0 = 60 := by unfold takeE; rw [if_pos (numK_neg.2 ha)]
    have e2 : takeE k b 60 = 60 := by unfold takeE; split; rfl; rw [if_neg (by simp)]
    rw [e1, e2, fin_err (by decide)]; rfl
  · obtain ⟨a1, a2⟩ := refNum_of (k := k) (s := a) (by omega)
    by_cases hb : refNum k b < 0
    · rw [if_pos (.inr hb)]
      have e2 : ∀ e, takeE k b e = 60 := fun e => by unfold takeE; rw [if_pos (numK_neg.2 hb)]
      rw [e2, fin_err (by decide)]; rfl
    · obtain ⟨b1, b2⟩ := refNum_of (k := k) (s := b) (by omega)
      rw [if_neg (by omega)]
      have e1 : takeE k a 0 = if refNum k a < lowK k ∨ highK k < refNum k a then 61 else 0 := by
        unfold takeE; rw [if_neg (by simp [a1]), a2]; simp
      have e2 : ∀ e, takeE k b e = if e = 0 ∧ (refNum k b < lowK k ∨ highK k < refNum k b) then 61 else e := fun e => by
        unfold takeE; rw [if_neg (by simp [b1]), b2]
      rw [e1, e2, a2, b2]
      by_cases c1 : refNum k a < lowK k ∨ highK k < refNum k a
      · rw [if_pos c1, if_neg (by omega), fin_err (by decide), if_pos (by omega)]; rfl
      · rw [if_neg c1]
        by_cases c2 : refNum k b < lowK k ∨ highK k < refNum k b
        · rw [if_pos ⟨rfl, c2⟩, fin_err (by decide), if_pos (by omega)]; rfl
        · rw [if_neg (fun h => c2 h.2)]
          by_cases c3 : refNum k b < refNum k a
          · rw [if_pos (by omega)]
            unfold finK asItem
            rw [if_neg (by simp), if_pos (.inl c3)]; rfl
          · rw [if_neg (by omega), fin_ref (by omega) hs]
theorem split_mem {c : UInt8} {s : List UInt8} (h : c ∈ s) : ∃ a b, s = a ++ c :: b ∧ c ∉ a := by
  induction s with
  | nil => cases h
  | cons x s ih =>
    by_cases hx : x = c
    · subst hx; exact ⟨[], s, rfl, by simp⟩
    · obtain ⟨a, b, rfl, h2⟩ := ih (by rcases List.mem_cons.1 h with h | h; exact absurd h.symm hx; exact h)
      exact ⟨x :: a, b, rfl, by simp [h2, Ne.symm hx]⟩
theorem sp_cases (c : UInt8) (s : List UInt8) : (sp c s = [s] ∧ ct c s = (s, [], false)) ∨ (∃ a b, sp c s = [a, b] ∧ ct c s = (a, b, true)) ∨ (∃ a b x y r, sp c s = a :: x :: y :: r ∧ ct c s = (a, b, true) ∧ c ∈ b) := by
  by_cases h : c ∈ s
  · obtain ⟨a, b, rfl, ha⟩ := split_mem h
    right
    rw [sp_app, sp_not ha, ct_app ha]
    by_cases hb : c ∈ b
    · right
      obtain ⟨a2, b2, rfl, ha2⟩ := split_mem hb
      rw [sp_app, sp_not ha2]
      cases he : sp c b2 with
      | nil => exact absurd he (sp_ne c b2)
      | cons y r => exact ⟨a, _, a2, y, r, rfl, rfl, hb⟩
    · left
      rw [sp_not hb]
      exact ⟨a, b, rfl, rfl⟩
  · exact .inl ⟨sp_not h, ct_not h⟩
theorem body_ref {k : Int} (hk : isK k = true) (body : List UInt8) (two : Bool) {step : Int} (hs : 0 ≤ step) : bodyK k body two step = asItem k (refBody k body two step) := by
  have hb := bounds_le hk
  unfold bodyK refBody
  by_cases h : body = [42]
  · rw [if_pos h, if_pos h, fin_ref (by omega) hs]
  · rw [if_neg h, if_neg h, cut_ct]
    rcases sp_cases 45 body with ⟨h1, h2⟩ | ⟨a, b, h1, h2⟩ | ⟨a, b, x, y, r, h1, h2, h3⟩
    · rw [h1, h2]
      cases two with
      | true => simp [asItem, orRow]
      | false =>
        simp only [Bool.false_eq_true, false_and, if_false]
        have e := ends_ref (k := k) (a := body) (b := body) hs
        have e2 : takeE k body (takeE k body 0) = takeE k body 0 := by
          unfold takeE
          split
          · rfl
          · split
            · rw [if_neg (by simp)]
            · first | rfl | (rename_i h3; rw [if_neg h3])
        rw [e2] at e
        exact e
    · rw [h1, h2]
      simp only [Bool.true_eq_false, and_false, if_false, if_true]
      exact ends_ref hs
    · rw [h1, h2]
      simp only [Bool.true_eq_false, and_false, if_false, if_true]
      rw [ends_ref hs]
      unfold refEnds
      rw [if_pos (.inr (by rw [refNum_bad (.inl rfl) h3]; decide))]
theorem item_ref {k : Int} (hk : isK k = true) (s : List UInt8) : itemK k s = asItem k (refItem k s) := by
  unfold itemK refItem
  rw [cut_ct]
  rcases sp_cases 47 s with ⟨h1, h2⟩ | ⟨a, b, h1, h2⟩ | ⟨a, b, x, y, r, h1, h2, h3⟩
  · rw [h1, h2]
    simp only [Bool.false_eq_true, if_false]
    exact body_ref hk _ _ (by decide)
  · rw [h1, h2]
    simp only [if_true]
    by_cases hn : refNum 0 b < 0
    · rw [if_pos (numK_neg.2 hn), if_pos hn]; rfl
    · obtain ⟨b1, b2⟩ := refNum_of (k := 0) (s := b) (by omega)
      rw [if_neg (by simp [b1]), if_neg hn, b2]
      exact body_ref hk _ _ (by omega)
  · rw [h1, h2]
    simp only [if_true]
    rw [if_pos (numK_neg.2 (by rw [refNum_bad (.inr rfl) h3]; decide))]
    rfl
theorem rowFrom_in {step : Nat} {last : Int} (hs : 0 < step) : ∀ (f n : Nat), ∀ x ∈ rowFrom step last f n, n ≤ x ∧ (x : Int) ≤ last
  | 0, n, x, h => by simp [rowFrom] at h
  | f + 1, n, x, h => by
    unfold rowFrom at h
    split at h
    · rcases List.mem_cons.1 h with rfl | h
      · omega
      · have := rowFrom_in hs f _ x h; omega
    · simp at h
theorem refItem_in {k : Int} (hk : isK k = true) (s : List UInt8) : ∀ x ∈ (refItem k s).1, (x : Int) ≤ highK k := by
  have hb := bounds_le hk
  have hE : ∀ {first last step : Int}, 0 ≤ step → last ≤ highK k → ∀ x ∈ (refEnd first last step).1, (x : Int) ≤ highK k := fun {first last step} hs hl x hx => by
    unfold refEnd at hx
    split at hx
    · simp at hx
    · have := rowFrom_in (by omega) _ _ x hx; omega
  have hEs : ∀ {a b step : Int}, 0 ≤ step → ∀ x ∈ (refEnds k a b step).1, (x : Int) ≤ highK k := fun {a b step} hs x hx => by
    unfold refEnds at hx
    split at hx
    · simp at hx
    · split at hx
      · simp at hx
      · exact hE hs (by omega) x hx
  have hB : ∀ {body : List UInt8} {two : Bool} {step : Int}, 0 ≤ step → ∀ x ∈ (refBody k body two step).1, (x : Int) ≤ highK k := fun {body two step} hs x hx => by
    unfold refBody at hx
    split at hx
    · exact hE hs (by omega) x hx
    · split at hx
      · split at hx
        · simp at hx
        · exact hEs hs x hx
      · exact hEs hs x hx
      · simp at hx
  intro x hx
  unfold refItem at hx
  split at hx
  · exact hB (by decide) x hx
  · split at hx
    · simp at hx
    · exact hB (by omega) x hx
  · simp at hx
end Go.Proofs.YtlhgpodfhdddkaaGreatDoor
