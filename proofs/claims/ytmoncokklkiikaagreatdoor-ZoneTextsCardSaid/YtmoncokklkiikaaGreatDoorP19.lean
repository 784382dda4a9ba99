/- Zones' texts, plainly: what is told, what is read; what was told is read as it was. Zones: the moments of a clock, when it begins. The firings of a time, gone over by a loop: next.All, next.Count. Zones: when a clock begins. Zones: the first firing behind a moment. -/
import Derived.Test.YtmoncokklkiikaaGreatDoorP15
import Derived.Test.YtmoncokklkiikaaGreatDoorP13
import Derived.Lib.ItoaMem
import Derived.Lib.ParseIntBCases
import Derived.Test.YtmoncokklkiikaaGreatDoorP18
set_option linter.unusedSimpArgs false
set_option linter.unusedVariables false
set_option linter.unnecessarySimpa false
namespace Go.Proofs.YtmoncokklkiikaaGreatDoor
open Rg Go
def dg8 (n : Nat) : UInt8 := UInt8.ofNat (48 + n % 10)
def four (m : Nat) : List UInt8 := [dg8 (m / 1000), dg8 (m / 100), dg8 (m / 10), dg8 m]
def hhmm (n : Nat) : Nat := n / 3600 * 100 + n / 60 % 60
def wrZ (n : Int) : List UInt8 := (if n < 0 then 45 else 43) :: four (hhmm n.natAbs)
def partZ (c : Int × Int) : List UInt8 := Lib.itoa c.1 ++ wrZ c.2
def wordsZ (z : Zn) : List (List UInt8) := wrZ z.first :: z.l.map partZ
def textZ (z : Zn) : List UInt8 := if mayZ z = true then Lib.join (wordsZ z) [32] else []
theorem dg8_toNat (n : Nat) : (dg8 n).toNat = 48 + n % 10 := by
  unfold dg8
  rw [UInt8.toNat_ofNat']
  omega
theorem dg8_ne (n : Nat) {c : UInt8} (h : c.toNat < 48 ∨ 57 < c.toNat) : dg8 n ≠ c := by
  intro e
  have := dg8_toNat n
  rw [e] at this
  omega
theorem wrZ_len (n : Int) : (wrZ n).length = 5 := rfl
theorem hhmm_lt {n : Nat} (h : n ≤ 50400) : hhmm n < 1460 := by unfold hhmm; omega
theorem hhmm_back {n : Nat} (h : n % 60 = 0) : hhmm n / 100 * 3600 + hhmm n % 100 * 60 = n := by
  unfold hhmm
  omega
def pI (a : List UInt8) : Int × Bool :=
  match Lib.parseIntB 64 a with
  | .ok v => (v, true)
  | .range => (Lib.intSat 64 a, false)
  | _ => (0, false)
def offV (neg : Bool) (u : Nat) : Int := if neg = true then -((u / 100 * 3600 + u % 100 * 60 : Nat) : Int) else ((u / 100 * 3600 + u % 100 * 60 : Nat) : Int)
def readZ : List UInt8 → Int × Bool
  | [] => (0, false)
  | c :: r =>
    if c = 43 ∨ c = 45 then
      match Lib.parseUintB 16 r with
      | .ok u => (offV (decide (c = 45)) u, true)
      | .range => (offV (decide (c = 45)) 65535, false)
      | _ => (0, false)
    else (0, false)
def stepZ (j : Nat) (w : List UInt8) (st : Bool × Int × List (Int × Int)) : Bool × Int × List (Int × Int) :=
  if j = 0 then (st.1 && (readZ (w.drop (w.length - 5))).2 && decide (w.length - 5 = 0), (readZ (w.drop (w.length - 5))).1, st.2.2)
  else (st.1 && (readZ (w.drop (w.length - 5))).2 && (pI (w.take (w.length - 5))).2, st.2.1, st.2.2 ++ [((pI (w.take (w.length - 5))).1, (readZ (w.drop (w.length - 5))).1)])
def goZ : Nat → List (List UInt8) → Bool × Int × List (Int × Int) → Option (Bool × Int × List (Int × Int))
  | _, [], st => some st
  | j, w :: r, st => if w.length < 5 then none else goZ (j + 1) r (stepZ j w st)
def finZ (s : List UInt8) : Option (Bool × Int × List (Int × Int)) → Option Zn
  | none => none
  | some (ok, f, L) => if ok = true ∧ textZ ⟨f, L⟩ = s then some ⟨f, L⟩ else none
def parseZ (s : List UInt8) : Option Zn := if 4000 < s.length then none else finZ s (goZ 0 (sp 32 s) (true, 0, []))
theorem parseZ_sound {s : List UInt8} {z : Zn} (h : parseZ s = some z) : textZ z = s ∧ mayZ z = true := by
  unfold parseZ at h
  split at h
  · cases h
  · cases hg : goZ 0 (sp 32 s) (true, 0, []) with
    | none => rw [hg] at h; cases h
    | some st =>
      obtain ⟨ok, f, L⟩ := st
      rw [hg] at h
      unfold finZ at h
      simp only at h
      split at h
      · rename_i hc
        cases h
        refine ⟨hc.2, ?_⟩
        cases hm : mayZ ⟨f, L⟩ with
        | true => rfl
        | false =>
          exfalso
          have h2 := hc.2
          unfold textZ at h2
          rw [hm, if_neg (by simp)] at h2
          subst h2
          simp [sp, goZ] at hg
      · cases h
theorem dec_digit : ∀ (n : Nat), ∀ c ∈ Lib.decDigits n, 48 ≤ c.toNat ∧ c.toNat ≤ 57 := by
  intro n
  induction n using Nat.strongRecOn with
  | ind n ih =>
    intro c hc
    rw [Lib.decDigits] at hc
    split at hc
    · simp only [List.mem_singleton] at hc
      subst hc
      rw [UInt8.toNat_ofNat']
      omega
    · rename_i h10
      rcases List.mem_append.1 hc with hc | hc
      · exact ih (n / 10) (by omega) c hc
      · simp only [List.mem_singleton] at hc
        subst hc
        rw [UInt8.toNat_ofNat']
        omega
theorem dec_ne (n : Nat) : Lib.decDigits n ≠ [] := by
  rw [Lib.decDigits]
  split <;> simp
theorem puM_dec (M : Nat) (r : List UInt8) : ∀ n : Nat, n ≤ M → n < 18446744073709551616 → Lib.parseUintM M 0 (Lib.decDigits n ++ r) = Lib.parseUintM M n r := by
  intro n
  induction n using Nat.strongRecOn generalizing r with
  | ind n ih =>
    intro hM hn
    rw [Lib.decDigits]
    split
    · have e : (UInt8.ofNat (48 + n)).toNat = 48 + n := by rw [UInt8.toNat_ofNat']; omega
      rw [List.singleton_append, Lib.parseUintM, e, if_pos (by omega), if_neg (by omega), if_neg (by omega)]
      congr 1
      omega
    · have e : (UInt8.ofNat (48 + n % 10)).toNat = 48 + n % 10 := by rw [UInt8.toNat_ofNat']; omega
      rw [List.append_assoc, List.singleton_append, ih (n / 10) (by omega) _ (by omega) (by omega), Lib.parseUintM, e, if_pos (by omega), if_neg (by omega), if_neg (by omega)]
      congr 1
      omega
theorem pu_dec {B n : Nat} (h : n ≤ 2 ^ B - 1) (h2 : n < 18446744073709551616) : Lib.parseUintB B (Lib.decDigits n) = .ok n := by
  unfold Lib.parseUintB
  rw [if_neg (dec_ne n)]
  have := puM_dec (2 ^ B - 1) [] n h h2
  rw [List.append_nil] at this
  rw [this, Lib.parseUintM]
theorem itoa_nat {a : Int} (h : 0 ≤ a) : Lib.itoa a = Lib.decDigits a.toNat := by
  unfold Lib.itoa
  rw [if_neg (by omega)]
theorem pI_itoa {a : Int} (h0 : 0 ≤ a) (h : a < 13569465600) : pI (Lib.itoa a) = (a, true) := by
  obtain ⟨n, rfl⟩ := Int.eq_ofNat_of_zero_le h0
  rw [itoa_nat h0, Int.toNat_natCast]
  have hd := dec_digit n
  have hp := pu_dec (B := 64) (n := n) (by omega) (by omega)
  unfold pI
  cases hl : Lib.decDigits n with
  | nil => exact absurd hl (dec_ne n)
  | cons c r =>
    have hc := hd c (by rw [hl]; simp)
    rw [hl] at hp
    have : Lib.parseIntB 64 (c :: r) = .ok (n : Int) := by
      rw [Lib.parseIntB_plain 64 c r (by omega) (by omega), hp]
      unfold Lib.signlessC
      simp only
      rw [if_neg (by omega)]
    rw [this]
def okFour (m : Nat) : Bool := match Lib.parseUintB 16 (four m) with | .ok u => u == m | _ => false
theorem four_back : ∀ m, m < 1460 → okFour m = true := by decide +kernel
theorem four_read {m : Nat} (h : m < 1460) : Lib.parseUintB 16 (four m) = .ok m := by
  have := four_back m h
  unfold okFour at this
  split at this
  · rename_i u hu; rw [hu]; simp at this; rw [this]
  · cases this
theorem offV_back {o : Int} (h : offOk o = true) : offV (decide (o < 0)) (hhmm o.natAbs) = o := by
  rw [offOk_iff] at h
  unfold offV
  have := hhmm_back (n := o.natAbs) (by omega)
  rw [this]
  by_cases ho : o < 0
  · rw [if_pos (by simp [ho])]; omega
  · rw [if_neg (by simp [ho])]; omega
theorem readZ_wr {o : Int} (h : offOk o = true) : readZ (wrZ o) = (o, true) := by
  have hb := offV_back h
  have h' := offOk_iff.1 h
  unfold wrZ readZ
  simp only
  rw [four_read (hhmm_lt (by omega))]
  by_cases ho : o < 0
  · simp only [if_pos ho]
    rw [if_pos (by simp)]
    simp only [decide_true]
    rw [decide_eq_true ho] at hb
    rw [hb]
  · simp only [if_neg ho]
    rw [if_pos (by simp)]
    rw [decide_eq_false ho] at hb
    have : decide ((43 : UInt8) = 45) = false := by decide
    rw [this, hb]
theorem blank_wr (o : Int) : (32 : UInt8) ∉ wrZ o := by
  unfold wrZ four
  simp only [List.mem_cons, List.not_mem_nil, or_false, not_or]
  refine ⟨?_, (dg8_ne _ (by decide)).symm, (dg8_ne _ (by decide)).symm, (dg8_ne _ (by decide)).symm, (dg8_ne _ (by decide)).symm⟩
  split <;> decide
theorem blank_part {c : Int × Int} (h : 0 ≤ c.1) : (32 : UInt8) ∉ partZ c := by
  unfold partZ
  rw [itoa_nat h, List.mem_append, not_or]
  refine ⟨fun hm => ?_, blank_wr _⟩
  have := dec_digit _ _ hm
  revert this
  decide
theorem step_word {j : Nat} (hj : j ≠ 0) {c : Int × Int} (ho : offOk c.2 = true) (h0 : 0 ≤ c.1) (h1 : c.1 < 13569465600) (f : Int) (L : List (Int × Int)) : ¬ (partZ c).length < 5 ∧ stepZ j (partZ c) (true, f, L) = (true, f, L ++ [c]) := by
  have hl : (partZ c).length = (Lib.itoa c.1).length + 5 := by unfold partZ; rw [List.length_append, wrZ_len]
  refine ⟨by omega, ?_⟩
  unfold stepZ
  rw [if_neg hj, hl, Nat.add_sub_cancel]
  have e1 : (partZ c).drop (Lib.itoa c.1).length = wrZ c.2 := by unfold partZ; rw [List.drop_left]
  have e2 : (partZ c).take (Lib.itoa c.1).length = Lib.itoa c.1 := by unfold partZ; rw [List.take_left]
  rw [e1, e2, readZ_wr ho, pI_itoa h0 h1]
  rfl
theorem go_words : ∀ (R : List (Int × Int)) (j : Nat) (f : Int) (L : List (Int × Int)), j ≠ 0 → (∀ c ∈ R, offOk c.2 = true ∧ 0 ≤ c.1 ∧ c.1 < 13569465600) → goZ j (R.map partZ) (true, f, L) = some (true, f, L ++ R)
  | [], j, f, L, _, _ => by simp [goZ]
  | c :: R, j, f, L, hj, h => by
    obtain ⟨h1, h2, h3⟩ := h c (by simp)
    obtain ⟨s1, s2⟩ := step_word hj h1 h2 h3 f L
    rw [List.map_cons, goZ, if_neg s1, s2, go_words R (j + 1) f (L ++ [c]) (by omega) fun d hd => h d (by simp [hd])]
    simp
theorem mayL_in : ∀ {l : List (Int × Int)} {p : Option Int}, mayL p l = true → ∀ c ∈ l, offOk c.2 = true ∧ 0 ≤ c.1 ∧ c.1 < 13569465600
  | [], _, _, c, hc => by cases hc
  | (a, o) :: r, p, h, c, hc => by
    rw [mayL_cons] at h
    rcases List.mem_cons.1 hc with e | hc
    · subst e; exact ⟨h.1, h.2.1, h.2.2.1⟩
    · exact mayL_in h.2.2.2.2.2 c hc
theorem may_parts {z : Zn} (h : mayZ z = true) : offOk z.first = true ∧ z.l.length ≤ 64 ∧ mayL none z.l = true := by
  simp only [mayZ, Bool.and_eq_true, decide_eq_true_eq] at h
  exact ⟨h.1.1, h.1.2, h.2⟩
theorem digits_le {n : Nat} (h : n < 13569465600) : (Lib.decDigits n).length ≤ 11 := by
  rw [Lib.decDigits_length]
  by_cases hn : n < 10
  · rw [Lib.nDigits_small hn]; omega
  · refine Nat.not_lt.1 fun hc => ?_
    obtain ⟨k, hk⟩ : ∃ k, Lib.nDigits n = k + 12 := ⟨Lib.nDigits n - 12, by omega⟩
    have : ∀ k u : Nat, Lib.nDigits u = k + 1 → 10 ^ k ≤ u ∨ k = 0 := by
      intro k
      induction k with
      | zero => intro u _; exact .inr rfl
      | succ k ih =>
        intro u hu
        by_cases h10 : u < 10
        · rw [Lib.nDigits_small h10] at hu; omega
        · rw [Lib.nDigits_big h10] at hu
          rcases ih (u / 10) (by omega) with h | h
          · left; rw [Nat.pow_succ]; omega
          · subst h; left; simp; omega
    rcases this (k + 11) n (by omega) with h1 | h1
    · have h2 : 10 ^ 11 ≤ 10 ^ (k + 11) := Nat.pow_le_pow_right (by decide) (by omega)
      omega
    · omega
theorem join_len (c : UInt8) (m : Nat) : ∀ (l : List (List UInt8)), (∀ x ∈ l, x.length ≤ m) → (Lib.join l [c]).length ≤ l.length * (m + 1)
  | [], _ => by simp [Lib.join]
  | [x], h => by have := h x (by simp); simp [Lib.join]; omega
  | x :: y :: r, h => by
    have h1 := h x (by simp)
    have h2 := join_len c m (y :: r) fun w hw => h w (by simp [hw])
    rw [join_cons2]
    simp only [List.length_append, List.length_cons] at h2 ⊢
    rw [Nat.add_mul]
    omega
theorem part_len {c : Int × Int} (h0 : 0 ≤ c.1) (h1 : c.1 < 13569465600) : (partZ c).length ≤ 16 := by
  unfold partZ
  rw [itoa_nat h0, List.length_append, wrZ_len]
  have := digits_le (n := c.1.toNat) (by omega)
  omega
theorem text_len (z : Zn) : (textZ z).length ≤ 1105 := by
  unfold textZ
  split
  · rename_i h
    obtain ⟨h1, h2, h3⟩ := may_parts h
    have := join_len 32 16 (wordsZ z) fun x hx => by
      unfold wordsZ at hx
      rcases List.mem_cons.1 hx with e | hx
      · subst e; rw [wrZ_len]; omega
      · obtain ⟨c, hc, rfl⟩ := List.mem_map.1 hx
        have := mayL_in h3 c hc
        exact part_len this.2.1 this.2.2
    unfold wordsZ at this ⊢
    simp only [List.length_cons, List.length_map] at this
    omega
  · simp
theorem words_sp {z : Zn} (h : mayZ z = true) : sp 32 (textZ z) = wordsZ z := by
  obtain ⟨h1, h2, h3⟩ := may_parts h
  unfold textZ
  rw [if_pos h]
  unfold wordsZ
  refine sp_join _ _ fun y hy => ?_
  rcases List.mem_cons.1 hy with e | hy
  · subst e; exact blank_wr _
  · obtain ⟨c, hc, rfl⟩ := List.mem_map.1 hy
    exact blank_part (mayL_in h3 c hc).2.1
theorem parseZ_text {z : Zn} (h : mayZ z = true) : parseZ (textZ z) = some z := by
  obtain ⟨h1, h2, h3⟩ := may_parts h
  have hl := text_len z
  unfold parseZ
  rw [if_neg (by omega), words_sp h]
  unfold wordsZ
  have e0 : stepZ 0 (wrZ z.first) (true, 0, []) = (true, z.first, []) := by
    unfold stepZ
    rw [if_pos rfl, wrZ_len]
    simp only [Nat.sub_self, List.drop_zero]
    rw [readZ_wr h1]
    rfl
  rw [goZ, wrZ_len, if_neg (by omega), e0, go_words _ _ _ _ (by omega) (mayL_in h3)]
  unfold finZ
  simp
def isDg (c : UInt8) : Bool := decide (48 ≤ c.toNat) && decide (c.toNat ≤ 57)
def dv (c : UInt8) : Nat := c.toNat - 48
def offR : List UInt8 → Int × Bool
  | c :: a :: b :: d :: e :: _ =>
    if (c = 43 ∨ c = 45) ∧ isDg a = true ∧ isDg b = true ∧ isDg d = true ∧ isDg e = true then (offV (decide (c = 45)) (((dv a * 10 + dv b) * 10 + dv d) * 10 + dv e), true) else (0, false)
  | _ => (0, false)
def digR : Nat → List UInt8 → Nat × List UInt8
  | t, [] => (t, [])
  | t, c :: r => if isDg c = true ∧ t < 13569465600 then digR (10 * t + dv c) r else (t, c :: r)
def goR : Nat → List UInt8 → List (Int × Int) → Bool × List (Int × Int)
  | _, [], L => (true, L)
  | 0, _, L => (false, L)
  | f + 1, _ :: r, L =>
    if (offR (digR 0 r).2).2 = true then goR f ((digR 0 r).2.drop 5) (L ++ [(((digR 0 r).1 : Int), (offR (digR 0 r).2).1)])
    else (false, L ++ [(((digR 0 r).1 : Int), (offR (digR 0 r).2).1)])
def refZ (s : List UInt8) : Option Zn :=
  if (offR s).2 = true ∧ s.length ≤ 4000 ∧ (goR s.length (s.drop 5) []).1 = true ∧ mayZ ⟨(offR s).1, (goR s.length (s.drop 5) []).2⟩ = true ∧ textZ ⟨(offR s).1, (goR s.length (s.drop 5) []).2⟩ = s then some ⟨(offR s).1, (goR s.length (s.drop 5) []).2⟩ else none
theorem refZ_sound {s : List UInt8} {z : Zn} (h : refZ s = some z) : textZ z = s ∧ mayZ z = true := by
  unfold refZ at h
  split at h
  · rename_i hc; cases h; exact ⟨hc.2.2.2.2, hc.2.2.2.1⟩
  · cases h
def okFourR (m : Nat) : Bool := match four m with | [a, b, d, e] => isDg a && isDg b && isDg d && isDg e && (((dv a * 10 + dv b) * 10 + dv d) * 10 + dv e == m) | _ => false
theorem fourR_back : ∀ m, m < 1460 → okFourR m = true := by decide +kernel
theorem offR_wr {o : Int} (h : offOk o = true) (r : List UInt8) : offR (wrZ o ++ r) = (o, true) := by
  have hb := offV_back h
  have h' := offOk_iff.1 h
  have hf := fourR_back (hhmm o.natAbs) (hhmm_lt (by omega))
  unfold wrZ
  generalize hhmm o.natAbs = m at hb hf ⊢
  unfold okFourR four at hf
  simp only [Bool.and_eq_true, beq_iff_eq] at hf
  obtain ⟨⟨⟨⟨f1, f2⟩, f3⟩, f4⟩, f5⟩ := hf
  unfold four offR
  simp only [List.cons_append, List.nil_append, f1, f2, f3, f4, f5, and_self, and_true]
  by_cases ho : o < 0
  · simp only [if_pos ho]
    rw [if_pos (by simp)]
    rw [decide_eq_true ho] at hb
    simp only [decide_true]
    rw [hb]
  · simp only [if_neg ho]
    rw [if_pos (by simp)]
    rw [decide_eq_false ho] at hb
    have : decide ((43 : UInt8) = 45) = false := by decide
    rw [this, hb]
theorem digR_dec (r : List UInt8) : ∀ n : Nat, n < 13569465600 → digR 0 (Lib.decDigits n ++ r) = digR n r := by
  intro n
  induction n using Nat.strongRecOn generalizing r with
  | ind n ih =>
    intro hn
    rw [Lib.decDigits]
    split
    · have e : (UInt8.ofNat (48 + n)).toNat = 48 + n := by rw [UInt8.toNat_ofNat']; omega
      rw [List.singleton_append, digR, if_pos ⟨by unfold isDg; rw [e]; simp; omega, by omega⟩]
      congr 1
      unfold dv
      omega
    · have e : (UInt8.ofNat (48 + n % 10)).toNat = 48 + n % 10 := by rw [UInt8.toNat_ofNat']; omega
      rw [List.append_assoc, List.singleton_append, ih (n / 10) (by omega) _ (by omega), digR, if_pos ⟨by unfold isDg; rw [e]; simp; omega, by omega⟩]
      congr 1
      unfold dv
      omega
theorem digR_stop (t : Nat) {c : UInt8} (h : isDg c = false) (r : List UInt8) : digR t (c :: r) = (t, c :: r) := by
  rw [digR, if_neg (by rw [h]; simp)]
theorem sign_dg (o : Int) : isDg (if o < 0 then 45 else 43) = false := by
  split <;> decide
theorem digR_part {c : Int × Int} (h0 : 0 ≤ c.1) (h1 : c.1 < 13569465600) (r : List UInt8) : digR 0 (partZ c ++ r) = (c.1.toNat, wrZ c.2 ++ r) := by
  unfold partZ
  rw [itoa_nat h0, List.append_assoc, digR_dec _ _ (by omega)]
  unfold wrZ
  rw [List.cons_append, digR_stop _ (sign_dg _)]
theorem goR_words : ∀ (R : List (Int × Int)) (f : Nat) (L : List (Int × Int)), R.length ≤ f → (∀ c ∈ R, offOk c.2 = true ∧ 0 ≤ c.1 ∧ c.1 < 13569465600) → goR f (R.flatMap fun c => 32 :: partZ c) L = (true, L ++ R)
  | [], f, L, _, _ => by cases f <;> simp [goR]
  | c :: R, 0, L, hf, _ => by simp at hf
  | c :: R, f + 1, L, hf, h => by
    obtain ⟨h1, h2, h3⟩ := h c (by simp)
    rw [List.flatMap_cons, List.cons_append, goR, digR_part h2 h3]
    simp only
    rw [offR_wr h1, if_pos rfl]
    have : (wrZ c.2 ++ R.flatMap fun c => 32 :: partZ c).drop 5 = R.flatMap fun c => 32 :: partZ c := List.drop_left' (wrZ_len _)
    rw [this, goR_words R f _ (by simpa using hf) fun d hd => h d (by simp [hd])]
    simp only [Int.toNat_of_nonneg h2, List.append_assoc, List.singleton_append]
theorem join_flat (x : List UInt8) : ∀ (R : List (List UInt8)), Lib.join (x :: R) [32] = x ++ R.flatMap fun y => 32 :: y
  | [] => by simp [Lib.join]
  | y :: R => by rw [join_cons2, join_flat y R, List.flatMap_cons]; simp
theorem refZ_text {z : Zn} (h : mayZ z = true) : refZ (textZ z) = some z := by
  obtain ⟨h1, h2, h3⟩ := may_parts h
  have hl := text_len z
  have ht : textZ z = wrZ z.first ++ z.l.flatMap fun c => 32 :: partZ c := by
    unfold textZ wordsZ
    rw [if_pos h, join_flat, List.flatMap_map]
  have hd : (textZ z).drop 5 = z.l.flatMap fun c => 32 :: partZ c := by rw [ht]; exact List.drop_left' (wrZ_len _)
  have ho : offR (textZ z) = (z.first, true) := by rw [ht]; exact offR_wr h1 _
  have hlen : z.l.length ≤ (textZ z).length := by
    rw [ht, List.length_append]
    have : ∀ R : List (Int × Int), R.length ≤ (R.flatMap fun c => 32 :: partZ c).length := by
      intro R
      induction R with
      | nil => simp
      | cons c R ih => rw [List.flatMap_cons, List.length_append]; simp only [List.length_cons]; omega
    have := this z.l
    omega
  unfold refZ
  rw [ho, hd, goR_words _ _ _ hlen (mayL_in h3), List.nil_append]
  simp only [true_and]
  rw [if_pos ⟨by omega, h, trivial⟩]
theorem ref_parse (s : List UInt8) : refZ s = parseZ s := by
  cases h : refZ s with
  | some z =>
    obtain ⟨h1, h2⟩ := refZ_sound h
    rw [← h1, parseZ_text h2]
  | none =>
    cases h' : parseZ s with
    | none => rfl
    | some z =>
      obtain ⟨h1, h2⟩ := parseZ_sound h'
      rw [← h1, refZ_text h2] at h
      cases h
end Go.Proofs.YtmoncokklkiikaaGreatDoor
namespace Go.Proofs.YtmoncokklkiikaaGreatDoor
open Rg Go
variable {H : Heap}
theorem atL_mem : ∀ (l : List (Int × Int)) (f t : Int), atL f l t ∈ f :: l.map (·.2)
  | [], f, t => by simp [atL]
  | (a, o) :: r, f, t => by
    unfold atL
    split
    · simp
    · have := atL_mem r o t
      rw [List.map_cons]
      exact List.mem_cons_of_mem _ this
theorem mom_of_row {z : Zn} (hz : mayZ z = true) {l : Int} {xs : List Int} (hn : xs.Nodup) (hm : ∀ t, t ∈ xs ↔ IsMom z l t) : xs.length ≤ 2 ∧ sort2 xs = momZ z l := by
  have hl := mom_len hz hn fun t ht => (hm t).1 ht
  refine ⟨hl, sorted_eq (sort2_sorted hl hn) (mom_sorted z l) fun t => ?_⟩
  rw [sort2_mem, hm, mom_mem hz]
set_option maxHeartbeats 4000000 in
theorem c_zMoments_raw (z : Zn) (t : Rg.Tok) (hz : mayZ z = true) {l : Int} (h0 : 0 ≤ l) (h1 : l < 13569465600) :
    ACalls Tryz.prog 108 [zAV z t, .sc (.int .i64 l)] H (fun v K => ∃ xs, xs = (momZ z l).map i64 ∧ RawRow H 2 xs v K) := by
  have hlen := z_len hz
  have hfo := offOk_iff.1 (may_parts hz).1
  have hin := mayL_in (may_parts hz).2.2
  obtain ⟨ns, hns⟩ : ∃ ns, z.first :: z.l.map (·.2) = ns := ⟨_, rfl⟩
  have hnl : ns.length = z.l.length + 1 := by rw [← hns]; simp
  have hno : ∀ n ∈ ns, -50400 ≤ n ∧ n ≤ 50400 := by
    intro n hn
    rw [← hns] at hn
    rcases List.mem_cons.1 hn with e | hn
    · subst e; exact hfo.2
    · obtain ⟨c, hc, rfl⟩ := List.mem_map.1 hn
      exact (offOk_iff.1 (hin c hc).1).2
  have happ : i64 z.first :: (z.l.map fun c => i64 c.2) = ns.map i64 := by rw [← hns]; simp [Function.comp_def]
  refine ACalls.into Tryz.func108 rfl Tryz.ntmps108 Tryz.results108 (by simp) ?_
  simp -implicitDefEqProofs
  refine AAlloc.intro fun b2 h2 => ?_
  simp -implicitDefEqProofs
  generalize hK : Heap.set _ b2 _ = K1
  have k2 : K1 b2 = some (.cells (zC z t) 55) := by rw [← hK]; simp [Heap.set]
  have kW : HLe H K1 := by rw [← hK]; exact HLe.set_fresh h2
  clear hK
  refine go_draw 8 f_mixed (by decide +kernel) ?_
  simp -implicitDefEqProofs [k2]
  refine AQS.eq (c_zOffsets z t (by omega)) ?_
  simp -implicitDefEqProofs
  refine AQS.app el_106 (.inl (.inr rfl)) (by simp [szs]) (szs_map (f := fun c : Int × Int => i64 c.2) (fun _ => rfl) _) (by simp; omega) (by simp [maxLen]; omega) ?_
  have happ' : [AV.sc (.int .i64 z.first)] ++ (z.l.map fun c => i64 c.2) = ns.map i64 := happ
  rw [happ']
  simp -implicitDefEqProofs
  refine AGo.roundsB 5 (fun μ ρ K => ∃ (i : Nat) (xs : List Int) (A : Option Addr) (cap : Nat), μ = ns.length - i ∧ i ≤ ns.length ∧ xs.Nodup ∧ (∀ t, t ∈ xs ↔ IsMom z l t ∧ l - t ∈ ns.take i) ∧
    ρ 1 = .sc (.int .i64 l) ∧ ρ 2 = .sc (.pointer (some ⟨b2, 0, none⟩)) ∧ ρ 14 = .sl (ns.map i64) .no ∧ ρ 15 = .sc (.int .i64 (ns.length : Int)) ∧ ρ 16 = .sc (.int .i64 (i : Int)) ∧ ρ 5 = .sc (.slice A xs.length cap) ∧ RawRow K1 2 (xs.map i64) (.sc (.slice A xs.length cap)) K) ?_ (m := ns.length) (by simp)
    ⟨0, [], none, 0, by omega, by omega, List.nodup_nil, by simp, by simp, by simp, by simp, by simp, by simp, by simp, RawRow.none⟩
  rintro μ ρ K ih ⟨i, xs, A, cap, rfl, hi, hnd, hmem, r1, r2, r14, r15, r16, r5, hR⟩
  have hxl : xs.length ≤ 2 := mom_len hz hnd fun t ht => ((hmem t).1 ht).1
  have k2' : K b2 = some (.cells (zC z t) 55) := hR.1 _ _ k2
  rcases Nat.lt_or_ge i ns.length with hlt | hge
  · obtain ⟨n, hn, _⟩ := getAt hlt
    have hbn := hno n (by rw [← hn]; exact List.getElem_mem _)
    have hw1 : IntKind.i64.wrap ((i : Int) + 1) = (i : Int) + 1 := wrap_i64 (by omega) (by omega)
    obtain ⟨u, hu⟩ : ∃ u, l - n = u := ⟨_, rfl⟩
    have hw2 : IntKind.i64.wrap (l - n) = u := by rw [wrap_i64 (by omega) (by omega), hu]
    have hw3 : IntKind.i64.wrap n = n := wrap_i64 (by omega) (by omega)
    have htk : ∀ t, l - t ∈ ns.take (i + 1) ↔ l - t ∈ ns.take i ∨ t = u := fun t => by
      rw [List.take_succ_eq_append_getElem hlt, hn, List.mem_append, List.mem_singleton]
      constructor <;> (rintro (h | h); exact .inl h; right; omega)
    have keep : (IsMom z l u → u ∈ xs) → ∀ t, t ∈ xs ↔ IsMom z l t ∧ l - t ∈ ns.take (i + 1) := fun h t => by
      rw [htk, hmem]
      constructor
      · exact fun h2 => ⟨h2.1, .inl h2.2⟩
      · rintro ⟨h2, h3 | h3⟩
        · exact ⟨h2, h3⟩
        · subst h3; exact (hmem t).1 (h h2)
    simp -implicitDefEqProofs [r1, r2, r14, r15, r16, hlt, hn, i64, hw2, hw3]
    refine ACall.eq (c_zMoment u) ?_
    cases hmo : momOk u with
    | false =>
      simp -implicitDefEqProofs [r16, hw1]
      refine AGo.again ih (m' := ns.length - (i + 1)) (by omega) (HLe.refl _) ⟨i + 1, xs, A, cap, rfl, by omega, hnd, keep fun h => ?_, by simp [r1], by simp [r2], by simp [r14], by simp [r15], by simp, by simp [r5], hR⟩
      have := momOk_iff.2 ⟨h.1, h.2.1⟩
      rw [hmo] at this
      cases this
    | true =>
      have hmo' := momOk_iff.1 hmo
      simp -implicitDefEqProofs [r1, r2, k2']
      refine ACall.eq (c_zAt z t u (by omega)) ?_
      by_cases hat : atZ z u = n
      · have hmm : IsMom z l u := ⟨hmo'.1, hmo'.2, by omega⟩
        by_cases hx : u ∈ xs
        · simp -implicitDefEqProofs [hat, r5]
          refine ACall.eq (c_contains64 u hR (by omega)) ?_
          simp -implicitDefEqProofs [hx, r16, hw1]
          exact AGo.again ih (m' := ns.length - (i + 1)) (by omega) (HLe.refl _) ⟨i + 1, xs, A, cap, rfl, by omega, hnd, keep fun _ => hx, by simp [r1], by simp [r2], by simp [r14], by simp [r15], by simp, by simp [r5], hR⟩
        · simp -implicitDefEqProofs [hat, r5]
          refine ACall.eq (c_contains64 u hR (by omega)) ?_
          simp -implicitDefEqProofs [hx, r5]
          refine ACall.intro (app_raw (e := 2) el_36 (fun z hz q hq => by simp at hz; subst hz; simp at hq; subst hq; rfl) hR rfl (by simp; omega) (by simp [maxLen]; omega)) fun v' K' hR' => ?_
          have ex : (xs.map i64) ++ [i64 u] = (xs ++ [u]).map i64 := by simp
          change RawRow K1 _ ((xs.map i64) ++ [i64 u]) v' K' at hR'
          rw [ex] at hR'
          obtain ⟨A', cap', hv'⟩ := hR'.form
          rw [List.length_map] at hv'
          subst hv'
          simp -implicitDefEqProofs [r16, hw1]
          refine AGo.again ih (m' := ns.length - (i + 1)) (by omega) (HLe.refl _) ⟨i + 1, xs ++ [u], A', cap', rfl, by omega, ?_, fun t => ?_, by simp [r1], by simp [r2], by simp [r14], by simp [r15], by simp, by simp, hR'⟩
          · rw [List.nodup_append]
            refine ⟨hnd, by simp, fun a ha b hb => ?_⟩
            simp only [List.mem_singleton] at hb
            subst hb
            rintro rfl
            exact hx ha
          · rw [htk, List.mem_append, hmem, List.mem_singleton]
            constructor
            · rintro (h | h)
              · exact ⟨h.1, .inl h.2⟩
              · subst h; exact ⟨hmm, .inr rfl⟩
            · rintro ⟨h2, h3 | h3⟩
              · exact .inl ⟨h2, h3⟩
              · exact .inr h3
      · simp -implicitDefEqProofs [hat, r16, hw1]
        refine AGo.again ih (m' := ns.length - (i + 1)) (by omega) (HLe.refl _) ⟨i + 1, xs, A, cap, rfl, by omega, hnd, keep fun h => ?_, by simp [r1], by simp [r2], by simp [r14], by simp [r15], by simp, by simp [r5], hR⟩
        have := h.2.2
        omega
  · have hn' : ¬ i < ns.length := by omega
    have hall : ∀ t, t ∈ xs ↔ IsMom z l t := fun t => by
      rw [hmem, List.take_of_length_le hge]
      refine ⟨fun h => h.1, fun h => ⟨h, ?_⟩⟩
      have := atL_mem z.l z.first t
      rw [hns] at this
      have h3 := h.2.2
      unfold atZ at h3
      rwa [show l - t = atL z.first z.l t by omega]
    obtain ⟨_, he⟩ := mom_of_row hz hnd hall
    simp -implicitDefEqProofs [r15, r16, r5, hn']
    refine ACall.intro (c_sort64 hR hxl) fun v' K' hR' => ?_
    simp -implicitDefEqProofs [r5]
    refine ⟨_, _, wk_refl _, HWk.refl _, ?_⟩
    rw [he] at hR'
    exact hR'.le kW
theorem c_zMoments (z : Zn) (t : Rg.Tok) (hz : mayZ z = true) {l : Int} (h0 : 0 ≤ l) (h1 : l < 13569465600) :
    AOk Tryz.prog 108 [zAV z t, .sc (.int .i64 l)] H (.sl ((momZ z l).map i64) .no) H := by
  have hr := c_zMoments_raw (H := H) z t hz h0 h1
  generalize momZ z l = M at hr ⊢
  have hf := ACalls.freeze (X := fun xs => xs = M.map i64) (fun xs hx x hm => by subst hx; obtain ⟨z, _, rfl⟩ := List.mem_map.1 hm; rfl) hr
  exact ACalls.weaken (ACalls.mono hf fun v K ⟨xs, e1, e2, e3⟩ => ⟨_, H, by rw [e2, e1]; exact wk_refl _, e3.wk, rfl, rfl⟩)
def momentsZ (z : Zn) (c : Clk) : List Int := if mayZ z = true ∧ mayC c = true then momZ z (momI c) else []
def argE (z : Zn) (c : Clk) : Int := if mayZ z = true ∧ mayC c = true then 0 else 2
theorem c_zMomentsC (z : Zn) (t : Rg.Tok) (c : Clk) : AOk Tryz.prog 35 [zAV z t, cAV c] H (.tup [.sl ((momentsZ z c).map i64) .no, .sc (.int .i64 (argE z c))]) H := by
  unfold momentsZ argE
  refine ACalls.into Tryz.func35 rfl Tryz.ntmps35 Tryz.results35 (by simp) ?_
  simp -implicitDefEqProofs
  refine AAlloc.intro fun b2 h2 => ?_
  simp -implicitDefEqProofs
  refine AAlloc.intro fun b3 h3 => ?_
  have n23 : b2 ≠ b3 := by intro e; subst e; simp [Heap.set] at h3
  have n32 := n23.symm
  have e3 : H b3 = none := (HLe.set_fresh h2).none h3
  simp -implicitDefEqProofs [n23, n32]
  refine ACall.eq (c_sJoin c) ?_
  simp -implicitDefEqProofs [n23, n32]
  refine ACall.eq (c_zMay z t) ?_
  cases hz : mayZ z with
  | false =>
    simp -implicitDefEqProofs
    repeat (first | exact HWk.refl _ | refine HWk.new (by assumption) ?_)
  | true =>
    unfold joinE
    cases hc : mayC c with
    | false =>
      simp -implicitDefEqProofs
      repeat (first | exact HWk.refl _ | refine HWk.new (by assumption) ?_)
    | true =>
      simp -implicitDefEqProofs [n23, n32]
      refine ACall.eq (c_zMoments z t hz (momI_lt c).1 (momI_lt c).2) ?_
      simp -implicitDefEqProofs
      repeat (first | exact HWk.refl _ | refine HWk.new (by assumption) ?_)
end Go.Proofs.YtmoncokklkiikaaGreatDoor
namespace Go.Proofs.YtmoncokklkiikaaGreatDoor
open Rg Go
variable {H : Heap}
abbrev ptr (b : Nat) : AV := .sc (.pointer (some ⟨b, 0, none⟩))
theorem HWk.delNew {K H : Heap} {b : Nat} (hb : K b = none) (h : HWk K H) : HWk K (H.del b) := fun c ob e => by
  have hc : c ≠ b := by rintro rfl; rw [hb] at e; cases e
  obtain ⟨o, h1, h2⟩ := h c ob e
  exact ⟨o, by unfold Heap.del; rw [if_neg hc]; exact h1, h2⟩
theorem GlobT.set {H : Heap} {b : Nat} {o : AObj} (h : GlobT H) (hb : ∀ us, H b ≠ some (.ro us)) : GlobT (H.set b o) := by
  obtain ⟨us, h1, h2⟩ := h
  refine ⟨us, ?_, h2⟩
  unfold Heap.set
  split
  · rename_i hc; subst hc; exact absurd h1 (hb us)
  · exact h1
theorem del_apply {H : Heap} {b c : Nat} : Heap.del H b c = if c = b then none else H c := rfl
theorem mark_nrm {Q : Post} {D : Nat} : (Q.mark D).nrm = fun ρ H => H D = some .dfr ∧ Q.nrm ρ (H.del D) := rfl
theorem mark_ret {Q : Post} {D : Nat} : (Q.mark D).ret = fun ρ H => H D = some .dfr ∧ Q.ret ρ (H.del D) := rfl
end Go.Proofs.YtmoncokklkiikaaGreatDoor
namespace Go.Proofs.YtmoncokklkiikaaGreatDoor
open Rg Go
variable {H : Heap}
def gapI : Int → List (Int × Int) → Int → Nat → Option Nat
  | _, [], _, _ => none
  | f, (a, o) :: r, l, i => if a + f ≤ l ∧ l < a + o then some i else gapI o r l (i + 1)
def optIdx : Option Nat → Int
  | some k => k
  | none => -1
theorem gapI_gapL (L : List (Int × Int)) (l : Int) : ∀ (R : List (Int × Int)) (f : Int) (i : Nat), L.drop i = R → (gapI f R l i = none ∧ gapL f R l = none) ∨ ∃ k c, gapI f R l i = some k ∧ L[k]? = some c ∧ gapL f R l = some c.1
  | [], f, i, _ => .inl ⟨rfl, rfl⟩
  | (a, o) :: R, f, i, h => by
    have hi : i < L.length := by
      refine Nat.not_le.1 fun hc => ?_
      rw [List.drop_of_length_le hc] at h
      cases h
    rw [List.drop_eq_getElem_cons hi] at h
    injection h with h1 h2
    unfold gapI gapL
    by_cases hc : a + f ≤ l ∧ l < a + o
    · rw [if_pos hc, if_pos hc]
      exact .inr ⟨i, (a, o), rfl, by rw [List.getElem?_eq_getElem hi, h1], rfl⟩
    · rw [if_neg hc, if_neg hc]
      exact gapI_gapL L l R o (i + 1) h2
def Keep (b : Nat) (H K : Heap) : Prop := ∀ c ob, c ≠ b → H c = some ob → K c = some ob
theorem Keep.refl {b : Nat} {H : Heap} : Keep b H H := fun _ _ _ h => h
theorem Keep.trans {b : Nat} {A B D : Heap} (h : Keep b A B) (k : Keep b B D) : Keep b A D := fun c ob hc e => k c ob hc (h c ob hc e)
theorem Keep.wk {b : Nat} {H0 A B : Heap} (h : Keep b A B) (hw : HWk H0 A) (h0 : H0 b = none) : HWk H0 B := fun c ob e => by
  have hc : c ≠ b := by rintro rfl; rw [h0] at e; cases e
  obtain ⟨o, h1, h2⟩ := hw c ob e
  exact ⟨o, h c o hc h1, h2⟩
theorem Keep.new {b d : Nat} {A B : Heap} {o : AObj} (h : Keep b A B) (hd : B d = none) : Keep b A (B.set d o) := fun c ob hc e => by
  have h1 := h c ob hc e
  have : c ≠ d := by rintro rfl; rw [h1] at hd; cases hd
  simp [Heap.set, this, h1]
theorem Keep.put {b : Nat} {A B : Heap} {o : AObj} (h : Keep b A B) : Keep b A (B.set b o) := fun c ob hc e => by
  simp [Heap.set, hc, h c ob hc e]
theorem c_skips {b3 b7 : Nat} {l f : Int} (c : Int × Int) (h3 : H b3 = some (.cells [.sc (.int .i64 l)] 2)) (h7 : H b7 = some (.cells [.sc (.int .i64 f)] 3)) (h37 : b3 ≠ b7)
    (hf : -50400 ≤ f ∧ f ≤ 50400) (hc : -50400 ≤ c.2 ∧ c.2 ≤ 50400) (ha : 0 ≤ c.1 ∧ c.1 < 13569465600) :
    ACalls Tryz.prog 147 [chAV c, .sc (.pointer (some ⟨b3, 0, none⟩)), .sc (.pointer (some ⟨b7, 0, none⟩))] H
      (fun v K => v = .sc (.bool (decide (c.1 + f ≤ l) && decide (l < c.1 + c.2))) ∧ K b3 = some (.cells [.sc (.int .i64 l)] 2) ∧ K b7 = some (.cells [.sc (.int .i64 c.2)] 3) ∧ Keep b7 H K) := by
  have w1 : IntKind.i64.wrap (c.1 + f) = c.1 + f := wrap_i64 (by omega) (by omega)
  have w2 : IntKind.i64.wrap (c.1 + c.2) = c.1 + c.2 := wrap_i64 (by omega) (by omega)
  have w3 : IntKind.i64.wrap f = f := wrap_i64 (by omega) (by omega)
  have w4 : IntKind.i64.wrap c.2 = c.2 := wrap_i64 (by omega) (by omega)
  refine ACalls.into Tryz.func147 rfl Tryz.ntmps147 Tryz.results147 (by simp) ?_
  simp -implicitDefEqProofs
  refine AAlloc.intro fun b hb => ?_
  have n3 : b3 ≠ b := by intro e; subst e; rw [h3] at hb; cases hb
  have n7 : b7 ≠ b := by intro e; subst e; rw [h7] at hb; cases hb
  have n73 := h37.symm
  by_cases c1 : c.1 + f ≤ l
  · simp -implicitDefEqProofs [h3, h7, n3, n7, w1, w2, w3, w4, c1]
    refine ⟨_, _, wk_refl _, HWk.refl _, ?_, ?_, ?_, ?_⟩
    · simp [c1]
    · simp [Heap.set, n3, n7, h37, h3]
    · simp [Heap.set]
    · exact (Keep.refl.new hb).put
  · simp -implicitDefEqProofs [h3, h7, n3, n7, w1, w2, w3, w4, c1]
    refine ⟨_, _, wk_refl _, HWk.refl _, ?_, ?_, ?_, ?_⟩
    · simp [c1]
    · simp [Heap.set, n3, n7, h37, h3]
    · simp [Heap.set]
    · exact (Keep.refl.new hb).put
set_option maxHeartbeats 1000000 in
theorem c_idxSkips {b3 b7 : Nat} {l f : Int} {L : List (Int × Int)} {t : Rg.Tok} (h3 : H b3 = some (.cells [.sc (.int .i64 l)] 2)) (h7 : H b7 = some (.cells [.sc (.int .i64 f)] 3)) (h37 : b3 ≠ b7)
    (hf : -50400 ≤ f ∧ f ≤ 50400) (hL : ∀ c ∈ L, offOk c.2 = true ∧ 0 ≤ c.1 ∧ c.1 < 13569465600) (hl : L.length ≤ 1000000) :
    ACalls Tryz.prog 148 [.sl (L.map chAV) t, .sc (.func (.func 147) #[] #[.pointer (some ⟨b3, 0, none⟩), .pointer (some ⟨b7, 0, none⟩)])] H
      (fun v K => v = .sc (.int .i64 (optIdx (gapI f L l 0))) ∧ Keep b7 H K) := by
  generalize hk : gapI f L l 0 = k
  refine ACalls.into Tryz.func148 rfl Tryz.ntmps148 Tryz.results148 (by simp) ?_
  simp -implicitDefEqProofs
  refine AGo.rounds (fun μ ρ K => ∃ (i : Nat) (f : Int), μ = L.length - i ∧ i ≤ L.length ∧ gapI f (L.drop i) l i = k ∧ (-50400 ≤ f ∧ f ≤ 50400) ∧ ρ 0 = .sl (L.map chAV) t ∧ ρ 1 = .sc (.func (.func 147) #[] #[.pointer (some ⟨b3, 0, none⟩), .pointer (some ⟨b7, 0, none⟩)]) ∧
    ρ 7 = .sc (.int .i64 (L.length : Int)) ∧ ρ 8 = .sc (.int .i64 (i : Int)) ∧ K b3 = some (.cells [.sc (.int .i64 l)] 2) ∧ K b7 = some (.cells [.sc (.int .i64 f)] 3) ∧ Keep b7 H K) ?_ (m := L.length) (HLe.refl _)
    ⟨0, f, by omega, by omega, hk, hf, by simp, by simp, by simp, by simp, h3, h7, Keep.refl⟩
  clear hk hf h3 h7
  rintro μ ρ K ih ⟨i, f, rfl, hi, hg, hf, r0, r1, r7, r8, h3, h7, hW⟩
  rcases Nat.lt_or_ge i L.length with hlt | hge
  · obtain ⟨c, hc, _⟩ := getAt hlt
    have hcL := hL c (by rw [← hc]; exact List.getElem_mem _)
    have hw1 : IntKind.i64.wrap ((i : Int) + 1) = (i : Int) + 1 := wrap_i64 (by omega) (by omega)
    rw [List.drop_eq_getElem_cons hlt, hc] at hg
    unfold gapI at hg
    simp -implicitDefEqProofs [r0, r1, r7, r8, hlt, hc]
    refine ACall.intro (c_skips c h3 h7 h37 hf (offOk_iff.1 hcL.1).2 hcL.2) fun v K' ⟨hv, g3, g7, gW⟩ => ?_
    subst hv
    by_cases hcc : c.1 + f ≤ l ∧ l < c.1 + c.2
    · rw [if_pos hcc] at hg
      subst hg
      simp -implicitDefEqProofs [hcc.1, hcc.2, optIdx]
      exact ⟨_, _, wk_refl _, HWk.refl _, by simp [optIdx], hW.trans gW⟩
    · rw [if_neg hcc] at hg
      have hcc' : (decide (c.1 + f ≤ l) && decide (l < c.1 + c.2)) = false := by
        simp only [Bool.and_eq_false_iff, decide_eq_false_iff_not]
        omega
      simp -implicitDefEqProofs [hcc', r8, hw1]
      exact AGo.again ih (m' := L.length - (i + 1)) (by omega) (HLe.refl _) ⟨i + 1, c.2, rfl, by omega, hg, (offOk_iff.1 hcL.1).2, by simp [r0], by simp [r1], by simp [r7], by simp, g3, g7, hW.trans gW⟩
  · have hn' : ¬ i < L.length := by omega
    rw [List.drop_of_length_le hge] at hg
    subst hg
    simp -implicitDefEqProofs [r7, r8, hn', gapI, optIdx]
    exact ⟨_, _, wk_refl _, HWk.refl _, by simp [optIdx, gapI], hW⟩
def okB (r : Option Int) : Bool := r.isSome
set_option maxHeartbeats 2000000 in
theorem c_zBegin (z : Zn) (t : Rg.Tok) (hz : mayZ z = true) {l : Int} (h0 : 0 ≤ l) (h1 : l < 13569465600) :
    AOk Tryz.prog 99 [zAV z t, .sc (.int .i64 l)] H (.tup [.sc (.int .i64 (optI (beginZ z l))), .sc (.bool (okB (beginZ z l)))]) H := by
  have hlen := z_len hz
  have hfo := offOk_iff.1 (may_parts hz).1
  have hin := mayL_in (may_parts hz).2.2
  have hM := fun K => c_zMoments (H := K) z t hz h0 h1
  have hgap := gapI_gapL z.l l z.l z.first 0 rfl
  unfold beginZ
  refine ACalls.into Tryz.func99 rfl Tryz.ntmps99 Tryz.results99 (by simp) ?_
  simp -implicitDefEqProofs
  refine AAlloc.intro fun b2 h2 => ?_
  simp -implicitDefEqProofs
  refine AAlloc.intro fun b3 h3 => ?_
  have n23 : b2 ≠ b3 := by intro e; subst e; simp [Heap.set] at h3
  have n32 := n23.symm
  have e3 : H b3 = none := (HLe.set_fresh h2).none h3
  simp -implicitDefEqProofs [n23, n32]
  generalize hK : Heap.set _ b3 _ = K
  have k2 : K b2 = some (.cells (zC z t) 55) := by rw [← hK]; simp [Heap.set, n23]
  have k3 : K b3 = some (.cells [.sc (.int .i64 l)] 2) := by rw [← hK]; simp [Heap.set]
  have kW : HWk H K := by rw [← hK]; exact HWk.new e3 (HWk.new h2 (HWk.refl _))
  clear hK
  refine ACall.eq (hM K) ?_
  generalize momZ z l = M
  cases M with
  | cons m M =>
    simp -implicitDefEqProofs [i64, optI, okB]
    exact kW
  | nil =>
    simp -implicitDefEqProofs [k2]
    refine AAlloc.intro fun b7 h7 => ?_
    have n27 : b2 ≠ b7 := by intro e; subst e; rw [k2] at h7; cases h7
    have n37 : b3 ≠ b7 := by intro e; subst e; rw [k3] at h7; cases h7
    simp -implicitDefEqProofs [k2, n27]
    refine ACall.intro (c_idxSkips (f := z.first) (l := l) (by simp [Heap.set, n37, k3]) (by simp [Heap.set]) n37 hfo.2 hin (by omega)) fun v K' ⟨hv, hKp⟩ => ?_
    subst hv
    have g2 : K' b2 = some (.cells (zC z t) 55) := hKp b2 _ n27 (by simp [Heap.set, n27, k2])
    have gW : HWk H K' := hKp.wk (HWk.new (kW.none h7) kW) (kW.none h7)
    rcases hgap with ⟨g1, g3⟩ | ⟨k, c, g1, g3, g4⟩
    · rw [g1, g3]
      simp -implicitDefEqProofs [optIdx, optI, okB]
      exact gW
    · rw [g1, g4]
      have hk : k < z.l.length := (List.getElem?_eq_some_iff.1 g3).1
      have hk' : z.l[k] = c := (List.getElem?_eq_some_iff.1 g3).2
      simp -implicitDefEqProofs [optIdx, optI, okB, g2, hk, hk']
      exact gW
def beginC (z : Zn) (c : Clk) : Option Int := if mayZ z = true ∧ mayC c = true then beginZ z (momI c) else none
def beginE (z : Zn) (c : Clk) : Int := if mayZ z = true ∧ mayC c = true then errI (beginZ z (momI c)) else 2
theorem c_zBeginC (z : Zn) (t : Rg.Tok) (c : Clk) : AOk Tryz.prog 36 [zAV z t, cAV c] H (.tup [.sc (.int .i64 (optI (beginC z c))), .sc (.int .i64 (beginE z c))]) H := by
  unfold beginC beginE
  refine ACalls.into Tryz.func36 rfl Tryz.ntmps36 Tryz.results36 (by simp) ?_
  simp -implicitDefEqProofs
  refine AAlloc.intro fun b2 h2 => ?_
  simp -implicitDefEqProofs
  refine AAlloc.intro fun b3 h3 => ?_
  have n23 : b2 ≠ b3 := by intro e; subst e; simp [Heap.set] at h3
  have n32 := n23.symm
  have e3 : H b3 = none := (HLe.set_fresh h2).none h3
  simp -implicitDefEqProofs [n23, n32]
  refine ACall.eq (c_sJoin c) ?_
  simp -implicitDefEqProofs [n23, n32]
  refine ACall.eq (c_zMay z t) ?_
  cases hz : mayZ z with
  | false =>
    simp -implicitDefEqProofs [optI]
    repeat (first | exact HWk.refl _ | refine HWk.new (by assumption) ?_)
  | true =>
    unfold joinE
    cases hc : mayC c with
    | false =>
      simp -implicitDefEqProofs [optI]
      repeat (first | exact HWk.refl _ | refine HWk.new (by assumption) ?_)
    | true =>
      simp -implicitDefEqProofs [n23, n32]
      refine ACall.eq (c_zBegin z t hz (momI_lt c).1 (momI_lt c).2) ?_
      generalize beginZ z (momI c) = r
      cases r with
      | none =>
        simp -implicitDefEqProofs [optI, okB, errI]
        repeat (first | exact HWk.refl _ | refine HWk.new (by assumption) ?_)
      | some a =>
        simp -implicitDefEqProofs [optI, okB, errI]
        repeat (first | exact HWk.refl _ | refine HWk.new (by assumption) ?_)
end Go.Proofs.YtmoncokklkiikaaGreatDoor
namespace Go.Proofs.YtmoncokklkiikaaGreatDoor
open Rg Go
variable {H : Heap}
theorem fire_at {x : Ex} {f : Nat} (h1 : f % 60 = 0) (h2 : fitsX x (clk f) = true) : fireB x f = true := by unfold fireB; simp [h1, h2]
theorem fire_not {x : Ex} {f : Nat} (h : f % 60 = 0 → fitsX x (clk f) = false) : fireB x f = false := by
  unfold fireB
  by_cases h1 : f % 60 = 0
  · simp [h1, h h1]
  · simp [h1]
def muO : Option Nat → Nat
  | some n => 13569465600 - n + 1
  | none => 0
def AftI (z : Zn) (x : Ex) (m : Nat) (r : Option Int) (b3 b4 : Nat) (K0 : Heap) (μ : Nat) (ρ : Nat → AV) (K : Heap) : Prop :=
  ∃ q : Option Nat, μ = muO q ∧ (∀ n, q = some n → n < 13569465600 ∧ fireB x n = true ∧ IsAft z x n m r) ∧ (q = none → r = none) ∧ ρ 11 = .sc (.int .i64 (optN q : Int)) ∧ ρ 12 = .sc (.int .i64 (errN q : Int)) ∧ ρ 2 = .sc (.int .i64 m) ∧
    ρ 3 = .sc (.pointer (some ⟨b3, 0, none⟩)) ∧ ρ 4 = .sc (.pointer (some ⟨b4, 0, none⟩)) ∧ K = K0
set_option maxHeartbeats 4000000 in
theorem c_zAfter (hG : GlobT H) (z : Zn) (t : Rg.Tok) {x : Ex} (hx : x.ok) {m : Nat} (hz : mayZ z = true) (hm : mayX x = true) (hmt : m < 13569465600) {r : Option Int} (hr : IsAft z x (m - 50400) m r) :
    AOk Tryz.prog 27 [zAV z t, exAV x, .sc (.int .i64 m)] H (.tup [.sc (.int .i64 (optI r)), .sc (.int .i64 (errI r))]) H := by
  refine ACalls.into Tryz.func27 rfl Tryz.ntmps27 Tryz.results27 (by simp) ?_
  simp -implicitDefEqProofs
  refine AAlloc.intro fun b3 h3 => ?_
  simp -implicitDefEqProofs
  refine AAlloc.intro fun b4 h4 => ?_
  have n34 : b3 ≠ b4 := by intro e; subst e; simp [Heap.set] at h4
  have n43 := n34.symm
  have e4 : H b4 = none := (HLe.set_fresh h3).none h4
  simp -implicitDefEqProofs [n34, n43]
  generalize hK : Heap.set _ b4 _ = K
  have k3 : K b3 = some (.cells (zC z t) 55) := by rw [← hK]; simp [Heap.set, n34]
  have k4 : K b4 = some (.cells (exC x) 42) := by rw [← hK]; simp [Heap.set]
  have kG : GlobT K := by rw [← hK]; exact (hG.new h3).new h4
  have kW : HWk H K := by rw [← hK]; exact HWk.new e4 (HWk.new h3 (HWk.refl _))
  clear hK
  refine ACall.eq (c_zMay z t) ?_
  rw [hz]
  simp -implicitDefEqProofs [k4]
  refine ACall.eq (c_cronMay x hx) ?_
  rw [hm]
  simp -implicitDefEqProofs
  refine ACall.eq (c_zMoment m) ?_
  rw [momOk_iff.2 ⟨by omega, by omega⟩]
  obtain ⟨f, hf⟩ : ∃ f, m - 50400 = f := ⟨_, rfl⟩
  have hw : IntKind.i64.wrap ((m : Int) - 50400) = (m : Int) - 50400 := wrap_i64 (by omega) (by omega)
  rw [hf] at hr
  have hmax : (if (m : Int) - 50400 < 0 then 0 else (m : Int) - 50400) = (f : Int) := by split <;> omega
  simp -implicitDefEqProofs [hw, hmax]
  refine ACall.eq (c_split_s (t := f) (by omega)) ?_
  have hs : (clk f).s = ((f % 60 : Nat) : Int) := rfl
  have hft := fire_at (x := x) (f := f)
  have hfn := fire_not (x := x) (f := f)
  generalize clk f = c at *
  simp -implicitDefEqProofs
  refine AAlloc.intro fun b9 h9 => ?_
  have n39 : b3 ≠ b9 := by intro e; subst e; rw [k3] at h9; cases h9
  have n49 : b4 ≠ b9 := by intro e; subst e; rw [k4] at h9; cases h9
  simp -implicitDefEqProofs [n39, n49, hs]
  generalize hK : Heap.set K b9 _ = K2
  have k3' : K2 b3 = some (.cells (zC z t) 55) := by rw [← hK]; simp [Heap.set, n39, k3]
  have k4' : K2 b4 = some (.cells (exC x) 42) := by rw [← hK]; simp [Heap.set, n49, k4]
  have k9' : K2 b9 = some (.cells [.sc (.int .i64 c.y), .sc (.int .i64 c.m), .sc (.int .i64 c.d), .sc (.int .i64 c.h), .sc (.int .i64 c.mi), .sc (.int .i64 c.s), .sc (.int .i64 c.w)] 48) := by rw [← hK]; simp [Heap.set, hs]
  have kG2 : GlobT K2 := by rw [← hK]; exact kG.new h9
  have kW2 : HWk H K2 := by rw [← hK]; exact HWk.new (kW.none h9) kW
  clear hK
  have hf60 : ((f : Int) % 60 = 0) ↔ f % 60 = 0 := by omega
  obtain ⟨q0, hq0⟩ := next_ex x f
  have three : (f % 60 = 0 ∧ fitsX x c = true) ∨ (f % 60 = 0 ∧ fitsX x c = false) ∨ ¬ f % 60 = 0 := by
    by_cases h1 : f % 60 = 0
    · cases h2 : fitsX x c with
      | true => exact .inl ⟨h1, rfl⟩
      | false => exact .inr (.inl ⟨h1, rfl⟩)
    · exact .inr (.inr h1)
  have start : ∃ q : Option Nat, (∀ n, q = some n → n < 13569465600 ∧ fireB x n = true ∧ IsAft z x n m r) ∧ (q = none → r = none) ∧ ((f % 60 = 0 ∧ fitsX x c = true) → q = some f) ∧ (¬ (f % 60 = 0 ∧ fitsX x c = true) → q = q0) := by
    by_cases h : f % 60 = 0 ∧ fitsX x c = true
    · refine ⟨some f, fun n e => ?_, fun e => (by cases e), fun _ => rfl, fun h2 => absurd h h2⟩
      cases e
      exact ⟨by omega, hft h.1 h.2, hr⟩
    · have hff : fireB x f = false := hfn fun h1 => by
        cases h2 : fitsX x c with
        | false => rfl
        | true => exact absurd ⟨h1, h2⟩ h
      obtain ⟨a1, a2⟩ := aft_from hff hr hq0
      refine ⟨q0, fun n e => ?_, a2, fun h2 => absurd h2 h, fun _ => rfl⟩
      subst e
      exact ⟨hq0.2.1, hq0.2.2.1, a1 n rfl⟩
  obtain ⟨q, hq1, hq2, hqa, hqb⟩ := start
  have hq : ((∀ n, q = some n → n < 13569465600 ∧ fireB x n = true ∧ IsAft z x n m r) ∧ (q = none → r = none)) := ⟨hq1, hq2⟩
  clear hq1 hq2 hft hfn hr
  rcases three with h | h | h
  case' inl =>
    obtain rfl := hqa h
    obtain ⟨cy, cm, cd, ch, cmi, cs, cw⟩ := c
    obtain rfl : cs = 0 := by have := hs; simp only at this; rw [this, h.1]; rfl
    simp -implicitDefEqProofs [hf60, h.1, k4', k9']
    refine ACall.eq (c_fits x hx ⟨cy, cm, cd, ch, cmi, 0, cw⟩) ?_
    simp -implicitDefEqProofs [h.2]
    refine AGo.rounds (AftI z x m r b3 b4 K2) ?_ (m := muO (some f)) (HLe.refl _) ⟨some f, rfl, hq.1, hq.2, by simp [optN], by simp [errN], by simp, by simp, by simp, rfl⟩
  case' inr.inl =>
    obtain rfl := hqb (by rw [h.2]; simp)
    obtain ⟨cy, cm, cd, ch, cmi, cs, cw⟩ := c
    obtain rfl : cs = 0 := by have := hs; simp only at this; rw [this, h.1]; rfl
    simp -implicitDefEqProofs [hf60, h.1, k4', k9']
    refine ACall.eq (c_fits x hx ⟨cy, cm, cd, ch, cmi, 0, cw⟩) ?_
    simp -implicitDefEqProofs [h.2, k4']
    refine ACall.eq (c_after kG2 hx hm (by omega) hq0) ?_
    simp -implicitDefEqProofs [outAV]
    refine AGo.rounds (AftI z x m r b3 b4 K2) ?_ (m := muO q) (HLe.refl _) ⟨q, rfl, hq.1, hq.2, by simp, by simp, by simp, by simp, by simp, rfl⟩
  case' inr.inr =>
    obtain rfl := hqb (fun h2 => h h2.1)
    simp -implicitDefEqProofs [hf60, h, k4']
    refine ACall.eq (c_after kG2 hx hm (by omega) hq0) ?_
    simp -implicitDefEqProofs [outAV]
    refine AGo.rounds (AftI z x m r b3 b4 K2) ?_ (m := muO q) (HLe.refl _) ⟨q, rfl, hq.1, hq.2, by simp, by simp, by simp, by simp, by simp, rfl⟩
  all_goals
    rintro μ ρ K' ih ⟨q, rfl, hq1, hq2, r11, r12, r2, r3, r4, rfl⟩
    cases q with
    | none =>
      obtain rfl := hq2 rfl
      simp -implicitDefEqProofs [r12, errN, optI, errI]
      exact kW2
    | some n =>
      obtain ⟨g1, g2, g3⟩ := hq1 n rfl
      simp -implicitDefEqProofs [r11, r12, errN, optN, r3, k3']
      refine ACall.eq (c_zBegin z t hz (by omega) (by omega)) ?_
      by_cases ha : ∃ a, beginZ z (n : Int) = some a ∧ (m : Int) < a
      · obtain ⟨a, e, hlt⟩ := ha
        obtain rfl : r = some a := aft_one g3 ⟨n, Nat.le_refl _, g1, g2, e, hlt, fun k h1 h2 => by omega⟩
        rw [e]
        simp -implicitDefEqProofs [optI, okB, r2, hlt, errI]
        exact kW2
      · have hno : ∀ b, beginZ z (n : Int) = some b → b ≤ m := fun b e => Int.not_lt.1 fun hlt => ha ⟨b, e, hlt⟩
        obtain ⟨q2, hn2⟩ := next_ex x n
        obtain ⟨a1, a2⟩ := aft_step hno g3 hn2
        have hlt : muO q2 < muO (some n) := by
          cases q2 with
          | none => simp [muO]
          | some n2 => have := hn2.1; have := hn2.2.1; simp only [muO]; omega
        cases e : beginZ z (n : Int) with
        | none =>
          simp -implicitDefEqProofs [optI, okB, r2, r4, r11, optN, k4']
          refine ACall.eq (c_after kG2 hx hm g1 hn2) ?_
          simp -implicitDefEqProofs [outAV]
          exact AGo.again ih (m' := muO q2) hlt (HLe.refl _) ⟨q2, rfl, fun n2 e2 => (by subst e2; exact ⟨hn2.2.1, hn2.2.2.1, a1 n2 rfl⟩), a2, by simp, by simp, by simp [r2], by simp [r3], by simp [r4], rfl⟩
        | some b =>
          have hb : ¬ (m : Int) < b := Int.not_lt.2 (hno b e)
          simp -implicitDefEqProofs [optI, okB, r2, r4, r11, optN, k4', hb]
          refine ACall.eq (c_after kG2 hx hm g1 hn2) ?_
          simp -implicitDefEqProofs [outAV]
          exact AGo.again ih (m' := muO q2) hlt (HLe.refl _) ⟨q2, rfl, fun n2 e2 => (by subst e2; exact ⟨hn2.2.1, hn2.2.2.1, a1 n2 rfl⟩), a2, by simp, by simp, by simp [r2], by simp [r3], by simp [r4], rfl⟩
end Go.Proofs.YtmoncokklkiikaaGreatDoor
