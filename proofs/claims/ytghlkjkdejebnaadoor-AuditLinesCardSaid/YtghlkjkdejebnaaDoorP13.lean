/- Words that all texts use: texts and bytes as abstract values; decimal digits; contracts of the kit's. Lines of findings, plainly. What strconv tells of a row of digits, at 31 bits; of numbers. The walks of a finding's line. The walks of reading a finding's line. The walk of audit.Read. The document's facts. Rows that grow. -/
import Derived.Test.YtghlkjkdejebnaaDoorP09
import Derived.Test.YtghlkjkdejebnaaDoorP11
import Derived.Test.YtghlkjkdejebnaaDoorP12
import Derived.Lib.AtoiErrMem
import Derived.Lib.Join
import Derived.Lib.ItoaMem
import Derived.Lib.ParseIntBCases
import Derived.Lib.ItoaNum
import Derived.Lib.AppendIntMem
set_option linter.unusedSimpArgs false
set_option linter.unusedVariables false
set_option linter.unnecessarySimpa false
namespace Go.Proofs.YtghlkjkdejebnaaDoor
open Rg Go Go.RowKit
variable {H : Heap}
abbrev str (l : List UInt8) : AV := .sc (.string ⟨l.toArray⟩)
abbrev u8s (l : List UInt8) : List AV := l.map fun c : UInt8 => .sc (.int .u8 (c.toNat : Int))
theorem getAt {α : Type} {L : List α} {i : Nat} (h : i < L.length) : ∃ e, L[i] = e ∧ L[i]? = some e := ⟨_, rfl, List.getElem?_eq_getElem h⟩
theorem dec_digit : ∀ (n : Nat), ∀ c ∈ Lib.decDigits n, 48 ≤ c.toNat ∧ c.toNat ≤ 57 := by
  intro n
  induction n using Nat.strongRecOn with
  | ind n ih =>
    intro c hc
    rw [Lib.decDigits] at hc
    split at hc
    · simp only [List.mem_singleton] at hc
      subst hc
      rw [UInt8.toNat_ofNat']
      omega
    · rename_i h10
      rcases List.mem_append.1 hc with hc | hc
      · exact ih (n / 10) (by omega) c hc
      · simp only [List.mem_singleton] at hc
        subst hc
        rw [UInt8.toNat_ofNat']
        omega
theorem dec_ne (n : Nat) : Lib.decDigits n ≠ [] := by
  rw [Lib.decDigits]
  split <;> simp
theorem puM_dec (M : Nat) (r : List UInt8) : ∀ n : Nat, n ≤ M → n < 18446744073709551616 → Lib.parseUintM M 0 (Lib.decDigits n ++ r) = Lib.parseUintM M n r := by
  intro n
  induction n using Nat.strongRecOn generalizing r with
  | ind n ih =>
    intro hM hn
    rw [Lib.decDigits]
    split
    · have e : (UInt8.ofNat (48 + n)).toNat = 48 + n := by rw [UInt8.toNat_ofNat']; omega
      rw [List.singleton_append, Lib.parseUintM, e, if_pos (by omega), if_neg (by omega), if_neg (by omega)]
      congr 1
      omega
    · have e : (UInt8.ofNat (48 + n % 10)).toNat = 48 + n % 10 := by rw [UInt8.toNat_ofNat']; omega
      rw [List.append_assoc, List.singleton_append, ih (n / 10) (by omega) _ (by omega) (by omega), Lib.parseUintM, e, if_pos (by omega), if_neg (by omega), if_neg (by omega)]
      congr 1
      omega
theorem pu_dec {B n : Nat} (h : n ≤ 2 ^ B - 1) (h2 : n < 18446744073709551616) : Lib.parseUintB B (Lib.decDigits n) = .ok n := by
  unfold Lib.parseUintB
  rw [if_neg (dec_ne n)]
  have := puM_dec (2 ^ B - 1) [] n h h2
  rw [List.append_nil] at this
  rw [this, Lib.parseUintM]
theorem itoa_nat {a : Int} (h : 0 ≤ a) : Lib.itoa a = Lib.decDigits a.toNat := by
  unfold Lib.itoa
  rw [if_neg (by omega)]
def isDg (c : UInt8) : Bool := decide (48 ≤ c.toNat) && decide (c.toNat ≤ 57)
theorem ACalls.kit {P : Program} {f : FuncId} {vs : List Value} {R : Value → Prop} (h : ∀ (W0 : World) (C : Com) (w : World), Inv W0 C H w → Calls P f vs.toArray w fun e w' => ∃ r, R r ∧ e = .returned r ∧ Below w.heap.size w w') : ACalls P f (vs.map AV.sc) H (fun v K => ∃ r, R r ∧ v = avOf r ∧ K = H) := by
  intro W0 C w us hi ha
  obtain rfl := scs_of ha
  exact .inl ((h W0 C w hi).mono fun e w' ⟨r, h0, h1, h2⟩ => ⟨_, _, C, r, h1, ⟨r, h0, rfl, rfl⟩, CLe.refl C, rel_avOf r, hi.step h2⟩)
def errOf (ok : Bool) (e : Value) : Prop := (ok = true ∧ e = .nilIface) ∨ (ok = false ∧ ∃ t p, e = .iface t p)
theorem puM_le : ∀ (l : List UInt8) (M n u : Nat), n ≤ M → Lib.parseUintM M n l = .ok u → u ≤ M
  | [], M, n, u, hn, h => by unfold Lib.parseUintM at h; cases h; exact hn
  | c :: r, M, n, u, hn, h => by
    unfold Lib.parseUintM at h
    split at h
    · split at h
      · cases h
      · split at h
        · cases h
        · exact puM_le r M _ u (by omega) h
    · cases h
end Go.Proofs.YtghlkjkdejebnaaDoor
namespace Go.Proofs.YtghlkjkdejebnaaDoor
open Rg Go
def wordsA : List (List UInt8) := [[116, 119, 105, 99, 101], [102, 97, 108, 108, 115], [102, 111, 114, 101, 105, 103, 110], [111, 116, 104, 101, 114], [103, 105, 118, 101, 110]]
def lineA (k n : Nat) : List UInt8 := (wordsA[k - 1]?).getD [] ++ 32 :: Lib.decDigits n
def goA : List (List UInt8) → Nat → List UInt8 → Option (Nat × Nat)
  | [], _, _ => none
  | w :: r, i, s => if s.length ≤ w.length + 1 ∨ s.take w.length ≠ w ∨ s[w.length]? ≠ some 32 ∨ (s.drop (w.length + 1)).all isDg = false then goA r (i + 1) s
    else match Lib.parseUintB 31 (s.drop (w.length + 1)) with
      | .ok n => some (i + 1, n)
      | _ => none
def readA (s : List UInt8) : Option (Nat × Nat) :=
  match goA wordsA 0 s with
  | none => none
  | some (k, n) => if lineA k n = s then some (k, n) else none
def tailA : List UInt8 → Nat → Nat → Nat
  | [], _, n => n
  | c :: r, w, n => if isDg c = true ∧ w ≤ 1000000000 then tailA r (10 * w) (n + w * (c.toNat - 48)) else n
def refA (s : List UInt8) : Option (Nat × Nat) :=
  let n := tailA s.reverse 1 0
  if n < 2147483648 then ([1, 2, 3, 4, 5].find? fun k => decide (lineA k n = s)).map fun k => (k, n) else none
theorem dec_all (n : Nat) : (Lib.decDigits n).all isDg = true := by
  rw [List.all_eq_true]
  intro c hc
  have := dec_digit n c hc
  simp [isDg, this.1, this.2]
theorem readA_line {k n : Nat} (hk : 1 ≤ k ∧ k ≤ 5) (hn : n < 2147483648) : readA (lineA k n) = some (k, n) := by
  have hp := pu_dec (B := 31) (n := n) (by omega) (by omega)
  have hd := dec_all n
  have hne := dec_ne n
  have h : goA wordsA 0 (lineA k n) = some (k, n) := by
    obtain ⟨d, hdd⟩ : ∃ d, Lib.decDigits n = d := ⟨_, rfl⟩
    rw [hdd] at hp hd hne
    have hl : 0 < d.length := List.length_pos_iff.2 hne
    have hk5 : k = 1 ∨ k = 2 ∨ k = 3 ∨ k = 4 ∨ k = 5 := by omega
    rcases hk5 with rfl | rfl | rfl | rfl | rfl <;> simp [lineA, goA, wordsA, hdd, hp, hd, hne]
  unfold readA
  rw [h]
  simp
theorem tail_stop {r : List UInt8} (hr : ∀ c ∈ r.head?, isDg c = false) (w n : Nat) : tailA r w n = n := by
  cases r with
  | nil => rfl
  | cons c r => rw [tailA, if_neg (by rw [hr c (by simp)]; simp)]
theorem tail_one {n : Nat} (h : n < 10) (r : List UInt8) (w acc : Nat) (hw : w ≤ 1000000000) : tailA (UInt8.ofNat (48 + n) :: r) w acc = tailA r (10 * w) (acc + w * n) := by
  have e : (UInt8.ofNat (48 + n)).toNat = 48 + n := by rw [UInt8.toNat_ofNat']; omega
  rw [tailA, e, if_pos ⟨by unfold isDg; rw [e]; simp; omega, hw⟩, Nat.add_sub_cancel_left]
theorem tail_dec (r : List UInt8) (hr : ∀ c ∈ r.head?, isDg c = false) : ∀ (f n w acc : Nat), n < 10 ^ (f + 1) → w * 10 ^ f ≤ 1000000000 → tailA ((Lib.decDigits n).reverse ++ r) w acc = acc + w * n := by
  intro f
  induction f with
  | zero =>
    intro n w acc h1 h2
    rw [Lib.decDigits, dif_pos (by omega), List.reverse_singleton, List.singleton_append, tail_one (by omega) _ _ _ (by omega), tail_stop hr]
  | succ f ih =>
    intro n w acc h1 h2
    have hp : 0 < 10 ^ f := Nat.pow_pos (by decide)
    have h3 : w * (10 ^ f * 10) = 10 * w * 10 ^ f := by rw [Nat.mul_comm (10 ^ f) 10, ← Nat.mul_assoc, Nat.mul_comm w 10]
    rw [Nat.pow_succ, h3] at h2
    have hw : w ≤ 10 * w * 10 ^ f := by
      have := Nat.mul_le_mul_left (10 * w) hp
      omega
    rw [Lib.decDigits]
    split
    · rw [List.reverse_singleton, List.singleton_append, tail_one (by omega) _ _ _ (by omega), tail_stop hr]
    · rw [List.reverse_append, List.reverse_singleton, List.singleton_append, List.cons_append, tail_one (by omega) _ _ _ (by omega), ih (n / 10) (10 * w) _ (by rw [Nat.pow_succ] at h1; omega) h2]
      have h4 : 10 * w * (n / 10) = w * (10 * (n / 10)) := by rw [Nat.mul_comm 10 w, Nat.mul_assoc]
      rw [h4, Nat.add_assoc, ← Nat.mul_add]
      congr 2
      omega
theorem tail_line {k n : Nat} (hn : n < 2147483648) : tailA (lineA k n).reverse 1 0 = n := by
  unfold lineA
  rw [List.reverse_append, List.reverse_cons, List.append_assoc]
  rw [tail_dec _ (by simp [isDg]) 9 n 1 0 (by omega) (by omega)]
  omega
theorem refA_line {k n : Nat} (hk : 1 ≤ k ∧ k ≤ 5) (hn : n < 2147483648) : refA (lineA k n) = some (k, n) := by
  unfold refA
  simp only
  rw [tail_line hn, if_pos hn]
  rcases hf : [1, 2, 3, 4, 5].find? fun k' => decide (lineA k' n = lineA k n) with _ | k'
  · rw [List.find?_eq_none] at hf
    have := hf k (by simp; omega)
    simp at this
  · have h1 := List.find?_some hf
    have h2 := List.mem_of_find?_eq_some hf
    simp only [decide_eq_true_eq] at h1
    have h3 : 1 ≤ k' ∧ k' ≤ 5 := by simp at h2; omega
    have h4 := readA_line h3 hn
    rw [h1, readA_line hk hn] at h4
    cases h4
    rfl
theorem goA_ok : ∀ (ws : List (List UInt8)) (i : Nat) (s : List UInt8) (k n : Nat), goA ws i s = some (k, n) → i + 1 ≤ k ∧ k ≤ i + ws.length ∧ n < 2147483648
  | [], i, s, k, n, h => by simp [goA] at h
  | w :: r, i, s, k, n, h => by
    unfold goA at h
    split at h
    · have := goA_ok r (i + 1) s k n h
      simp only [List.length_cons]
      omega
    · split at h
      · rename_i u hu
        injection h with h
        injection h with h1 h2
        subst h1 h2
        unfold Lib.parseUintB at hu
        split at hu
        · cases hu
        · have := puM_le _ _ _ _ (Nat.zero_le _) hu
          simp only [List.length_cons]
          omega
      · cases h
theorem readA_inv {s : List UInt8} {k n : Nat} (h : readA s = some (k, n)) : lineA k n = s ∧ (1 ≤ k ∧ k ≤ 5) ∧ n < 2147483648 := by
  unfold readA at h
  split at h
  · cases h
  · rename_i k' n' hg
    split at h
    · rename_i hl
      injection h with h
      injection h with h1 h2
      subst h1 h2
      have := goA_ok _ _ _ _ _ hg
      simp [wordsA] at this
      exact ⟨hl, ⟨by omega, by omega⟩, this.2.2⟩
    · cases h
theorem refA_inv {s : List UInt8} {k n : Nat} (h : refA s = some (k, n)) : lineA k n = s ∧ (1 ≤ k ∧ k ≤ 5) ∧ n < 2147483648 := by
  unfold refA at h
  simp only at h
  split at h
  · rename_i hn
    rcases hf : [1, 2, 3, 4, 5].find? fun k' => decide (lineA k' (tailA s.reverse 1 0) = s) with _ | k'
    · rw [hf] at h; cases h
    · rw [hf] at h
      have h1 := List.find?_some hf
      have h2 := List.mem_of_find?_eq_some hf
      simp only [Option.map_some, Option.some.injEq, Prod.mk.injEq] at h
      obtain ⟨rfl, rfl⟩ := h
      exact ⟨by simpa using h1, by simp at h2; omega, hn⟩
  · cases h
theorem readA_eq (s : List UInt8) : refA s = readA s := by
  rcases h : readA s with _ | ⟨k, n⟩
  · rcases h2 : refA s with _ | ⟨k, n⟩
    · rfl
    · obtain ⟨h3, h4, h5⟩ := refA_inv h2
      rw [← h3, readA_line h4 h5] at h
      cases h
  · obtain ⟨h3, h4, h5⟩ := readA_inv h
    rw [← h3, refA_line h4 h5]
end Go.Proofs.YtghlkjkdejebnaaDoor
namespace Go.Proofs.YtghlkjkdejebnaaDoor
open Rg Go Go.RowKit
variable {H : Heap}
structure GlobA (H : Heap) : Prop where
  pow : H 2 = some (.ro (Lib.pow10Tab.map fun z => Value.int .u64 z))
  rng : ∃ te pe, H 1 = some (.ro [.iface te pe])
theorem GlobA.le {H K : Heap} (h : GlobA H) (hk : HLe H K) : GlobA K := ⟨hk _ _ h.pow, by obtain ⟨t, p, h1⟩ := h.rng; exact ⟨t, p, hk _ _ h1⟩⟩
theorem GlobA.new {H : Heap} {b : Nat} {o : AObj} (h : GlobA H) (hb : H b = none) : GlobA (H.set b o) := h.le (HLe.set_fresh hb)
section
variable {W0 w : World} {C : Com}
theorem GlobA.isTab (h : GlobA H) (hi : Inv W0 C H w) : Lib.TabIs Tryd.prog w "internal/strconv.uint64pow10" .u64 Lib.pow10Tab := by
  obtain ⟨T, fr, hw⟩ := hi.whole h.pow (by simp [Lib.pow10Tab_length])
  unfold Lib.TabIs World.var?
  rw [show Tryd.prog.globalNamed "internal/strconv.uint64pow10" = some 2 by kernel_rfl]
  simp only [Option.bind_some]
  rw [hw]
end
theorem below_growA (w : World) (n : Nat) (os : Array Obj) : Below w.heap.size w (Go.Sort.grow (w.drewN n) os) := Lib.below_grow _ w (Nat.le_refl _) n os
theorem c_itoaA (hG : GlobA H) (n : Int) (h0 : -9223372036854775808 ≤ n) (h1 : n ≤ 9223372036854775807) : AOk Tryd.prog 14 [.sc (.int .i64 n)] H (str (Lib.itoa n)) H :=
  AOk.kit (vs := [.int .i64 n]) (r := .string ⟨(Lib.itoa n).toArray⟩) fun W0 C w hi => (Tryd.strconv_Itoa n h0 h1 w (hG.isTab hi)).mono fun e w' ⟨h1, k, os, h2⟩ => ⟨h1, h2 ▸ below_growA w k os⟩
theorem c_makeIface {P : Program} {T : TypeId} {k : IntKind} (hT : P.underlying T = some (.int k)) (v : Value) : AOk P P.funcs.size (pa 12 T [.sc v]) H (.sc (.iface T v)) H := by
  refine ACalls.prim fun W0 C w vs hi ha ty => ?_
  obtain ⟨x, vs', rfl, hx, ha⟩ := ha.uncons
  obtain rfl := ha.nil_inv
  obtain rfl := hx.sc_inv
  exact ⟨.iface T x, w, by simp [primRun, Instr.makeInterface, Sem.run_bind, run_underlying hT w], _, _, C, ⟨rfl, rfl⟩, CLe.refl C, Rel.sc _, hi⟩
theorem err_int : Tryd.prog.underlying 82 = some (.int .i64) := by kernel_rfl
theorem ofV_nilI : ofV .nilIface = .sc .nilIface := rfl
def pu31 (a : List UInt8) : Nat × Bool :=
  match Lib.parseUintM 2147483647 0 a with
  | .ok u => (u, true)
  | _ => (2147483647, false)
abbrev puAV (p : Nat × Bool) : AV := .tup [.sc (.int .u64 (p.1 : Int)), .sc (if p.2 = true then .nilIface else .iface 82 (.int .i64 1))]
set_option maxHeartbeats 4000000 in
theorem c_pu31i (a : List UInt8) (h0 : a ≠ []) (hd : a.all isDg = true) (ha : a.length ≤ 1000000) : AOk Tryd.prog 19 [str a, .sc (.int .i64 10), .sc (.int .i64 31)] H (puAV (pu31 a)) H := by
  have hne : (a == []) = false := by simpa using h0
  have hml : a.length ≤ maxLen := by simp only [maxLen]; omega
  obtain ⟨res, hres⟩ : ∃ r, pu31 a = r := ⟨_, rfl⟩
  rw [hres]
  refine ACalls.into Tryd.func19 rfl Tryd.ntmps19 Tryd.results19 (by simp) ?_
  have w31 : IntKind.u64.wrap 31 = 31 := by decide
  have w31b : IntKind.u64.wrap (IntKind.u64.wrap 2147483648 - 1) = 2147483647 := by decide
  have w31c : IntKind.u64.wrap 2147483648 = 2147483648 := by decide
  have w31d : IntKind.u64.wrap 2147483647 = 2147483647 := by decide
  have w10 : IntKind.u64.wrap 10 = 10 := by decide
  have w10b : IntKind.u8.wrap 10 = 10 := by decide
  simp -implicitDefEqProofs [hne, aconv, hml, w31, IntKind.bits, w31b, w31c, w31d]
  refine AGo.rounds (fun m ρ K => ∃ (i n : Nat), m = a.length - i ∧ i ≤ a.length ∧ n ≤ 2147483647 ∧ Lib.parseUintM 2147483647 n (a.drop i) = Lib.parseUintM 2147483647 0 a ∧
    ρ 13 = .sc (.int .u64 (n : Int)) ∧ ρ 101 = .sc (.int .i64 (i : Int)) ∧ ρ 12 = .sc (.bool false) ∧ ρ 1 = .sc (.int .i64 10) ∧ ρ 10 = .sc (.int .u64 1844674407370955162) ∧ ρ 11 = .sc (.int .u64 2147483647) ∧ ρ 99 = .sl (u8s a) .no ∧ ρ 100 = .sc (.int .i64 (a.length : Int)) ∧ K = H) ?_ (m := a.length) (HLe.refl _)
    ⟨0, 0, rfl, by omega, by omega, rfl, by simp, by simp, by simp, by simp, by simp, by simp, by simp, by simp, rfl⟩
  rintro m ρ K ih ⟨i, n, rfl, hi, hn, hp, r13, r101, r12, r1, r10, r11, r99, r100, rfl⟩
  rcases Nat.lt_or_ge i a.length with hlt | hge
  · obtain ⟨c, hej, hc⟩ := getAt hlt
    have hlt' : (i : Int) < (a.length : Int) := by omega
    have hdr : a.drop i = c :: a.drop (i + 1) := by rw [List.drop_eq_getElem_cons hlt, hej]
    have hcd := List.all_eq_true.1 hd c (List.mem_of_getElem? hc)
    simp only [isDg, Bool.and_eq_true, decide_eq_true_eq] at hcd
    rw [hdr, Lib.parseUintM, if_pos hcd, if_neg (by omega)] at hp
    have c95 : ¬ (c.toNat : Int) = 95 := by omega
    have c48 : (48 : Int) ≤ (c.toNat : Int) := by omega
    have c57 : (c.toNat : Int) ≤ 57 := by omega
    obtain ⟨x, hx⟩ : ∃ x, c.toNat - 48 = x := ⟨_, rfl⟩
    have hx9 : x ≤ 9 := by omega
    have w8 : IntKind.u8.wrap ((c.toNat : Int) - 48) = (x : Int) := by rw [IntKind.wrap_u8']; omega
    have x10 : ¬ (10 : Int) ≤ (x : Int) := by omega
    have hcut : ¬ (1844674407370955162 : Int) ≤ (n : Int) := by omega
    have w1 : IntKind.u64.wrap ((n : Int) * 10) = (n : Int) * 10 := wrap_u64 (by omega) (by omega)
    have w2 : IntKind.u64.wrap (x : Int) = (x : Int) := wrap_u64 (by omega) (by omega)
    have w3 : IntKind.u64.wrap ((n : Int) * 10 + (x : Int)) = (n : Int) * 10 + (x : Int) := wrap_u64 (by omega) (by omega)
    have l1 : ¬ (n : Int) * 10 + (x : Int) < (n : Int) * 10 := by omega
    have hw1 : IntKind.i64.wrap ((i : Int) + 1) = (i : Int) + 1 := wrap_i64 (by omega) (by omega)
    rw [hx] at hp
    by_cases hm : 2147483647 < n * 10 + x
    · have hm' : (2147483647 : Int) < (n : Int) * 10 + (x : Int) := by omega
      rw [if_pos hm] at hp
      have hr : res = (2147483647, false) := by rw [← hres]; unfold pu31; rw [← hp]
      subst hr
      simp -implicitDefEqProofs [r13, r101, r12, r1, r10, r11, r99, r100, hlt, hlt', hej, c95, c48, c57, w8, w10, w10b, x10, hcut, w1, w2, w3, l1, hm']
      have hmk := c_makeIface (H := K) err_int (.int .i64 1)
      refine ACall.eq hmk ?_
      simp -implicitDefEqProofs [ofV_nilI]
    · have hm' : ¬ (2147483647 : Int) < (n : Int) * 10 + (x : Int) := by omega
      rw [if_neg hm] at hp
      simp -implicitDefEqProofs [r13, r101, r12, r1, r10, r11, r99, r100, hlt, hlt', hej, c95, c48, c57, w8, w10, w10b, x10, hcut, w1, w2, w3, l1, hm', hw1]
      exact AGo.again ih (m' := a.length - (i + 1)) (by omega) (HLe.refl _) ⟨i + 1, n * 10 + x, rfl, by omega, by omega, hp, by simp, by simp, by simp [r12], by simp [r1], by simp [r10], by simp [r11], by simp [r99], by simp [r100], rfl⟩
  · have hn' : ¬ (i : Int) < (a.length : Int) := by omega
    have hn2 : ¬ i < a.length := by omega
    rw [List.drop_of_length_le hge, Lib.parseUintM] at hp
    have hr : res = (n, true) := by rw [← hres]; unfold pu31; rw [← hp]
    subst hr
    simp -implicitDefEqProofs [r13, r101, r12, r1, r10, r11, r99, r100, hn', hn2, ofV_nilI]
theorem tkd_err : tkd Tryd.prog 47 = 8 := by kernel_rfl
theorem c_toErrA (hG : GlobA H) (a : List UInt8) (ha : a.length ≤ 1000000) : ACalls Tryd.prog 20 [.sc (.string ⟨#[80, 97, 114, 115, 101, 85, 105, 110, 116]⟩), str a, .sc (.int .i64 10), .sc (.int .i64 31), .sc (.iface 82 (.int .i64 1))] H (fun v K => ∃ r, (∃ t p, r = .iface t p) ∧ v = avOf r ∧ K = H) := by
  obtain ⟨_, t2, p2, h2⟩ := hG
  exact ACalls.kit (vs := [.string ⟨#[80, 97, 114, 115, 101, 85, 105, 110, 116]⟩, .string ⟨a.toArray⟩, .int .i64 10, .int .i64 31, .iface 82 (.int .i64 1)]) (R := fun r => ∃ t p, r = .iface t p) fun W0 C w hi =>
    (Tryd.strconv_toError_range _ ⟨a.toArray⟩ 10 31 _ w (by simp [Lib.size_eq]; omega) (hi.ro h2 (j := 0) rfl) (.inr ⟨_, _, rfl⟩)).mono fun e w' ⟨N, q1, _, _, q2⟩ => ⟨_, ⟨_, _, rfl⟩, q1, q2⟩
theorem c_pu31 (hG : GlobA H) (a : List UInt8) (h0 : a ≠ []) (hd : a.all isDg = true) (ha : a.length ≤ 1000000) : ACalls Tryd.prog 16 [str a, .sc (.int .i64 10), .sc (.int .i64 31)] H (fun v K => ∃ e, errOf (pu31 a).2 e ∧ v = .tup [.sc (.int .u64 ((pu31 a).1 : Int)), .sc e] ∧ K = H) := by
  generalize hR : (fun (v : AV) (K : Heap) => ∃ e, errOf (pu31 a).2 e ∧ v = .tup [.sc (.int .u64 ((pu31 a).1 : Int)), .sc e] ∧ K = H) = R
  have hc := c_pu31i (H := H) a h0 hd ha
  obtain ⟨n, ok, hp⟩ : ∃ n ok, pu31 a = (n, ok) := ⟨_, _, rfl⟩
  rw [hp] at hc hR
  simp only at hc hR
  refine ACalls.into Tryd.func16 rfl Tryd.ntmps16 Tryd.results16 (by simp) ?_
  simp -implicitDefEqProofs
  refine ACall.eq hc ?_
  cases ok with
  | true =>
    simp -implicitDefEqProofs [tkd_err, ofV_nilI]
    subst hR
    exact AFin.intro _ _ (wk_refl _) (HWk.refl _) ⟨.nilIface, .inl ⟨rfl, rfl⟩, rfl, rfl⟩
  | false =>
    simp -implicitDefEqProofs [tkd_err, ofV_nilI]
    refine ACall.intro (c_toErrA hG a ha) fun v K hv => ?_
    obtain ⟨ev, ⟨t, p, rfl⟩, rfl, rfl⟩ := hv
    simp -implicitDefEqProofs
    subst hR
    exact AFin.intro _ _ (wk_refl _) (HWk.refl _) ⟨_, .inr ⟨rfl, t, p, rfl⟩, rfl, rfl⟩
end Go.Proofs.YtghlkjkdejebnaaDoor
namespace Go.Proofs.YtghlkjkdejebnaaDoor
open Rg Go Go.RowKit
variable {H : Heap}
theorem c_words : AOk Tryd.prog 13 [] H (.sl (wordsA.map str) .full) H := by
  refine ACalls.into Tryd.func13 rfl Tryd.ntmps13 Tryd.results13 (by simp) ?_
  simp -implicitDefEqProofs
  exact wk_refl _
theorem dec_len : ∀ n : Nat, (Lib.decDigits n).length ≤ n + 1 := by
  intro n
  induction n using Nat.strongRecOn with
  | ind n ih =>
    rw [Lib.decDigits]
    split
    · simp
    · have := ih (n / 10) (by omega)
      simp only [List.length_append, List.length_singleton]
      omega
theorem dec_lenk : ∀ k n : Nat, n < 10 ^ (k + 1) → (Lib.decDigits n).length ≤ k + 1 := by
  intro k
  induction k with
  | zero => intro n h; rw [Lib.decDigits, dif_pos (by omega)]; simp
  | succ k ih =>
    intro n h
    rw [Lib.decDigits]
    split
    · simp
    · have := ih (n / 10) (by rw [Nat.pow_succ] at h; omega)
      simp only [List.length_append, List.length_singleton]
      omega
theorem dec_len9 (n : Nat) (h : n < 9223372036854775808) : (Lib.decDigits n).length ≤ 19 := dec_lenk 18 n (by omega)
theorem c_digits : ∀ n : Nat, n < 9223372036854775808 → AOk Tryd.prog 15 [.sc (.int .i64 n)] H (str (Lib.decDigits n)) H := by
  intro n
  induction n using Nat.strongRecOn with
  | ind n ih =>
  intro hn
  obtain ⟨d, hd⟩ : ∃ d, n % 10 = d := ⟨_, rfl⟩
  obtain ⟨q, hq⟩ : ∃ q, n / 10 = q := ⟨_, rfl⟩
  have e1 : (n : Int).tmod 10 = (d : Int) := by rw [Int.tmod_eq_emod_of_nonneg (by omega)]; omega
  have e2 : (n : Int).tdiv 10 = (q : Int) := by rw [Int.tdiv_eq_ediv_of_nonneg (by omega)]; omega
  have w1 : IntKind.i64.wrap (48 + (d : Int)) = 48 + (d : Int) := wrap_i64 (by omega) (by omega)
  have w2 : IntKind.u8.wrap (48 + (d : Int)) = 48 + (d : Int) := by rw [IntKind.wrap_u8']; omega
  have w3 : IntKind.i64.wrap (d : Int) = (d : Int) := wrap_i64 (by omega) (by omega)
  have w4 : IntKind.i64.wrap (q : Int) = (q : Int) := wrap_i64 (by omega) (by omega)
  have b1 : (0 : Int) ≤ 48 + (d : Int) := by omega
  have b2 : 48 + (d : Int) < 256 := by omega
  have t1 : (48 + (d : Int)).toNat = 48 + d := by omega
  refine ACalls.into Tryd.func15 rfl Tryd.ntmps15 Tryd.results15 (by simp) ?_
  by_cases h10 : n < 10
  · have h10' : (n : Int) < 10 := by omega
    rw [Lib.decDigits, dif_pos h10]
    simp -implicitDefEqProofs [e1, e2, w1, w2, w3, w4, aconv, abytes, b1, b2, t1, h10']
    rw [← hd, Nat.mod_eq_of_lt h10]
  · have h10' : ¬ (n : Int) < 10 := by omega
    rw [Lib.decDigits, dif_neg h10]
    have hc := ih q (by omega) (by omega)
    simp -implicitDefEqProofs [e1, e2, w1, w2, w3, w4, aconv, abytes, b1, b2, t1, h10']
    have hl := dec_len q
    have hl' : (Lib.decDigits q).length ≤ 9223372036854775806 := by omega
    refine ACall.eq hc ?_
    simp -implicitDefEqProofs [hl', hq, hd]
def okA (k : Nat) (n : Int) : Bool := decide (1 ≤ k) && decide (k ≤ 5) && decide (0 ≤ n)
def lineV (k : Nat) (n : Int) : List UInt8 := if okA k n = true then lineA k n.toNat else []
abbrev fiA (k : Nat) (n : Int) : AV := .agg [.sc (.int .u8 (k : Int)), .sc (.int .i64 n)]
theorem u0 : IntKind.u8.wrap 0 = 0 := by decide
theorem u1 : IntKind.u8.wrap 1 = 1 := by decide
theorem u2 : IntKind.u8.wrap 2 = 2 := by decide
theorem u3 : IntKind.u8.wrap 3 = 3 := by decide
theorem u4 : IntKind.u8.wrap 4 = 4 := by decide
theorem c_line (hG : GlobA H) (k : Nat) (n : Int) (hk : k < 256) (h0 : -9223372036854775808 ≤ n) (h1 : n ≤ 9223372036854775807) : AOk Tryd.prog 5 [fiA k n] H (str (lineV k n)) H := by
  obtain ⟨res, hr⟩ : ∃ r, lineV k n = r := ⟨_, rfl⟩
  rw [hr]
  refine ACalls.into Tryd.func5 rfl Tryd.ntmps5 Tryd.results5 (by simp) ?_
  simp -implicitDefEqProofs [AV.lies, AV.cells]
  refine AAlloc.intro fun b hb => ?_
  simp -implicitDefEqProofs
  refine ACall.eq c_words ?_
  simp -implicitDefEqProofs
  by_cases k1 : k < 1
  · have kk : (k : Int) < 1 := by omega
    have hr : res = [] := by rw [← hr, lineV, if_neg]; simp [okA]; omega
    subst hr
    simp -implicitDefEqProofs [kk]
    exact HWk.new hb (HWk.refl _)
  have kk : ¬ (k : Int) < 1 := by omega
  by_cases k5 : 5 < k
  · have kk5 : (5 : Int) < (k : Int) := by omega
    have hr : res = [] := by rw [← hr, lineV, if_neg]; simp [okA]; omega
    subst hr
    simp -implicitDefEqProofs [kk, kk5]
    exact HWk.new hb (HWk.refl _)
  have kk5 : ¬ (5 : Int) < (k : Int) := by omega
  by_cases n0 : n < 0
  · have hr : res = [] := by rw [← hr, lineV, if_neg]; simp [okA]; omega
    subst hr
    simp -implicitDefEqProofs [kk, kk5, n0]
    exact HWk.new hb (HWk.refl _)
  obtain ⟨x, rfl⟩ : ∃ x : Nat, n = (x : Int) := ⟨n.toNat, by omega⟩
  have hr : res = lineA k x := by rw [← hr, lineV, if_pos (by simp [okA]; omega)]; rfl
  subst hr
  have hx : x < 9223372036854775808 := by omega
  have x0 : ¬ (x : Int) < 0 := by omega
  simp -implicitDefEqProofs [kk, kk5, n0, x0]
  have hd6 : 6 + (Lib.decDigits x).length ≤ 9223372036854775807 := by have := dec_len9 x hx; omega
  have hd8 : 8 + (Lib.decDigits x).length ≤ 9223372036854775807 := by have := dec_len9 x hx; omega
  have hc : ∀ K : Heap, GlobA K → AOk Tryd.prog 14 [.sc (.int .i64 (x : Int))] K (str (Lib.decDigits x)) K := fun K hK => by have h := c_itoaA hK (x : Int) (by omega) (by omega); rw [itoa_nat (by omega)] at h; exact h
  have k15 : k = 1 ∨ k = 2 ∨ k = 3 ∨ k = 4 ∨ k = 5 := by omega
  refine go_draw 12 f_mixed (by decide +kernel) ?_
  rcases k15 with rfl | rfl | rfl | rfl | rfl
  all_goals
    simp -implicitDefEqProofs [u0, u1, u2, u3, u4, wordsA]
    refine AQS.eq (hc _ (hG.new hb)) ?_
    simp -implicitDefEqProofs [lineA, wordsA, hd6, hd8]
    exact HWk.new hb (HWk.refl _)
theorem c_refLine (k : Nat) (n : Int) (hk : k < 256) (h0 : -9223372036854775808 ≤ n) (h1 : n ≤ 9223372036854775807) : AOk Tryd.prog 6 [fiA k n] H (str (lineV k n)) H := by
  obtain ⟨res, hr⟩ : ∃ r, lineV k n = r := ⟨_, rfl⟩
  rw [hr]
  refine ACalls.into Tryd.func6 rfl Tryd.ntmps6 Tryd.results6 (by simp) ?_
  simp -implicitDefEqProofs [AV.lies, AV.cells]
  refine AAlloc.intro fun b hb => ?_
  by_cases k1 : k < 1
  · have kk : (k : Int) < 1 := by omega
    have hr : res = [] := by rw [← hr, lineV, if_neg]; simp [okA]; omega
    subst hr
    simp -implicitDefEqProofs [kk]
    exact HWk.new hb (HWk.refl _)
  have kk : ¬ (k : Int) < 1 := by omega
  by_cases k5 : 5 < k
  · have kk5 : (5 : Int) < (k : Int) := by omega
    have hr : res = [] := by rw [← hr, lineV, if_neg]; simp [okA]; omega
    subst hr
    simp -implicitDefEqProofs [kk, kk5]
    exact HWk.new hb (HWk.refl _)
  have kk5 : ¬ (5 : Int) < (k : Int) := by omega
  by_cases n0 : n < 0
  · have hr : res = [] := by rw [← hr, lineV, if_neg]; simp [okA]; omega
    subst hr
    simp -implicitDefEqProofs [kk, kk5, n0]
    exact HWk.new hb (HWk.refl _)
  obtain ⟨x, rfl⟩ : ∃ x : Nat, n = (x : Int) := ⟨n.toNat, by omega⟩
  have hr : res = lineA k x := by rw [← hr, lineV, if_pos (by simp [okA]; omega)]; rfl
  subst hr
  have hx : x < 9223372036854775808 := by omega
  have x0 : ¬ (x : Int) < 0 := by omega
  simp -implicitDefEqProofs [kk, kk5, n0, x0]
  have hd6 : 6 + (Lib.decDigits x).length ≤ 9223372036854775807 := by have := dec_len9 x hx; omega
  have hd8 : 8 + (Lib.decDigits x).length ≤ 9223372036854775807 := by have := dec_len9 x hx; omega
  have hc := fun K => c_digits (H := K) x hx
  have k15 : k = 1 ∨ k = 2 ∨ k = 3 ∨ k = 4 ∨ k = 5 := by omega
  refine go_draw 11 f_mixed (by decide +kernel) ?_
  rcases k15 with rfl | rfl | rfl | rfl | rfl
  all_goals
    simp -implicitDefEqProofs [u0, u1, u2, u3, u4, wordsA]
    refine AQS.eq (hc _) ?_
    simp -implicitDefEqProofs [lineA, wordsA, hd6, hd8]
    exact HWk.new hb (HWk.refl _)
end Go.Proofs.YtghlkjkdejebnaaDoor
namespace Go.Proofs.YtghlkjkdejebnaaDoor
open Rg Go Go.RowKit
variable {H : Heap}
def outR : Option (Nat × Nat) → AV
  | some (k, n) => .tup [fiA k (n : Int), .sc (.bool true)]
  | none => .tup [fiA 0 0, .sc (.bool false)]
theorem lineV_ok {k n : Nat} (h1 : 1 ≤ k) (h5 : k ≤ 5) : lineV k (n : Int) = lineA k n := by rw [lineV, if_pos (by simp [okA]; omega)]; rfl
theorem refA_some {s : List UInt8} {N k : Nat} (hN : tailA s.reverse 1 0 = N) (h : N < 2147483648) (h1 : 1 ≤ k) (h5 : k ≤ 5) (hl : lineA k N = s) : refA s = some (k, N) := by
  rw [← hl]; exact refA_line ⟨h1, h5⟩ h
theorem refA_none {s : List UInt8} {N : Nat} (hN : tailA s.reverse 1 0 = N) (h : N < 2147483648 → ∀ k, 1 ≤ k → k < 6 → lineA k N ≠ s) : refA s = none := by
  rcases hr : refA s with _ | ⟨k, n⟩
  · rfl
  · obtain ⟨h1, h2, h3⟩ := refA_inv hr
    have h4 := tail_line (k := k) h3
    rw [h1, hN] at h4
    subst h4
    exact absurd h1 (h h3 k h2.1 (by omega))
set_option maxHeartbeats 2000000 in
theorem c_refRead (s : List UInt8) (hs : s.length ≤ 1000) : AOk Tryd.prog 8 [str s] H (outR (refA s)) H := by
  obtain ⟨res, hr⟩ : ∃ r, refA s = r := ⟨_, rfl⟩
  rw [hr]
  refine ACalls.into Tryd.func8 rfl Tryd.ntmps8 Tryd.results8 (by simp) ?_
  simp -implicitDefEqProofs [AV.cells]
  refine AAlloc.intro fun b hb => ?_
  simp -implicitDefEqProofs
  generalize hK : Heap.set _ b _ = K0
  have kb : K0 b = some (.cells [.sc (.int .u8 0), .sc (.int .i64 0)] 27) := by rw [← hK]; simp [Heap.set]
  have kW : HWk H K0 := by rw [← hK]; exact HWk.new hb (HWk.refl _)
  have kS : ∀ o, HWk H (K0.set b o) := fun o => HWk.new hb kW
  clear hK
  have w0 : IntKind.i64.wrap ((s.length : Int) - 1) = (s.length : Int) - 1 := wrap_i64 (by omega) (by omega)
  have hm : ∀ c : UInt8, IntKind.i64.wrap (c.toNat : Int) = (c.toNat : Int) := fun c => wrap_i64 (by have := c.toNat_lt; omega) (by have := c.toNat_lt; omega)
  obtain ⟨N, hN⟩ : ∃ N, tailA s.reverse 1 0 = N := ⟨_, rfl⟩
  simp -implicitDefEqProofs [w0]
  refine AGo.joinLoop (fun ρ K => N ≤ 100000000000 ∧ ρ 0 = str s ∧ ρ 2 = .sc (.pointer (some ⟨b, 0, none⟩)) ∧ ρ 3 = .sc (.bool false) ∧ ρ 4 = .sc (.int .i64 (N : Int)) ∧ K = K0) (fun k' hk' => ?_) ?_
  · refine AGo.rounds (fun m ρ K => ∃ (j n w : Nat), m = j ∧ j ≤ s.length ∧ n < w ∧ w ≤ 10000000000 ∧ tailA (s.take j).reverse w n = N ∧ ρ 0 = str s ∧ ρ 2 = .sc (.pointer (some ⟨b, 0, none⟩)) ∧ ρ 3 = .sc (.bool false) ∧
      ρ 4 = .sc (.int .i64 (n : Int)) ∧ ρ 5 = .sc (.int .i64 (w : Int)) ∧ ρ 6 = .sc (.int .i64 ((j : Int) - 1)) ∧ K = K0) ?_ (m := s.length) (HLe.refl _)
      ⟨s.length, 0, 1, rfl, Nat.le_refl _, by omega, by omega, by rw [List.take_length]; exact hN, by simp, by simp, by simp, by simp, by simp, by simp, rfl⟩
    rintro m ρ K ih ⟨j, n, w, rfl, hj, hn, hw, ht, r0, r2, r3, r4, r5, r6, rfl⟩
    cases m with
    | zero =>
      rw [List.take_zero, List.reverse_nil, tailA] at ht
      subst ht
      simp -implicitDefEqProofs [r0, r4, r5, r6]
      exact hk' _ _ ⟨by omega, by simp [r0], by simp [r2], by simp [r3], by simp [r4], rfl⟩
    | succ j =>
      obtain ⟨c, hcj, hc⟩ := getAt (show j < s.length by omega)
      have e1 : ((j + 1 : Nat) : Int) - 1 = (j : Int) := by omega
      rw [e1] at r6
      have hjlt : j < s.length := by omega
      have j0 : (0 : Int) ≤ (j : Int) := by omega
      rw [List.take_add_one, hc, Option.toList_some, List.reverse_append, List.reverse_singleton, List.singleton_append, tailA] at ht
      by_cases c48 : 48 ≤ c.toNat
      · have c48' : (48 : Int) ≤ (c.toNat : Int) := by omega
        by_cases c57 : c.toNat ≤ 57
        · have c57' : (c.toNat : Int) ≤ 57 := by omega
          by_cases hwb : w ≤ 1000000000
          · have hwb' : (w : Int) ≤ 1000000000 := by omega
            rw [if_pos ⟨by simp [isDg, c48, c57], hwb⟩] at ht
            obtain ⟨d, hd⟩ : ∃ d, c.toNat - 48 = d := ⟨_, rfl⟩
            have hd9 : d ≤ 9 := by omega
            rw [hd] at ht
            have hwd : w * d ≤ w * 9 := Nat.mul_le_mul_left w hd9
            obtain ⟨p, hp⟩ : ∃ p, w * d = p := ⟨_, rfl⟩
            rw [hp] at ht hwd
            have hpz : (w : Int) * (d : Int) = (p : Int) := by rw [← hp]; push_cast; rfl
            have x1 : IntKind.i64.wrap ((c.toNat : Int) - 48) = (d : Int) := by rw [wrap_i64 (by omega) (by omega)]; omega
            have x2 : IntKind.i64.wrap (p : Int) = (p : Int) := wrap_i64 (by omega) (by omega)
            have x3 : IntKind.i64.wrap ((n : Int) + (p : Int)) = (n : Int) + (p : Int) := wrap_i64 (by omega) (by omega)
            have x4 : IntKind.i64.wrap (10 * (w : Int)) = 10 * (w : Int) := wrap_i64 (by omega) (by omega)
            have x5 : IntKind.i64.wrap ((j : Int) - 1) = (j : Int) - 1 := wrap_i64 (by omega) (by omega)
            simp -implicitDefEqProofs [r0, r4, r5, r6, j0, hjlt, hcj, c48', c57', hwb', hm, x1, hpz, x2, x3, x4, x5]
            exact AGo.again ih (m' := j) (by omega) (HLe.refl _) ⟨j, n + p, 10 * w, rfl, by omega, by omega, by omega, ht, by simp [r0], by simp [r2], by simp [r3], by simp, by simp, by simp, rfl⟩
          · have hwb' : ¬ (w : Int) ≤ 1000000000 := by omega
            rw [if_neg (by simp [hwb])] at ht
            subst ht
            simp -implicitDefEqProofs [r0, r4, r5, r6, j0, hjlt, hcj, c48', c57', hwb']
            exact hk' _ _ ⟨by omega, by simp [r0], by simp [r2], by simp [r3], by simp [r4], rfl⟩
        · have c57' : ¬ (c.toNat : Int) ≤ 57 := by omega
          rw [if_neg (by simp [isDg, c57])] at ht
          subst ht
          simp -implicitDefEqProofs [r0, r4, r5, r6, j0, hjlt, hcj, c48', c57']
          exact hk' _ _ ⟨by omega, by simp [r0], by simp [r2], by simp [r3], by simp [r4], rfl⟩
      · have c48' : ¬ (48 : Int) ≤ (c.toNat : Int) := by omega
        rw [if_neg (by simp [isDg, c48])] at ht
        subst ht
        simp -implicitDefEqProofs [r0, r4, r5, r6, j0, hjlt, hcj, c48']
        exact hk' _ _ ⟨by omega, by simp [r0], by simp [r2], by simp [r3], by simp [r4], rfl⟩
  · rintro ρ K ⟨hNb, r0, r2, r3, r4, rfl⟩
    have hNn : IntKind.i64.wrap (N : Int) = (N : Int) := wrap_i64 (by omega) (by omega)
    simp -implicitDefEqProofs
    refine AGo.rounds (fun m ρ K2 => ∃ (k : Nat), m = 6 - k ∧ 1 ≤ k ∧ k ≤ 6 ∧ (∀ k', 1 ≤ k' → k' < k → lineA k' N ≠ s) ∧ ρ 0 = str s ∧ ρ 2 = .sc (.pointer (some ⟨b, 0, none⟩)) ∧ ρ 3 = .sc (.bool false) ∧
      ρ 4 = .sc (.int .i64 (N : Int)) ∧ ρ 7 = .sc (.int .u8 (k : Int)) ∧ K2 = K) ?_ (m := 5) (HLe.refl _)
      ⟨1, by omega, by omega, by omega, by omega, by simp [r0], by simp [r2], by simp [r3], by simp [r4], by simp, rfl⟩
    rintro m ρ K2 ih ⟨k, rfl, h1, h6, hno, r0, r2, r3, r4, r7, rfl⟩
    by_cases hk : k < 6
    · have hk' : (k : Int) < 6 := by omega
      by_cases hNl : N < 2147483648
      · have hNl' : (N : Int) < 2147483648 := by omega
        have hc := c_refLine (H := K2) k (N : Int) (by omega) (by omega) (by omega)
        rw [lineV_ok h1 (by omega)] at hc
        have x1 : IntKind.u8.wrap ((k : Int) + 1) = (k : Int) + 1 := by rw [IntKind.wrap_u8']; omega
        by_cases hl : lineA k N = s
        · have hl' : (lineA k N == s) = true := by simpa using hl
          simp -implicitDefEqProofs [r0, r2, r3, r4, r7, hk', hNl']
          refine ACall.eq hc ?_
          simp -implicitDefEqProofs [r0, r2, r3, r4, r7, hl']
          simp -implicitDefEqProofs [r2, kb]
          have hr2 : res = some (k, N) := by rw [← hr]; exact refA_some hN hNl h1 (by omega) hl
          subst hr2
          exact ⟨wk_refl _, kS _⟩
        · have hl' : (lineA k N == s) = false := by simpa using hl
          simp -implicitDefEqProofs [r0, r2, r3, r4, r7, hk', hNl']
          refine ACall.eq hc ?_
          simp -implicitDefEqProofs [r0, r2, r3, r4, r7, hl', x1]
          exact AGo.again ih (m' := 6 - (k + 1)) (by omega) (HLe.refl _) ⟨k + 1, rfl, by omega, by omega, fun k' q1 q2 => by rcases Nat.lt_or_ge k' k with q3 | q3; exact hno k' q1 q3; rw [show k' = k by omega]; exact hl, by simp [r0], by simp [r2], by simp [r3], by simp [r4], by simp, rfl⟩
      · have hNl' : ¬ (N : Int) < 2147483648 := by omega
        have hr2 : res = none := by rw [← hr]; exact refA_none hN fun h => absurd h hNl
        subst hr2
        simp -implicitDefEqProofs [r0, r2, r3, r4, r7, hk', hNl', kb]
        exact ⟨wk_refl _, kS _⟩
    · have hk' : ¬ (k : Int) < 6 := by omega
      have hr2 : res = none := by rw [← hr]; exact refA_none hN fun _ k' h1 h2 => hno k' h1 (by omega)
      subst hr2
      simp -implicitDefEqProofs [r0, r2, r3, r4, r7, hk', kb]
      exact ⟨wk_refl _, kS _⟩
end Go.Proofs.YtghlkjkdejebnaaDoor
namespace Go.Proofs.YtghlkjkdejebnaaDoor
open Rg Go Go.RowKit
variable {H : Heap}
def outA : Option (Nat × Nat) → AV
  | some (k, n) => .tup [fiA k (n : Int), .sc (.int .i64 0)]
  | none => .tup [fiA 0 0, .sc (.int .i64 2)]
theorem words_len : ∀ w ∈ wordsA, w.length ≤ 7 := by decide
theorem pu31_le (a : List UInt8) : (pu31 a).1 ≤ 2147483647 := by
  unfold pu31
  split
  · rename_i u hu
    exact puM_le _ _ _ _ (by omega) hu
  · exact Nat.le_refl _
def cellA (o : Option (Nat × Nat)) : List AV := [.sc (.int .u8 (((o.map (·.1)).getD 0 : Nat) : Int)), .sc (.int .i64 (((o.map (·.2)).getD 0 : Nat) : Int))]
theorem goA_no {w : List UInt8} {r : List (List UInt8)} {i : Nat} {s : List UInt8} (h : s.length ≤ w.length + 1 ∨ s.take w.length ≠ w ∨ s[w.length]? ≠ some 32 ∨ (s.drop (w.length + 1)).all isDg = false) : goA (w :: r) i s = goA r (i + 1) s := by
  rw [goA, if_pos h]
theorem goA_yes {w : List UInt8} {r : List (List UInt8)} {i : Nat} {s : List UInt8} (h1 : ¬ s.length ≤ w.length + 1) (h2 : s.take w.length = w) (h3 : s[w.length]? = some 32) (h4 : (s.drop (w.length + 1)).all isDg = true) :
    goA (w :: r) i s = if (pu31 (s.drop (w.length + 1))).2 = true then some (i + 1, (pu31 (s.drop (w.length + 1))).1) else none := by
  rw [goA, if_neg (by simp [h1, h2, h3, h4])]
  have hne : s.drop (w.length + 1) ≠ [] := by
    intro h
    have := congrArg List.length h
    rw [List.length_drop, List.length_nil] at this
    omega
  unfold Lib.parseUintB pu31
  rw [if_neg hne]
  rw [show (2 : Nat) ^ 31 - 1 = 2147483647 by decide]
  cases Lib.parseUintM 2147483647 0 (s.drop (w.length + 1)) <;> simp
theorem GlobA.set {b : Nat} {cs : List AV} {T : TypeId} {o : AObj} (h : GlobA H) (hb : H b = some (.cells cs T)) : GlobA (H.set b o) := by
  have hn : ∀ g vs, H g = some (.ro vs) → H.set b o g = some (.ro vs) := fun g vs hg => by
    have : g ≠ b := by rintro rfl; rw [hb] at hg; cases hg
    simp [Heap.set, this, hg]
  obtain ⟨h1, t, p, h2⟩ := h
  exact ⟨hn _ _ h1, t, p, hn _ _ h2⟩
set_option maxHeartbeats 2000000 in
theorem c_read (hG : GlobA H) (s : List UInt8) (hs : s.length ≤ 1000) : AOk Tryd.prog 7 [str s] H (outA (readA s)) H := by
  obtain ⟨res, hr⟩ : ∃ r, readA s = r := ⟨_, rfl⟩
  rw [hr]
  refine ACalls.into Tryd.func7 rfl Tryd.ntmps7 Tryd.results7 (by simp) ?_
  simp -implicitDefEqProofs [AV.cells]
  refine AAlloc.intro fun b hb => ?_
  simp -implicitDefEqProofs
  refine AAlloc.intro fun c hc => ?_
  have nbc : b ≠ c := by rintro rfl; simp [Heap.set] at hc
  simp -implicitDefEqProofs
  generalize hK : Heap.set _ c _ = K0
  have kb : K0 b = some (.cells (cellA none) 23) := by rw [← hK]; simp [Heap.set, nbc, cellA]
  have kc : K0 c = some (.cells (cellA none) 23) := by rw [← hK]; simp [Heap.set, cellA]
  have hbc : H c = none := (HLe.set_fresh hb).none hc
  have kW : HWk H K0 := by rw [← hK]; exact HWk.new hbc (HWk.new hb (HWk.refl _))
  have hGK : GlobA K0 := by rw [← hK]; exact (hG.new hb).new hc
  have hS : K0.set c (.cells (cellA none) 23) = K0 := by rw [← hK]; simp [cellA]
  clear hK
  refine ACall.eq c_words ?_
  simp -implicitDefEqProofs
  obtain ⟨g, hg⟩ : ∃ g, goA wordsA 0 s = g := ⟨_, rfl⟩
  refine AGo.joinLoop (fun ρ K => ρ 0 = str s ∧ ρ 2 = .sc (.pointer (some ⟨b, 0, none⟩)) ∧ ρ 3 = .sc (.int .i64 0) ∧ ρ 4 = .sc (.pointer (some ⟨c, 0, none⟩)) ∧ K = K0.set c (.cells (cellA g) 23)) (fun k' hk' => ?_) ?_
  · obtain ⟨W, hW⟩ : ∃ W, wordsA = W := ⟨_, rfl⟩
    have hWl : W.length = 5 := by rw [← hW]; rfl
    have hW7 : ∀ w ∈ W, w.length ≤ 7 := by rw [← hW]; exact words_len
    rw [hW] at hg
    refine AGo.rounds (fun m ρ K => ∃ (i : Nat), m = 5 - i ∧ i ≤ 5 ∧ goA (W.drop i) i s = g ∧ ρ 0 = str s ∧ ρ 2 = .sc (.pointer (some ⟨b, 0, none⟩)) ∧ ρ 3 = .sc (.int .i64 0) ∧ ρ 4 = .sc (.pointer (some ⟨c, 0, none⟩)) ∧
      ρ 11 = .sl (W.map str) .full ∧ ρ 12 = .sc (.int .i64 5) ∧ ρ 13 = .sc (.int .i64 (i : Int)) ∧ K = K0) ?_ (m := 5) (HLe.refl _)
      ⟨0, rfl, by omega, hg, by simp, by simp, by simp, by simp, by simp [hW], by simp [hW, hWl], by simp, rfl⟩
    rintro m ρ K ih ⟨i, rfl, hi, hgi, r0, r2, r3, r4, r11, r12, r13, rfl⟩
    by_cases hi5 : i < 5
    · have hi5' : (i : Int) < 5 := by omega
      have hiW : i < W.length := by omega
      obtain ⟨w, hwj, hw⟩ := getAt hiW
      have hw7 := hW7 w (List.mem_of_getElem? hw)
      rw [List.drop_eq_getElem_cons hiW, hwj] at hgi
      have x1 : IntKind.i64.wrap ((i : Int) + 1) = (i : Int) + 1 := wrap_i64 (by omega) (by omega)
      have x2 : IntKind.i64.wrap ((w.length : Int) + 1) = (w.length : Int) + 1 := wrap_i64 (by omega) (by omega)
      have hx0 := hgi
      by_cases h1 : s.length ≤ w.length + 1
      · have h1' : (s.length : Int) ≤ (w.length : Int) + 1 := by omega
        rw [goA_no (.inl h1)] at hgi
        simp -implicitDefEqProofs [r0, r2, r3, r4, r11, r12, r13, hi5', hiW, hwj, x1, x2, h1']
        exact AGo.again ih (m' := 5 - (i + 1)) (by omega) (HLe.refl _) ⟨i + 1, rfl, by omega, hgi, by simp [r0], by simp [r2], by simp [r3], by simp [r4], by simp [r11], by simp [r12], by simp, rfl⟩
      have h1' : ¬ (s.length : Int) ≤ (w.length : Int) + 1 := by omega
      have hwl : w.length ≤ s.length := by omega
      have hwl2 : w.length < s.length := by omega
      by_cases h2 : s.take w.length = w
      case neg =>
        rw [goA_no (.inr (.inl h2))] at hgi
        have h2' : (s.take w.length == w) = false := by simpa using h2
        simp -implicitDefEqProofs [r0, r2, r3, r4, r11, r12, r13, hi5', hiW, hwj, x1, x2, h1', hwl, h2']
        exact AGo.again ih (m' := 5 - (i + 1)) (by omega) (HLe.refl _) ⟨i + 1, rfl, by omega, hgi, by simp [r0], by simp [r2], by simp [r3], by simp [r4], by simp [r11], by simp [r12], by simp, rfl⟩
      have h2' : (s.take w.length == w) = true := by simpa using h2
      obtain ⟨e, hej, he⟩ := getAt hwl2
      by_cases h3 : e.toNat = 32
      case neg =>
        rw [goA_no (.inr (.inr (.inl (by rw [he]; intro h; injection h with h; rw [h] at h3; exact h3 rfl))))] at hgi
        have h3' : ¬ (e.toNat : Int) = 32 := by omega
        simp -implicitDefEqProofs [r0, r2, r3, r4, r11, r12, r13, hi5', hiW, hwj, x1, x2, h1', hwl, h2', hwl2, hej, h3', h3]
        exact AGo.again ih (m' := 5 - (i + 1)) (by omega) (HLe.refl _) ⟨i + 1, rfl, by omega, hgi, by simp [r0], by simp [r2], by simp [r3], by simp [r4], by simp [r11], by simp [r12], by simp, rfl⟩
      have h3' : (e.toNat : Int) = 32 := by omega
      have h3s : s[w.length]? = some 32 := by rw [he]; congr 1; exact UInt8.toNat_inj.1 h3
      obtain ⟨d, hd⟩ : ∃ d, s.drop (w.length + 1) = d := ⟨_, rfl⟩
      have hdl : d.length = s.length - (w.length + 1) := by rw [← hd, List.length_drop]
      have hdl0 : ((w.length : Int) + 1).toNat = w.length + 1 := by omega
      have hwl3 : w.length + 1 ≤ s.length := by omega
      have hml : d.length ≤ maxLen := by simp only [maxLen]; omega
      have z1 : (0 : Int) ≤ (w.length : Int) + 1 := by omega
      have z2 : (w.length : Int) + 1 ≤ (s.length : Int) := by omega
      simp -implicitDefEqProofs [r0, r2, r3, r4, r11, r12, r13, hi5', hiW, hwj, x1, x2, h1', hwl, h2', hwl2, hej, h3', h3, z1, z2, hd, aconv, hml]
      refine AGo.rounds (fun m ρ K2 => ∃ (j : Nat), m = d.length - j ∧ j ≤ d.length ∧ (d.take j).all isDg = true ∧ ρ 0 = str s ∧ ρ 2 = .sc (.pointer (some ⟨b, 0, none⟩)) ∧ ρ 3 = .sc (.int .i64 0) ∧ ρ 4 = .sc (.pointer (some ⟨c, 0, none⟩)) ∧
        ρ 5 = .sc (.int .i64 (i : Int)) ∧ ρ 6 = str w ∧ ρ 11 = .sl (W.map str) .full ∧ ρ 12 = .sc (.int .i64 5) ∧ ρ 13 = .sc (.int .i64 (i : Int)) ∧ ρ 44 = .sl (u8s d) .no ∧ ρ 45 = .sc (.int .i64 (d.length : Int)) ∧ ρ 46 = .sc (.int .i64 (j : Int)) ∧ K2 = K) ?_ (m := d.length) (HLe.refl _)
        ⟨0, rfl, by omega, rfl, by simp [r0], by simp [r2], by simp [r3], by simp [r4], by simp, by simp, by simp [r11], by simp [r12], by simp [r13], by simp, by simp, by simp, rfl⟩
      rintro m ρ K2 ih2 ⟨j, rfl, hj, hall, r0, r2, r3, r4, r5, r6, r11, r12, r13, r44, r45, r46, rfl⟩
      by_cases hjd : j < d.length
      · have hjd' : (j : Int) < (d.length : Int) := by omega
        obtain ⟨e2, hej2, he2⟩ := getAt hjd
        have x3 : IntKind.i64.wrap ((j : Int) + 1) = (j : Int) + 1 := wrap_i64 (by omega) (by omega)
        by_cases c48 : e2.toNat < 48
        · have c48' : (e2.toNat : Int) < 48 := by omega
          have hno : d.all isDg = false := by
            rw [List.all_eq_false]; exact ⟨e2, List.mem_of_getElem? he2, by simp [isDg]; omega⟩
          rw [goA_no (.inr (.inr (.inr (by rw [hd]; exact hno))))] at hgi
          simp -implicitDefEqProofs [r0, r2, r3, r4, r5, r6, r11, r12, r13, r44, r45, r46, hjd, hjd', hej2, c48', x1]
          exact AGo.again ih (m' := 5 - (i + 1)) (by omega) (HLe.refl _) ⟨i + 1, rfl, by omega, hgi, by simp [r0], by simp [r2], by simp [r3], by simp [r4], by simp [r11], by simp [r12], by simp, rfl⟩
        have c48' : ¬ (e2.toNat : Int) < 48 := by omega
        by_cases c57 : 57 < e2.toNat
        · have c57' : (57 : Int) < (e2.toNat : Int) := by omega
          have hno : d.all isDg = false := by
            rw [List.all_eq_false]; exact ⟨e2, List.mem_of_getElem? he2, by simp [isDg]; omega⟩
          rw [goA_no (.inr (.inr (.inr (by rw [hd]; exact hno))))] at hgi
          simp -implicitDefEqProofs [r0, r2, r3, r4, r5, r6, r11, r12, r13, r44, r45, r46, hjd, hjd', hej2, c48', c57', x1]
          exact AGo.again ih (m' := 5 - (i + 1)) (by omega) (HLe.refl _) ⟨i + 1, rfl, by omega, hgi, by simp [r0], by simp [r2], by simp [r3], by simp [r4], by simp [r11], by simp [r12], by simp, rfl⟩
        have c57' : ¬ (57 : Int) < (e2.toNat : Int) := by omega
        simp -implicitDefEqProofs [r0, r2, r3, r4, r5, r6, r11, r12, r13, r44, r45, r46, hjd, hjd', hej2, c48', c57', x3]
        exact AGo.again ih2 (m' := d.length - (j + 1)) (by omega) (HLe.refl _) ⟨j + 1, rfl, by omega, by rw [List.take_add_one, he2, List.all_append, hall]; simp [isDg]; omega, by simp [r0], by simp [r2], by simp [r3], by simp [r4], by simp [r5], by simp [r6], by simp [r11], by simp [r12], by simp [r13], by simp [r44], by simp [r45], by simp, rfl⟩
      · have hjd' : ¬ (j : Int) < (d.length : Int) := by omega
        rw [List.take_of_length_le (by omega)] at hall
        rw [goA_yes h1 h2 h3s (by rw [hd]; exact hall), hd] at hgi
        have hdne : d ≠ [] := by rintro rfl; simp at hdl; omega
        have hc := c_pu31 hGK d hdne hall (by omega)
        obtain ⟨n, ok, hp⟩ : ∃ n ok, pu31 d = (n, ok) := ⟨_, _, rfl⟩
        have hn31 := pu31_le d
        rw [hp] at hc hgi hn31
        simp only at hc hgi hn31
        have x5 : IntKind.i64.wrap (n : Int) = (n : Int) := wrap_i64 (by omega) (by omega)
        have x6 : IntKind.u8.wrap ((i : Int) + 1) = (i : Int) + 1 := by rw [IntKind.wrap_u8']; omega
        simp -implicitDefEqProofs [r0, r2, r3, r4, r5, r6, r11, r12, r13, r44, r45, r46, hjd', x2, z1, z2, hd]
        refine ACall.intro hc fun v K3 hv => ?_
        obtain ⟨ev, he, rfl, rfl⟩ := hv
        rcases he with ⟨rfl, rfl⟩ | ⟨rfl, t, p, rfl⟩
        · subst hgi
          simp -implicitDefEqProofs [r0, r2, r3, r4, r5, r6, x1, x5, x6, ofV_nilI, tkd_err, kc, cellA]
          exact hk' _ _ ⟨by simp [r0], by simp [r2], by simp [r3], by simp [r4], by simp [cellA]⟩
        · subst hgi
          simp -implicitDefEqProofs [r0, r2, r3, r4, r5, r6, x1, x5, x6, ofV_nilI, tkd_err]
          exact hk' _ _ ⟨by simp [r0], by simp [r2], by simp [r3], by simp [r4], hS.symm⟩
    · have hi5' : ¬ (i : Int) < 5 := by omega
      rw [List.drop_of_length_le (by omega), goA] at hgi
      subst hgi
      simp -implicitDefEqProofs [r0, r2, r3, r4, r11, r12, r13, hi5']
      exact hk' _ _ ⟨by simp [r0], by simp [r2], by simp [r3], by simp [r4], hS.symm⟩
  · rintro ρ K ⟨r0, r2, r3, r4, rfl⟩
    have kb2 : (K0.set c (.cells (cellA g) 23)) b = some (.cells (cellA none) 23) := by simp [Heap.set, nbc, kb]
    cases g with
    | none =>
      have hr2 : res = none := by rw [← hr]; unfold readA; rw [hg]
      subst hr2
      simp -implicitDefEqProofs [r0, r2, r3, r4, cellA, nbc, kb, tkd_err]
      exact ⟨wk_refl _, HWk.new hb (HWk.new hbc kW)⟩
    | some kn =>
      obtain ⟨k, n⟩ := kn
      have hkn := goA_ok _ _ _ _ _ hg
      simp only [wordsA, List.length_cons, List.length_nil] at hkn
      have hk0 : ¬ k = 0 := by omega
      have hc := c_line (hGK.set (o := .cells (cellA (some (k, n))) 23) kc) k (n : Int) (by omega) (by omega) (by omega)
      rw [lineV_ok (by omega) (by omega)] at hc
      simp only [cellA] at hc
      have nbc' : c ≠ b := fun h => nbc h.symm
      simp -implicitDefEqProofs [r0, r2, r3, r4, cellA, hk0]
      refine ACall.eq hc ?_
      by_cases hl : lineA k n = s
      · have hr2 : res = some (k, n) := by rw [← hr]; unfold readA; rw [hg]; simp [hl]
        subst hr2
        have hl' : (lineA k n == s) = true := by simpa using hl
        simp -implicitDefEqProofs [r0, r2, r3, r4, hl', nbc, kb, cellA]
        exact ⟨wk_refl _, HWk.new hb (HWk.new hbc kW)⟩
      · have hr2 : res = none := by rw [← hr]; unfold readA; rw [hg]; simp [hl]
        subst hr2
        have hl' : (lineA k n == s) = false := by simpa using hl
        simp -implicitDefEqProofs [r0, r2, r3, r4, hl', nbc, kb, cellA]
        exact ⟨wk_refl _, HWk.new hb (HWk.new hbc kW)⟩
end Go.Proofs.YtghlkjkdejebnaaDoor
namespace Go.Proofs.YtghlkjkdejebnaaDoor
open Rg Go Go.RowKit
variable {H : Heap}
def f0C : List AV := [.sc (.int .i64 1), .sc (.int .u64 0), .sc (.int .u64 3), .sc (.int .i64 8), .sc (.int .u64 0), .sc (.int .u64 0), .sc (.int .u64 1), .sc (.int .i64 60), .sc (.int .u64 0), .sc (.int .u64 2), .sc (.int .u64 0), .sc (.string ByteArray.empty), .sc (.string ByteArray.empty), .sc (.int .i64 0), .sc (.int .i64 0), .sc (.int .i64 0), .sc (.int .i64 0), .sc (.int .i64 0), .sl [] .nil, .sc (.bool false), .sc (.int .u64 0), .sc (.int .i64 0), .sc (.int .i64 0), .sc (.int .u64 7), .sc (.int .i64 0), .sc (.int .u64 0), .sc (.int .u64 0), .sc (.int .u64 0), .sc (.int .u64 0), .sc (.int .i64 0), .sc (.bool false)]
def f1C : List AV := [.sc (.int .i64 4), .sc (.int .u64 2), .sc (.int .u64 0), .sc (.int .i64 0), .sc (.int .u64 0), .sc (.int .u64 0), .sc (.int .u64 0), .sc (.int .i64 0), .sc (.int .u64 0), .sc (.int .u64 0), .sc (.int .u64 0), .sc (.string ByteArray.empty), .sc (.string ByteArray.empty), .sc (.int .i64 0), .sc (.int .i64 0), .sc (.int .i64 0), .sc (.int .i64 0), .sc (.int .i64 0), .sl [] .nil, .sc (.bool false), .sc (.int .u64 0), .sc (.int .i64 0), .sc (.int .i64 0), .sc (.int .u64 0), .sc (.int .i64 1), .sc (.int .u64 0), .sc (.int .u64 2), .sc (.int .u64 7), .sc (.int .u64 1), .sc (.int .i64 60), .sc (.bool false)]
theorem c_three : AOk Tryd.prog 10 [] H (.sl [.agg f0C, .agg f1C, .agg f1C] .full) H := by
  refine ACalls.into Tryd.func10 rfl Tryd.ntmps10 Tryd.results10 (by simp) ?_
  simp -implicitDefEqProofs [AV.cells]
  refine AAlloc.intro fun b hb => ?_
  simp -implicitDefEqProofs
  refine AAlloc.intro fun c hc => ?_
  have nbc : b ≠ c := by rintro rfl; simp [Heap.set] at hc
  have hbc : H c = none := (HLe.set_fresh hb).none hc
  simp -implicitDefEqProofs [nbc]
  exact ⟨wk_refl _, HWk.new hbc (HWk.new hb (HWk.refl _))⟩
abbrev ptr (b : Nat) : AV := .sc (.pointer (some ⟨b, 0, none⟩))
def RunR (xs : List AV) (t : Rg.Tok) (H : Heap) (r : AV) (K : Heap) : Prop :=
  ∃ b, r = .sc (.func (.func 21) #[] #[.pointer (some ⟨b, 0, none⟩)]) ∧ HLe H K ∧ K b = some (.cells [.sl xs t] 37)
theorem c_run (xs : List AV) (t : Rg.Tok) (ht : (AV.sl xs t).lies = true) : ACalls Tryd.prog 17 [.sl xs t] H (RunR xs t H) := by
  refine ACalls.into Tryd.func17 rfl Tryd.ntmps17 Tryd.results17 (by simp) ?_
  simp -implicitDefEqProofs [AV.cells, ht]
  refine AAlloc.intro fun b hb => ?_
  simp -implicitDefEqProofs
  exact ⟨_, _, wk_refl _, HWk.refl _, b, rfl, HLe.set_fresh hb, by simp [Heap.set]⟩
abbrev kyA (a b c : Nat) (d : Int) : List AV := [.sc (.int .u64 (a : Int)), .sc (.int .u64 (b : Int)), .sc (.int .u64 (c : Int)), .sc (.int .i64 d)]
theorem c_grant0 : AOk Tryd.prog 22 [.agg f0C] H (.tup [.agg (kyA 7 1 2 60), .sc (.bool true)]) H := by
  refine ACalls.into Tryd.func22 rfl Tryd.ntmps22 Tryd.results22 (by simp) ?_
  simp -implicitDefEqProofs [AV.cells, AV.lies, f0C]
  refine AAlloc.intro fun b hb => ?_
  simp -implicitDefEqProofs
  refine AAlloc.intro fun c hc => ?_
  have nbc : b ≠ c := by rintro rfl; simp [Heap.set] at hc
  have nbc' : c ≠ b := fun h => nbc h.symm
  have hbc : H c = none := (HLe.set_fresh hb).none hc
  simp -implicitDefEqProofs [nbc, nbc']
  exact HWk.new hbc (HWk.new hb (HWk.refl _))
theorem c_grant1 : AOk Tryd.prog 22 [.agg f1C] H (.tup [.agg (kyA 0 0 0 0), .sc (.bool false)]) H := by
  refine ACalls.into Tryd.func22 rfl Tryd.ntmps22 Tryd.results22 (by simp) ?_
  simp -implicitDefEqProofs [AV.cells, AV.lies, f1C]
  refine AAlloc.intro fun b hb => ?_
  simp -implicitDefEqProofs
  refine AAlloc.intro fun c hc => ?_
  have nbc : b ≠ c := by rintro rfl; simp [Heap.set] at hc
  have nbc' : c ≠ b := fun h => nbc h.symm
  have hbc : H c = none := (HLe.set_fresh hb).none hc
  simp -implicitDefEqProofs [nbc, nbc']
  exact HWk.new hbc (HWk.new hb (HWk.refl _))
end Go.Proofs.YtghlkjkdejebnaaDoor
namespace Go.Proofs.YtghlkjkdejebnaaDoor
open Rg Go
variable {H : Heap}
def Gr (e : TypeId) (sz : Nat) (H0 : Heap) (xs : List AV) (t : Rg.Tok) (K : Heap) : Prop :=
  (((t = .nil ∧ xs = []) ∨ t = .full) ∧ K = H0) ∨ ∃ g cap, H0 g = none ∧ t = .own g cap sz e ∧ K = H0.set g (.open xs.length cap sz e)
theorem Gr.nil {e : TypeId} {sz : Nat} {H0 : Heap} : Gr e sz H0 [] .nil H0 := .inl ⟨.inl ⟨rfl, rfl⟩, rfl⟩
theorem Gr.full {e : TypeId} {sz : Nat} {H0 : Heap} {xs : List AV} : Gr e sz H0 xs .full H0 := .inl ⟨.inr rfl, rfl⟩
theorem Gr.le {e : TypeId} {sz : Nat} {H0 K : Heap} {xs : List AV} {t : Rg.Tok} (h : Gr e sz H0 xs t K) : HLe H0 K := by
  rcases h with ⟨_, rfl⟩ | ⟨g, cap, h1, _, rfl⟩
  · exact HLe.refl _
  · exact (HLe.refl _).set_new h1
theorem Gr.base {e : TypeId} {sz : Nat} {H0 H1 K : Heap} {xs : List AV} {t : Rg.Tok} (h : Gr e sz H1 xs t K) (hl : HLe H0 H1) : ∃ K', Gr e sz H0 xs t K' ∧ HLe K' K := by
  rcases h with ⟨h1, rfl⟩ | ⟨g, cap, h1, h2, rfl⟩
  · exact ⟨H0, .inl ⟨h1, rfl⟩, hl⟩
  · exact ⟨H0.set g (.open xs.length cap sz e), .inr ⟨g, cap, hl.none h1, h2, rfl⟩, hl.set_mono⟩
theorem set_del_same {H0 : Heap} {g : Nat} {o : AObj} (h : H0 g = none) : (H0.set g o).del g = H0 := by
  funext b
  by_cases hb : b = g
  · subst hb; simp [Heap.del, h]
  · simp [Heap.del, Heap.set, hb]
theorem AApp.grE {P : Program} {n : Nat} {Q : Post} {ρ : Nat → AV} {k : List AItem} {full : Array Oper} {dst : Option Tmp} {r : List Oper} {T e : TypeId} {xs ys : List AV} {t : Rg.Tok} {sz by_ : Nat} {H0 : Heap} (he : ElemOk P T e sz by_) (hg : Gr e sz H0 xs t H)
    (hx : szs sz xs = true) (hy : szs sz ys = true) (hb : (xs.length + ys.length) * by_ ≤ 140737488355328) (hm : xs.length + ys.length ≤ maxLen)
    (h : ∀ t' Hn, Gr e sz H0 (xs ++ ys) t' Hn → AGo P n Q (.ops full r :: k) (aput n dst (.sl (xs ++ ys) t') ρ) Hn) : AApp P n Q full dst r k ρ H T e xs t ys := by
  rcases hg with ⟨ht, rfl⟩ | ⟨g, cap, h1, rfl, rfl⟩
  · by_cases h0 : ys = []
    · subst h0
      rw [List.length_nil, Nat.add_zero] at hb hm
      refine AApp.same he hx hb hm ?_
      have := h t H (.inl ⟨by rwa [List.append_nil], rfl⟩)
      rwa [List.append_nil] at this
    · refine AApp.new he (ht.imp And.left id) h0 hx hy hb hm fun g cap hgn => ?_
      rw [← List.length_append]
      exact h _ _ (.inr ⟨g, cap, hgn, rfl, rfl⟩)
  · refine AApp.own he (by simp [Heap.set]) hx hy hb hm fun g' cap' hgn => ?_
    rw [set_del_same h1] at hgn ⊢
    rw [← List.length_append]
    exact h _ _ (.inr ⟨g', cap', hgn, rfl, rfl⟩)
theorem Gr.box {e : TypeId} {sz : Nat} {H0 K : Heap} {xs : List AV} {t : Rg.Tok} {b : Nat} {o : AObj} (h : Gr e sz H0 xs t K) (hb : K b = none) : Gr e sz (H0.set b o) xs t (K.set b o) := by
  rcases h with ⟨h1, rfl⟩ | ⟨g, cap, h1, h2, rfl⟩
  · exact .inl ⟨h1, rfl⟩
  · have hgb : g ≠ b := by rintro rfl; simp [Heap.set] at hb
    refine .inr ⟨g, cap, by simp [Heap.set, hgb, h1], h2, ?_⟩
    funext q
    by_cases hq : q = b
    · subst hq; simp [Heap.set, Ne.symm hgb]
    · by_cases hqg : q = g
      · subst hqg; simp [Heap.set, hq]
      · simp [Heap.set, hq, hqg]
end Go.Proofs.YtghlkjkdejebnaaDoor
