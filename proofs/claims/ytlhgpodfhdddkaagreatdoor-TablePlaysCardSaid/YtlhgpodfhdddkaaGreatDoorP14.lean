/- Words that all texts use: texts and bytes as abstract values; decimal digits; contracts of the kit's. The kit's contracts on Go's library, over lists of bytes; what the package variables hold. strings.Map in field.number. Fields: what the program's functions compute, in plain words. Fields: kinds, bounds, what is allowed. Fields: a word's number. Fields: an item. Fields: a text's field. Fields: a field's text. Fields: the chapter's rows. Split and Cut at one byte, in plain words. Fields: plain laws of what a text's items allow. Fields: a field's text, parsed, allows the same. Fields: a text told is parsed back; two texts, joined. Dates, in plain words: the days of the months one behind the other. Dates and clocks: what civil and stamp give. civil.Days, civil.Weekday. civil.Of. Moments and clocks: what stamp gives. Numbers and texts as bytes: what the program's package pack computes. Numbers and texts as bytes: pack.Take. Rows that are the same: what slices.Equal tells. Expressions: which may be, which clocks fit. Firings, in plain words: the last one up to a moment, the next one behind it, all of a time; a day's date from its neighbour's. Looking for firings, in plain words: what is known on the way, down (Last) and up (After), by hours and minutes, or minute by minute. The last firing up to a moment, as the program looks for it. -/
import Derived.Test.YtlhgpodfhdddkaaGreatDoorP10
import Derived.Test.YtlhgpodfhdddkaaGreatDoorP12
import Derived.Test.YtlhgpodfhdddkaaGreatDoorP13
import Derived.Lib.AtoiErrMem
import Derived.Lib.Join
import Derived.Lib.ItoaMem
import Derived.Lib.ParseIntBCases
import Derived.WalkKit
import Derived.WalkSpells
import Derived.Laws.BitsAllLaws
import Derived.Lib.SplitLaws
import Derived.Test.YtlhgpodfhdddkaaGreatDoorP09
set_option linter.unusedSimpArgs false
set_option linter.unusedVariables false
set_option linter.unnecessarySimpa false
namespace Go.Proofs.YtlhgpodfhdddkaaGreatDoor
open Rg Go Go.RowKit
variable {H : Heap}
abbrev str (l : List UInt8) : AV := .sc (.string ⟨l.toArray⟩)
abbrev strL (l : List (List UInt8)) : List AV := l.map str
theorem getAt {α : Type} {L : List α} {i : Nat} (h : i < L.length) : ∃ e, L[i] = e ∧ L[i]? = some e := ⟨_, rfl, List.getElem?_eq_getElem h⟩
theorem ACalls.kit {P : Program} {f : FuncId} {vs : List Value} {R : Value → Prop} (h : ∀ (W0 : World) (C : Com) (w : World), Inv W0 C H w → Calls P f vs.toArray w fun e w' => ∃ r, R r ∧ e = .returned r ∧ Below w.heap.size w w') : ACalls P f (vs.map AV.sc) H (fun v K => ∃ r, R r ∧ v = avOf r ∧ K = H) := by
  intro W0 C w us hi ha
  obtain rfl := scs_of ha
  exact .inl ((h W0 C w hi).mono fun e w' ⟨r, h0, h1, h2⟩ => ⟨_, _, C, r, h1, ⟨r, h0, rfl, rfl⟩, CLe.refl C, rel_avOf r, hi.step h2⟩)
end Go.Proofs.YtlhgpodfhdddkaaGreatDoor
namespace Go.Proofs.YtlhgpodfhdddkaaGreatDoor
open Rg Go Go.RowKit
structure Glob (H : Heap) : Prop where
  maxLen : ∃ m, H 0 = some (.ro [.int .i64 m])
  ctz : ∃ us, H 7 = some (.ro us) ∧ ∀ j, j < Lib.deBruijn64tab.length → us[j]? = some (.int .u8 (Lib.deBruijn64tab.getD j 0))
  first : ∃ us, H 1 = some (.ro us) ∧ ∀ c, c < 256 → us[c]? = some (.int .u8 (Lib.firstT c))
  accept : ∃ us, H 2 = some (.ro us) ∧ ∀ i, i < 16 → us[2 * i]? = some (.int .u8 (Lib.accLo i)) ∧ us[2 * i + 1]? = some (.int .u8 (Lib.accHi i))
theorem Glob.mono {H K : Heap} (h : Glob H) (hk : ∀ b us, H b = some (.ro us) → K b = some (.ro us)) : Glob K := by
  obtain ⟨⟨m, h1⟩, ⟨u2, h2, g2⟩, ⟨u3, h3, g3⟩, ⟨u4, h4, g4⟩⟩ := h
  exact ⟨⟨m, hk _ _ h1⟩, ⟨u2, hk _ _ h2, g2⟩, ⟨u3, hk _ _ h3, g3⟩, ⟨u4, hk _ _ h4, g4⟩⟩
theorem Glob.le {H K : Heap} (h : Glob H) (hk : HLe H K) : Glob K := h.mono fun b us e => hk b _ e
theorem Glob.set {H : Heap} {b : Nat} {o : AObj} (h : Glob H) (hb : ∀ us, H b ≠ some (.ro us)) : Glob (H.set b o) := h.mono fun c us e => by
  unfold Heap.set
  split
  · rename_i hc; subst hc; exact absurd e (hb us)
  · exact e
theorem Glob.new {H : Heap} {b : Nat} {o : AObj} (h : Glob H) (hb : H b = none) : Glob (H.set b o) := h.le (HLe.set_fresh hb)
theorem Glob.del {H : Heap} {b : Nat} (h : Glob H) (hb : ∀ us, H b ≠ some (.ro us)) : Glob (H.del b) := h.mono fun c us e => by
  unfold Heap.del
  split
  · rename_i hc; subst hc; exact absurd e (hb us)
  · exact e
variable {W0 w : World} {C : Com} {H : Heap}
theorem Glob.mLen (h : Glob H) (hi : Inv W0 C H w) : ∃ m, w.cell? ⟨0, 0, none⟩ = some (.int .i64 m) := by
  obtain ⟨m, hm⟩ := h.maxLen
  exact ⟨m, hi.ro hm rfl⟩
theorem Glob.utf8 (h : Glob H) (hi : Inv W0 C H w) : Lib.Utf8Tabs 1 2 w := by
  obtain ⟨u3, h3, g3⟩ := h.first
  obtain ⟨u4, h4, g4⟩ := h.accept
  exact ⟨fun c hc => hi.ro h3 (g3 c hc), fun i hi' => ⟨hi.ro h4 (g4 i hi').1, hi.ro h4 (g4 i hi').2⟩⟩
theorem Glob.tab (h : Glob H) (hi : Inv W0 C H w) : TabAt 7 Lib.deBruijn64tab w := by
  obtain ⟨u, h1, g1⟩ := h.ctz
  exact fun j hj => hi.ro h1 (g1 j hj)
theorem c_hasPrefix (s p : List UInt8) : AOk Tryz.prog 69 [str s, str p] H (.sc (.bool (Lib.hasPrefix s p))) H :=
  AOk.kit (vs := [.string ⟨s.toArray⟩, .string ⟨p.toArray⟩]) (r := .bool (Lib.hasPrefix s p)) fun W0 C w _ => (Tryz.strings_HasPrefix ⟨s.toArray⟩ ⟨p.toArray⟩ w).mono fun e w' ⟨h1, h2⟩ => ⟨h1, h2 ▸ Below.refl _ _⟩
theorem c_cut (hG : Glob H) (s p : List UInt8) (hs : s.length < 4294967281) : AOk Tryz.prog 105 [str s, str p] H (.tup [str (Lib.cut s p).1, str (Lib.cut s p).2.1, .sc (.bool (Lib.cut s p).2.2)]) H :=
  AOk.kit (vs := [.string ⟨s.toArray⟩, .string ⟨p.toArray⟩]) (r := .tuple #[.string ⟨(Lib.cut s p).1.toArray⟩, .string ⟨(Lib.cut s p).2.1.toArray⟩, .bool (Lib.cut s p).2.2]) fun W0 C w hi => by
    obtain ⟨m, hm⟩ := hG.mLen hi
    refine (Tryz.strings_Cut ⟨s.toArray⟩ ⟨p.toArray⟩ m w (by simpa [Lib.size_eq] using hs) hm).mono fun e w' ⟨h1, n, h2⟩ => ⟨h1, h2 ▸ below_drewN w n⟩
theorem splitB_list (s p : List UInt8) : Lib.splitB ⟨p.toArray⟩ 0 (Lib.countB ⟨s.toArray⟩ ⟨p.toArray⟩) ⟨s.toArray⟩ = (Lib.split s p).map fun l => ⟨l.toArray⟩ := by
  have h := Lib.splitB_data ⟨p.toArray⟩ 0 (Lib.countB ⟨s.toArray⟩ ⟨p.toArray⟩) ⟨s.toArray⟩
  have h2 : Lib.split s p = (Lib.splitB ⟨p.toArray⟩ 0 (Lib.countB ⟨s.toArray⟩ ⟨p.toArray⟩) ⟨s.toArray⟩).map (·.data.toList) := h.symm
  rw [h2, List.map_map]
  exact (List.map_id' _).symm
theorem split_length (s p : List UInt8) (hp : 1 ≤ p.length) : (Lib.split s p).length ≤ s.length + 1 := by
  have hp1 : 1 ≤ (⟨p.toArray⟩ : ByteArray).size := by simpa [Lib.size_eq] using hp
  have hlen := Lib.splitB_all ⟨p.toArray⟩ hp1 0 _ ⟨s.toArray⟩ rfl
  have hle := Lib.countB_le ⟨p.toArray⟩ hp1 _ ⟨s.toArray⟩ (Nat.le_refl _)
  rw [splitB_list, List.length_map] at hlen
  rw [ba_size] at hle
  omega
theorem c_split (hG : Glob H) (s p : List UInt8) (hs : s.length < 4294967281) (hp : 1 ≤ p.length) : AOk Tryz.prog 71 [str s, str p] H (.sl (strL (Lib.split s p)) .no) H := by
  have hsz : (⟨s.toArray⟩ : ByteArray).size = s.length := by simp [Lib.size_eq]
  have hp1 : 1 ≤ (⟨p.toArray⟩ : ByteArray).size := by simpa [Lib.size_eq] using hp
  have hlen := Lib.splitB_all ⟨p.toArray⟩ hp1 0 _ ⟨s.toArray⟩ rfl
  have hle := Lib.countB_le ⟨p.toArray⟩ hp1 _ ⟨s.toArray⟩ (Nat.le_refl _)
  have e : strL (Lib.split s p) = (Lib.splitB ⟨p.toArray⟩ 0 (Lib.countB ⟨s.toArray⟩ ⟨p.toArray⟩) ⟨s.toArray⟩).map strAV := by rw [splitB_list]; simp [Function.comp_def]
  rw [e]
  refine AOk.kitStrs (vs := [.string ⟨s.toArray⟩, .string ⟨p.toArray⟩]) (T := 9) (by rw [hlen, hsz] at *; unfold maxLen; omega) fun W0 C w hi => ?_
  obtain ⟨m, hm⟩ := hG.mLen hi
  refine (Tryz.strings_Split ⟨s.toArray⟩ ⟨p.toArray⟩ m w (by rw [hsz]; exact hs) hm hp1).mono fun e w' ⟨h1, h2⟩ => ⟨?_, h2⟩
  rw [h1, hlen]
theorem c_trim (s p : List UInt8) (hs : s.length ≤ 9223372036854775807) (hp : p.length < 4294967281) (ha : ∀ b ∈ p, b.toNat < 128) : AOk Tryz.prog 119 [str s, str p] H (str (Lib.trimS s p)) H :=
  AOk.kit (vs := [.string ⟨s.toArray⟩, .string ⟨p.toArray⟩]) (r := .string ⟨(Lib.trimS s p).toArray⟩) fun W0 C w hi =>
    (Any.strings_Trim_laid Tryz.lays160 (by kernel_rfl) ⟨s.toArray⟩ ⟨p.toArray⟩ w (by simpa [Lib.size_eq] using hs) (by simpa [Lib.size_eq] using hp) (fun j b hb => ha b (List.mem_of_getElem? hb))).mono fun e w' h => h
theorem c_atoi (s : List UInt8) (n : Int) (hs : s.length ≤ 18) (h : Lib.atoi s = some n) : AOk Tryz.prog 120 [str s] H (.tup [.sc (.int .i64 n), .sc .nilIface]) H :=
  AOk.kit (vs := [.string ⟨s.toArray⟩]) (r := .tuple #[.int .i64 n, .nilIface]) fun W0 C w hi =>
    (Tryz.strconv_Atoi ⟨s.toArray⟩ n (by simpa [Lib.size_eq] using hs) h w).mono fun e w' ⟨h1, t, h2⟩ => ⟨h1, h2 ▸ Lib.bytesWorld_below w _ t⟩
theorem c_index (zs : List (List UInt8)) (t : Tok) (x : List UInt8) (hz : zs.length ≤ 9223372036854775807) : AOk Tryz.prog 123 [.sl (strL zs) t, str x] H (.sc (.int .i64 (Lib.idxOfS (zs.map fun l => ⟨l.toArray⟩) ⟨x.toArray⟩))) H := by
  intro W0 C w us hi ha
  obtain ⟨v, us', rfl, hv, hr⟩ := ha.uncons
  obtain ⟨v2, us'', rfl, hv2, hr⟩ := hr.uncons
  obtain rfl := hr.nil_inv
  obtain rfl := hv2.sc_inv
  have hv' : Rel C (.sl ((zs.map fun l => (⟨l.toArray⟩ : ByteArray)).map strAV) t) v := by simpa [Function.comp_def] using hv
  obtain ⟨a, cap, rfl, h1, h2, h3⟩ := strs_open hi hv'
  have fin : ∀ (e : Ending) (w' : World), (e = .returned (.int .i64 (Lib.idxOfS (zs.map fun l => ⟨l.toArray⟩) ⟨x.toArray⟩)) ∧ w' = w) → ∃ r H' C' v, e = .returned v ∧ ROk (.sc (.int .i64 (Lib.idxOfS (zs.map fun l => ⟨l.toArray⟩) ⟨x.toArray⟩))) H r H' ∧ CLe C C' ∧ Rel C' r v ∧ Inv W0 C' H' w' := by
    rintro e w' ⟨rfl, rfl⟩
    exact ⟨_, _, C, _, rfl, ⟨rfl, rfl⟩, CLe.refl C, Rel.sc _, hi⟩
  rcases h3 with h3 | ⟨b, o, rfl, hb, hc⟩
  · have hz0 : zs = [] := by simpa using h3
    subst hz0
    exact .inl ((Tryz.slices_Index_string_empty a cap ⟨x.toArray⟩ w).mono fin)
  · have key := Tryz.slices_Index_string b o (zs.map fun l => (⟨l.toArray⟩ : ByteArray)).length cap (zs.map fun l => ⟨l.toArray⟩) ⟨x.toArray⟩ w (Nat.le_refl _) (by rw [List.length_map]; exact hz) (fun j hj => by
      rw [hc j _ (List.getElem?_eq_getElem hj), List.getD_eq_getElem?_getD, List.getElem?_eq_getElem hj]
      rfl)
    rw [List.take_length] at key
    exact .inl (key.mono fin)
end Go.Proofs.YtlhgpodfhdddkaaGreatDoor
namespace Go.Proofs.YtlhgpodfhdddkaaGreatDoor
open Rg Go Go.RowKit
def lowR (x : Int) : Int := if 65 ≤ x ∧ x ≤ 90 then x + 32 else x
set_option maxHeartbeats 400000 in
theorem map_fn (x : Nat) (hx : x ≤ 1114111) (w : World) : Calls Tryz.prog 122 #[.int .i32 x] w fun e w' => e = .returned (.int .i32 (lowR x)) ∧ w' = w := by
  by_cases h1 : 65 ≤ x
  · by_cases h2 : x ≤ 90
    · have e : lowR x = x + 32 := by unfold lowR; rw [if_pos (by omega)]
      rw [e]
      go_enter Tryz.func122, Tryz.ntmps122
      go_wp2
      go_ret
      exact ⟨rfl, rfl⟩
    · have e : lowR x = x := by unfold lowR; rw [if_neg (by omega)]
      rw [e]
      go_enter Tryz.func122, Tryz.ntmps122
      go_wp2
      go_ret
      exact ⟨rfl, rfl⟩
  · have e : lowR x = x := by unfold lowR; rw [if_neg (by omega)]
    rw [e]
    go_enter Tryz.func122, Tryz.ntmps122
    go_wp2
    go_ret
    exact ⟨rfl, rfl⟩
theorem lowR_range (x : Nat) (hx : x ≤ 1114111) : 0 ≤ lowR x ∧ lowR x ≤ 2147483647 := by
  unfold lowR; split <;> omega
theorem c_map {H : Heap} (hG : Glob H) (s : List UInt8) (hs : s.length < 35184372088832) : AOk Tryz.prog 121 [.sc (.func (.func 122) #[] #[]), str s] H (str (Lib.mapD lowR s)) H :=
  AOk.kit (vs := [.func (.func 122) #[] #[], .string ⟨s.toArray⟩]) (r := .string ⟨(Lib.mapD lowR s).toArray⟩) fun W0 C w hi =>
    Tryz.strings_Map_runes 122 #[] (fun args w => enters_of Tryz.func122 (by kernel_rfl) rfl args w) lowR ⟨s.toArray⟩ w (by simpa [Lib.size_eq] using hs)
      (fun W x hx _ => (map_fn x hx W).mono fun e w' ⟨h1, h2⟩ => ⟨h1, 0, h2⟩) lowR_range (hG.utf8 hi)
end Go.Proofs.YtlhgpodfhdddkaaGreatDoor
namespace Go.Proofs.YtlhgpodfhdddkaaGreatDoor
open Rg Go
structure Fld where
  bits : Nat
  star : Bool
deriving DecidableEq
def fAV (f : Fld) : AV := .agg [.sc (.int .u64 f.bits), .sc (.bool f.star)]
def isK (k : Int) : Bool := decide (0 ≤ k) && decide (k ≤ 4)
theorem isK_cases {k : Int} (h : isK k = true) : k = 0 ∨ k = 1 ∨ k = 2 ∨ k = 3 ∨ k = 4 := by
  simp [isK] at h; omega
def lowK (k : Int) : Int := [0, 0, 1, 1, 0].getD k.toNat 0
def highK (k : Int) : Int := [59, 23, 31, 12, 7].getD k.toNat 0
def mostK (k : Int) : Int := [59, 23, 31, 12, 6].getD k.toNat 0
def shr (a n : Nat) : Nat := a >>> n
def hasB (b : Nat) (n : Int) : Bool := decide (0 ≤ n) && decide (n ≤ 63) && b.testBit n.toNat
@[simp] theorem u64_bits : IntKind.u64.bits = 64 := rfl
@[simp] theorem i64_bits : IntKind.i64.bits = 64 := rfl
def idxL (zs : List (List UInt8)) (x : List UInt8) (i : Nat) : Int :=
  match zs with
  | [] => -1
  | z :: zs => if z = x then i else idxL zs x (i + 1)
theorem idxL_eq (x : List UInt8) : ∀ (zs : List (List UInt8)) (i : Nat), Lib.idxFromS (zs.map fun l => ⟨l.toArray⟩) ⟨x.toArray⟩ i = idxL zs x i
  | [], i => rfl
  | z :: zs, i => by
    simp only [List.map_cons, Lib.idxFromS, idxL, ba_inj]
    rw [idxL_eq x zs (i + 1)]
theorem idxL_le (x : List UInt8) : ∀ (zs : List (List UInt8)) (i : Nat), -1 ≤ idxL zs x i ∧ idxL zs x i < i + zs.length + 1
  | [], i => by simp [idxL]; omega
  | z :: zs, i => by
    have h := idxL_le x zs (i + 1)
    unfold idxL
    split
    · simp; omega
    · simp at h ⊢; omega
def digs : List UInt8 := [48, 49, 50, 51, 52, 53, 54, 55, 56, 57]
def months : List (List UInt8) := [[106, 97, 110], [102, 101, 98], [109, 97, 114], [97, 112, 114], [109, 97, 121], [106, 117, 110], [106, 117, 108], [97, 117, 103], [115, 101, 112], [111, 99, 116], [110, 111, 118], [100, 101, 99]]
def days : List (List UInt8) := [[115, 117, 110], [109, 111, 110], [116, 117, 101], [119, 101, 100], [116, 104, 117], [102, 114, 105], [115, 97, 116]]
def dig2 (s : List UInt8) : Bool := decide (1 ≤ s.length) && decide (s.length ≤ 2) && decide (Lib.trimS s digs = [])
def nameK (k : Int) (low : List UInt8) : Int :=
  if k = 3 then (if 0 ≤ idxL months low 0 then idxL months low 0 + 1 else idxL months low 0)
  else if k = 4 then idxL days low 0 else -1
def numK (k : Int) (s : List UInt8) : Int × Bool :=
  if dig2 s = true then ((Lib.atoi s).getD 0, true)
  else (nameK k (Lib.mapD lowR s), decide (0 ≤ nameK k (Lib.mapD lowR s)))
theorem nameK_le (k : Int) (l : List UInt8) : -1 ≤ nameK k l ∧ nameK k l ≤ 13 := by
  have h1 := idxL_le l months 0
  have h2 := idxL_le l days 0
  simp only [months, days, List.length_cons, List.length_nil] at h1 h2
  simp only [nameK, months, days]
  repeat' split
  all_goals omega
theorem dw_nil (p : UInt8 → Bool) : ∀ l : List UInt8, l.dropWhile p = [] ↔ ∀ x ∈ l, p x = true
  | [] => by simp
  | a :: l => by
    cases h : p a with
    | true => rw [List.dropWhile_cons_of_pos h, dw_nil p l]; simp [h]
    | false => rw [List.dropWhile_cons_of_neg (by simp [h])]; simp [h]
theorem dw_head (p : UInt8 → Bool) : ∀ (l : List UInt8) {x : UInt8} {r : List UInt8}, l.dropWhile p = x :: r → p x = false
  | [], x, r, h => by simp at h
  | a :: l, x, r, h => by
    cases hp : p a with
    | true => rw [List.dropWhile_cons_of_pos hp] at h; exact dw_head p l h
    | false => rw [List.dropWhile_cons_of_neg (by simp [hp])] at h; cases h; exact hp
theorem trimS_nil (l cs : List UInt8) : Lib.trimS l cs = [] ↔ ∀ b ∈ l, cs.contains b = true := by
  unfold Lib.trimS Lib.trimLeftS Lib.trimRightS
  rw [dw_nil]
  constructor
  · intro h
    have h0 : l.reverse.dropWhile (cs.contains ·) = [] := by
      cases hx : l.reverse.dropWhile (cs.contains ·) with
      | nil => rfl
      | cons x r =>
        have h1 := h x (by rw [hx]; simp)
        rw [dw_head _ _ hx] at h1; cases h1
    rw [dw_nil] at h0
    exact fun b hb => h0 b (by simpa using hb)
  · intro h
    have h0 : l.reverse.dropWhile (cs.contains ·) = [] := (dw_nil _ _).2 fun b hb => h b (by simpa using hb)
    rw [h0]
    simp
theorem digs_val {a : UInt8} (h : digs.contains a = true) : ∃ d, Lib.digitVal a = some d ∧ d ≤ 9 ∧ (a == 45) = false ∧ (a == 43) = false := by
  simp only [digs, List.contains_eq_mem, List.mem_cons, List.not_mem_nil, or_false, decide_eq_true_eq] at h
  rcases h with rfl | rfl | rfl | rfl | rfl | rfl | rfl | rfl | rfl | rfl <;> exact ⟨_, rfl, by decide, rfl, rfl⟩
theorem dig2_atoi {s : List UInt8} (h : dig2 s = true) : ∃ n : Nat, Lib.atoi s = some (n : Int) ∧ n ≤ 99 := by
  simp only [dig2, Bool.and_eq_true, decide_eq_true_eq, trimS_nil] at h
  obtain ⟨⟨h1, h2⟩, h3⟩ := h
  match s, h1, h2, h3 with
  | [a], _, _, h3 =>
    obtain ⟨d, e1, e2, e3, e4⟩ := digs_val (h3 a (by simp))
    exact ⟨d, by simp [Lib.atoi, e3, e4, Lib.decNat, Lib.decFrom, e1], by omega⟩
  | [a, b], _, _, h3 =>
    obtain ⟨d, e1, e2, e3, e4⟩ := digs_val (h3 a (by simp))
    obtain ⟨d', e1', e2', e3', e4'⟩ := digs_val (h3 b (by simp))
    exact ⟨d * 10 + d', by simp [Lib.atoi, e3, e4, Lib.decNat, Lib.decFrom, e1, e1'], by omega⟩
  | [], h1, _, _ => simp at h1
  | a :: b :: c :: r, _, h2, _ => simp at h2
def takeE (k : Int) (w : List UInt8) (e : Int) : Int :=
  if (numK k w).2 = false then 60 else if e = 0 ∧ ((numK k w).1 < lowK k ∨ highK k < (numK k w).1) then 61 else e
def pow2 (n : Nat) : Nat := 2 ^ n
def modN (n m : Nat) : Nat := n % m
theorem modN_lt (n : Nat) {m : Nat} (h : 0 < m) : modN n m < m := Nat.mod_lt _ h
theorem pow2_small {n : Nat} (h : n < 64) : pow2 n < 18446744073709551616 := by
  have : pow2 n < 2 ^ 64 := Nat.pow_lt_pow_right (by decide) h
  exact this
theorem or_small {a b : Nat} (ha : a < 18446744073709551616) (hb : b < 18446744073709551616) : a ||| b < 18446744073709551616 := by
  have : a ||| b < 2 ^ 64 := Nat.or_lt_two_pow ha hb
  exact this
theorem tmod_nat (n m : Nat) : (n : Int).tmod (m : Int) = (modN n m : Int) := rfl
theorem shl_nat {r : Nat} (h : r < 64) : IntKind.u64.wrap (2 ^ r) = (pow2 r : Int) := by
  have h1 := pow2_small h
  have h2 : (2 : Int) ^ r = (pow2 r : Int) := by unfold pow2; norm_cast
  rw [h2]
  exact wrap_u64 (by omega) (by omega)
theorem mostK_nat {k : Int} (hk : isK k = true) : ∃ M : Nat, mostK k + 1 = (M : Int) ∧ 7 ≤ M ∧ M ≤ 60 := by
  rcases isK_cases hk with rfl | rfl | rfl | rfl | rfl
  · exact ⟨60, rfl, by omega, by omega⟩
  · exact ⟨24, rfl, by omega, by omega⟩
  · exact ⟨32, rfl, by omega, by omega⟩
  · exact ⟨13, rfl, by omega, by omega⟩
  · exact ⟨7, rfl, by omega, by omega⟩
theorem bounds_le {k : Int} (hk : isK k = true) : 0 ≤ lowK k ∧ lowK k ≤ 1 ∧ mostK k ≤ 59 ∧ highK k ≤ 59 ∧ mostK k ≤ highK k ∧ 6 ≤ mostK k := by
  rcases isK_cases hk with rfl | rfl | rfl | rfl | rfl <;> decide
theorem numK_le (k : Int) (s : List UInt8) : -1 ≤ (numK k s).1 ∧ (numK k s).1 ≤ 99 := by
  unfold numK
  split
  · rename_i h
    obtain ⟨n, h1, h2⟩ := dig2_atoi h
    rw [h1]; simp; omega
  · have := nameK_le k (Lib.mapD lowR s)
    simp; omega
theorem takeE_zero {k e : Int} {w : List UInt8} (h : takeE k w e = 0) : e = 0 ∧ (numK k w).2 = true ∧ lowK k ≤ (numK k w).1 ∧ (numK k w).1 ≤ highK k := by
  unfold takeE at h
  split at h
  · cases h
  · rename_i h1
    split at h
    · cases h
    · rename_i h2
      refine ⟨h, by simpa using h1, ?_, ?_⟩ <;> omega
def setFrom (m step : Nat) (last : Int) : Nat → Nat → Nat → Nat
  | 0, _, set => set
  | f + 1, n, set => if (n : Int) ≤ last then setFrom m step last f (n + step) (set ||| pow2 (modN n m)) else set
def finK (k first last step e : Int) : Nat × Int :=
  if e ≠ 0 then (0, e) else if last < first ∨ step < 1 ∨ 59 < step then (0, 61) else (setFrom (mostK k + 1).toNat step.toNat last 200 first.toNat 0, 0)
def bodyK (k : Int) (body : List UInt8) (stepped : Bool) (step : Int) : Nat × Int :=
  if body = [42] then finK k (lowK k) (mostK k) step 0 else
  if stepped = true ∧ (Lib.cut body [45]).2.2 = false then (0, 60) else
  if (Lib.cut body [45]).2.2 = true then finK k (numK k (Lib.cut body [45]).1).1 (numK k (Lib.cut body [45]).2.1).1 step (takeE k (Lib.cut body [45]).2.1 (takeE k (Lib.cut body [45]).1 0))
  else finK k (numK k (Lib.cut body [45]).1).1 (numK k (Lib.cut body [45]).1).1 step (takeE k (Lib.cut body [45]).1 0)
def itemK (k : Int) (s : List UInt8) : Nat × Int :=
  if (Lib.cut s [47]).2.2 = true then
    if (numK 0 (Lib.cut s [47]).2.1).2 = false then (0, 60) else bodyK k (Lib.cut s [47]).1 true (numK 0 (Lib.cut s [47]).2.1).1
  else bodyK k (Lib.cut s [47]).1 false 1
def parseGo (k : Int) : List (List UInt8) → Fld → Fld × Int
  | [], f => (f, 0)
  | x :: r, f => if (itemK k x).2 ≠ 0 then (⟨0, false⟩, (itemK k x).2) else parseGo k r ⟨f.bits ||| (itemK k x).1, f.star⟩
def parseK (k : Int) (s : List UInt8) : Fld × Int :=
  if isK k = false then (⟨0, false⟩, 2) else if 150 < s.length then (⟨0, false⟩, 3) else parseGo k (Lib.split s [44]) ⟨0, Lib.hasPrefix s [42]⟩
theorem setFrom_lt {m step : Nat} {last : Int} (h0 : 0 < m) (h1 : m ≤ 64) : ∀ (f n set : Nat), set < 18446744073709551616 → setFrom m step last f n set < 18446744073709551616
  | 0, n, set, h => h
  | f + 1, n, set, h => by
    unfold setFrom
    split
    · exact setFrom_lt h0 h1 f _ _ (or_small h (pow2_small (Nat.lt_of_lt_of_le (modN_lt n h0) h1)))
    · exact h
theorem finK_lt {k : Int} (hk : isK k = true) (first last step e : Int) : (finK k first last step e).1 < 18446744073709551616 := by
  obtain ⟨M, hM, h1, h2⟩ := mostK_nat hk
  unfold finK
  rw [hM]
  split
  · exact (by decide : (0 : Nat) < 18446744073709551616)
  · split
    · exact (by decide : (0 : Nat) < 18446744073709551616)
    · exact setFrom_lt (by simp; omega) (by simp; omega) _ _ _ (by decide)
theorem bodyK_lt {k : Int} (hk : isK k = true) (b : List UInt8) (st : Bool) (step : Int) : (bodyK k b st step).1 < 18446744073709551616 := by
  unfold bodyK
  repeat' split
  all_goals first | exact finK_lt hk _ _ _ _ | decide
theorem itemK_lt {k : Int} (hk : isK k = true) (s : List UInt8) : (itemK k s).1 < 18446744073709551616 := by
  unfold itemK
  repeat' split
  all_goals first | exact bodyK_lt hk _ _ _ | decide
theorem split_len (p : List UInt8) : ∀ (k : Nat) (s : List UInt8), ∀ x ∈ Lib.splitK p 0 k s, x.length ≤ s.length
  | 0, s, x, h => by simp [Lib.splitK] at h; subst h; exact Nat.le_refl _
  | k + 1, s, x, h => by
    unfold Lib.splitK at h
    split at h
    · simp at h; subst h; exact Nat.le_refl _
    · rcases List.mem_cons.1 h with rfl | h
      · simp; omega
      · have := split_len p k _ x h
        simp at this; omega
theorem shr_lt {a : Nat} (n : Nat) (ha : a < 18446744073709551616) : shr a n < 18446744073709551616 := by
  unfold shr
  rw [Nat.shiftRight_eq_div_pow]
  exact Nat.lt_of_le_of_lt (Nat.div_le_self _ _) ha
end Go.Proofs.YtlhgpodfhdddkaaGreatDoor
namespace Go.Proofs.YtlhgpodfhdddkaaGreatDoor
open Rg Go
variable {H : Heap}
theorem c_is (k : Int) : AOk Tryz.prog 83 [.sc (.int .i64 k)] H (.sc (.bool (isK k))) H := by
  refine ACalls.into Tryz.func83 rfl Tryz.ntmps83 Tryz.results83 (by simp) ?_
  by_cases h0 : 0 ≤ k
  · by_cases h4 : k ≤ 4
    · simp -implicitDefEqProofs [h0, h4, isK]
    · simp -implicitDefEqProofs [h0, h4, isK]
  · simp -implicitDefEqProofs [h0, isK]
theorem c_bounds {k : Int} (hk : isK k = true) : AOk Tryz.prog 102 [.sc (.int .i64 k)] H (.tup [.sc (.int .i64 (lowK k)), .sc (.int .i64 (highK k)), .sc (.int .i64 (mostK k))]) H := by
  refine ACalls.into Tryz.func102 rfl Tryz.ntmps102 Tryz.results102 (by simp) ?_
  simp -implicitDefEqProofs
  refine AAlloc.intro fun b hb => ?_
  rcases isK_cases hk with rfl | rfl | rfl | rfl | rfl <;> simp -implicitDefEqProofs <;> refine go_draw 15 f_mixed (by decide +kernel) ?_ <;> simp -implicitDefEqProofs [lowK, highK, mostK] <;> exact HWk.new hb (HWk.refl _)
end Go.Proofs.YtlhgpodfhdddkaaGreatDoor
namespace Go.Proofs.YtlhgpodfhdddkaaGreatDoor
open Rg Go
variable {H : Heap}
theorem c_number (hG : Glob H) (k : Int) (s : List UInt8) (hs : s.length ≤ 1000000) : AOk Tryz.prog 104 [.sc (.int .i64 k), str s] H (.tup [.sc (.int .i64 (numK k s).1), .sc (.bool (numK k s).2)]) H := by
  have hn := nameK_le k (Lib.mapD lowR s)
  have hw : IntKind.i64.wrap (idxL months (Lib.mapD lowR s) 0 + 1) = idxL months (Lib.mapD lowR s) 0 + 1 := by
    have h1 := idxL_le (Lib.mapD lowR s) months 0
    simp only [months, List.length_cons, List.length_nil] at h1
    simp only [months]
    exact wrap_i64 (by omega) (by omega)
  have eM : Lib.idxOfS (months.map fun l => (⟨l.toArray⟩ : ByteArray)) ⟨(Lib.mapD lowR s).toArray⟩ = idxL months (Lib.mapD lowR s) 0 := idxL_eq _ _ _
  have eD : Lib.idxOfS (days.map fun l => (⟨l.toArray⟩ : ByteArray)) ⟨(Lib.mapD lowR s).toArray⟩ = idxL days (Lib.mapD lowR s) 0 := idxL_eq _ _ _
  refine ACalls.into Tryz.func104 rfl Tryz.ntmps104 Tryz.results104 (by simp) ?_
  simp -implicitDefEqProofs
  have hcase : dig2 s = true ∨ ((1 : Int) ≤ s.length ∧ (s.length : Int) ≤ 2 ∧ Lib.trimS s digs ≠ []) ∨ ((1 : Int) ≤ s.length ∧ ¬ (s.length : Int) ≤ 2) ∨ ¬ (1 : Int) ≤ s.length := by
    by_cases h1 : (1 : Int) ≤ s.length <;> by_cases h2 : (s.length : Int) ≤ 2 <;> by_cases h3 : Lib.trimS s digs = [] <;> simp [h1, h2, h3, dig2] <;> omega
  cases hd : dig2 s with
  | true =>
    have hd' := hd
    simp only [dig2, Bool.and_eq_true, decide_eq_true_eq] at hd'
    obtain ⟨⟨h1, h2⟩, h3⟩ := hd'
    have h1' : (1 : Int) ≤ s.length := by omega
    have h2' : (s.length : Int) ≤ 2 := by omega
    simp -implicitDefEqProofs [h1', h2']
    refine ACall.eq (c_trim s digs (by omega) (by decide) (by decide)) ?_
    obtain ⟨m, hm, hm2⟩ := dig2_atoi hd
    simp -implicitDefEqProofs [h3]
    refine ACall.eq (c_atoi s _ (by omega) hm) ?_
    simp -implicitDefEqProofs [numK, hd, hm]
  | false =>
    have eK : numK k s = (nameK k (Lib.mapD lowR s), decide (0 ≤ nameK k (Lib.mapD lowR s))) := by simp [numK, hd]
    rw [eK]
    rcases hcase with hc | ⟨h1, h2, h3⟩ | ⟨h1, h2⟩ | h1
    · rw [hd] at hc; cases hc
    · simp -implicitDefEqProofs [h1, h2]
      refine ACall.eq (c_trim s digs (by omega) (by decide) (by decide)) ?_
      have h3' : (Lib.trimS s digs).isEmpty = false := by simpa using h3
      simp -implicitDefEqProofs [h3']
      refine AAlloc.intro fun b1 hb1 => ?_
      simp -implicitDefEqProofs
      refine AAlloc.intro fun b2 hb2 => ?_
      simp -implicitDefEqProofs
      have hG1 := fun o => hG.set (b := b1) (o := o) (by simp [hb1])
      have hb21 : b2 ≠ b1 := by intro e; subst e; simp [Heap.set] at hb2
      have hb12 := Ne.symm hb21
      have hG2 := fun o => (hG1 _).set (b := b2) (o := o) (fun us e => by rw [hb2] at e; cases e)
      refine ACall.eq (c_map (hG2 _) s (by omega)) ?_
      have hb2' : H b2 = none := (HLe.set_fresh hb1).none hb2
      have hk2 : ∀ o o', HWk H ((H.set b1 o).set b2 o') := fun o o' => HWk.new hb2' (HWk.new hb1 (HWk.refl _))
      by_cases k3 : k = 3
      · subst k3
        simp -implicitDefEqProofs [hb12, maxLen]
        refine ACall.eq (c_index months .no _ (by decide)) ?_
        rw [eM]
        by_cases hi : 0 ≤ idxL months (Lib.mapD lowR s) 0
        · have hi' : 0 ≤ idxL months (Lib.mapD lowR s) 0 + 1 := by omega
          simp -implicitDefEqProofs [hi, hi', hw, nameK]
          exact HWk.dels hb1 (hk2 _ _)
        · simp -implicitDefEqProofs [hi, nameK]
          exact HWk.dels hb1 (hk2 _ _)
      · by_cases k4 : k = 4
        · subst k4
          simp -implicitDefEqProofs [maxLen]
          refine ACall.eq (c_index days .no _ (by decide)) ?_
          rw [eD]
          simp -implicitDefEqProofs [nameK]
          exact HWk.dels hb2' (hk2 _ _)
        · simp -implicitDefEqProofs [k3, k4, nameK]
          exact hk2 _ _
    · simp -implicitDefEqProofs [h1, h2]
      refine AAlloc.intro fun b1 hb1 => ?_
      simp -implicitDefEqProofs
      refine AAlloc.intro fun b2 hb2 => ?_
      simp -implicitDefEqProofs
      have hG1 := fun o => hG.set (b := b1) (o := o) (by simp [hb1])
      have hb21 : b2 ≠ b1 := by intro e; subst e; simp [Heap.set] at hb2
      have hb12 := Ne.symm hb21
      have hG2 := fun o => (hG1 _).set (b := b2) (o := o) (fun us e => by rw [hb2] at e; cases e)
      refine ACall.eq (c_map (hG2 _) s (by omega)) ?_
      have hb2' : H b2 = none := (HLe.set_fresh hb1).none hb2
      have hk2 : ∀ o o', HWk H ((H.set b1 o).set b2 o') := fun o o' => HWk.new hb2' (HWk.new hb1 (HWk.refl _))
      by_cases k3 : k = 3
      · subst k3
        simp -implicitDefEqProofs [hb12, maxLen]
        refine ACall.eq (c_index months .no _ (by decide)) ?_
        rw [eM]
        by_cases hi : 0 ≤ idxL months (Lib.mapD lowR s) 0
        · have hi' : 0 ≤ idxL months (Lib.mapD lowR s) 0 + 1 := by omega
          simp -implicitDefEqProofs [hi, hi', hw, nameK]
          exact HWk.dels hb1 (hk2 _ _)
        · simp -implicitDefEqProofs [hi, nameK]
          exact HWk.dels hb1 (hk2 _ _)
      · by_cases k4 : k = 4
        · subst k4
          simp -implicitDefEqProofs [maxLen]
          refine ACall.eq (c_index days .no _ (by decide)) ?_
          rw [eD]
          simp -implicitDefEqProofs [nameK]
          exact HWk.dels hb2' (hk2 _ _)
        · simp -implicitDefEqProofs [k3, k4, nameK]
          exact hk2 _ _
    · simp -implicitDefEqProofs [h1]
      refine AAlloc.intro fun b1 hb1 => ?_
      simp -implicitDefEqProofs
      refine AAlloc.intro fun b2 hb2 => ?_
      simp -implicitDefEqProofs
      have hG1 := fun o => hG.set (b := b1) (o := o) (by simp [hb1])
      have hb21 : b2 ≠ b1 := by intro e; subst e; simp [Heap.set] at hb2
      have hb12 := Ne.symm hb21
      have hG2 := fun o => (hG1 _).set (b := b2) (o := o) (fun us e => by rw [hb2] at e; cases e)
      refine ACall.eq (c_map (hG2 _) s (by omega)) ?_
      have hb2' : H b2 = none := (HLe.set_fresh hb1).none hb2
      have hk2 : ∀ o o', HWk H ((H.set b1 o).set b2 o') := fun o o' => HWk.new hb2' (HWk.new hb1 (HWk.refl _))
      by_cases k3 : k = 3
      · subst k3
        simp -implicitDefEqProofs [hb12, maxLen]
        refine ACall.eq (c_index months .no _ (by decide)) ?_
        rw [eM]
        by_cases hi : 0 ≤ idxL months (Lib.mapD lowR s) 0
        · have hi' : 0 ≤ idxL months (Lib.mapD lowR s) 0 + 1 := by omega
          simp -implicitDefEqProofs [hi, hi', hw, nameK]
          exact HWk.dels hb1 (hk2 _ _)
        · simp -implicitDefEqProofs [hi, nameK]
          exact HWk.dels hb1 (hk2 _ _)
      · by_cases k4 : k = 4
        · subst k4
          simp -implicitDefEqProofs [maxLen]
          refine ACall.eq (c_index days .no _ (by decide)) ?_
          rw [eD]
          simp -implicitDefEqProofs [nameK]
          exact HWk.dels hb2' (hk2 _ _)
        · simp -implicitDefEqProofs [k3, k4, nameK]
          exact hk2 _ _
end Go.Proofs.YtlhgpodfhdddkaaGreatDoor
namespace Go.Proofs.YtlhgpodfhdddkaaGreatDoor
open Rg Go
variable {H : Heap}
theorem c_take (hG : Glob H) {bk be bl bh : Nat} {k e : Int} (hk : H bk = some (.cells [.sc (.int .i64 k)] 3)) (he : H be = some (.cells [.sc (.int .i64 e)] 37))
    (hl : H bl = some (.cells [.sc (.int .i64 (lowK k))] 3)) (hh : H bh = some (.cells [.sc (.int .i64 (highK k))] 3)) (w : List UInt8) (hw : w.length ≤ 1000000) :
    AOk Tryz.prog 103 [str w, .sc (.pointer (some ⟨bk, 0, none⟩)), .sc (.pointer (some ⟨be, 0, none⟩)), .sc (.pointer (some ⟨bl, 0, none⟩)), .sc (.pointer (some ⟨bh, 0, none⟩))] H
      (.sc (.int .i64 (numK k w).1)) (H.set be (.cells [.sc (.int .i64 (takeE k w e))] 37)) := by
  refine ACalls.into Tryz.func103 rfl Tryz.ntmps103 Tryz.results103 (by simp) ?_
  simp -implicitDefEqProofs [hk]
  refine ACall.eq (c_number hG k w hw) ?_
  unfold takeE
  cases hp : numK k w with
  | mk n ok =>
    cases ok with
    | false => simp -implicitDefEqProofs [he]
    | true =>
      by_cases h0 : e = 0
      · by_cases h1 : n < lowK k
        · simp -implicitDefEqProofs [he, hl, h0, h1]
        · by_cases h2 : highK k < n
          · simp -implicitDefEqProofs [he, hl, hh, h0, h1, h2]
          · simp -implicitDefEqProofs [he, hl, hh, h0, h1, h2]
            exact HWk.at_ he (by simp [h0]) (HWk.refl _)
      · simp -implicitDefEqProofs [he, h0]
        exact HWk.at_ he (by simp) (HWk.refl _)
theorem cut_len (s p : List UInt8) : (Lib.cut s p).1.length ≤ s.length ∧ (Lib.cut s p).2.1.length ≤ s.length := by
  unfold Lib.cut
  split
  · simp; omega
  · simp
theorem c_item (hG : Glob H) {k : Int} (hk : isK k = true) (s : List UInt8) (hs : s.length ≤ 1000000) :
    AOk Tryz.prog 84 [.sc (.int .i64 k), str s] H (.tup [.sc (.int .u64 (itemK k s).1), .sc (.int .i64 (itemK k s).2)]) H := by
  unfold itemK
  have hlen := cut_len s [47]
  generalize hc : Lib.cut s [47] = c at *
  obtain ⟨body, by_, st⟩ := c
  simp only at hlen ⊢
  obtain ⟨M, hM, hM7, hM60⟩ := mostK_nat hk
  have hbd := bounds_le hk
  generalize hres : (if st = true then _ else _ : Nat × Int) = res
  refine ACalls.into Tryz.func84 rfl Tryz.ntmps84 Tryz.results84 (by simp) ?_
  simp -implicitDefEqProofs
  refine AAlloc.intro fun b2 h2 => ?_
  simp -implicitDefEqProofs
  refine ACall.eq (c_bounds hk) ?_
  simp -implicitDefEqProofs
  refine AAlloc.intro fun b6 h6 => ?_
  have n62 : b6 ≠ b2 := by intro e; subst e; simp [Heap.set] at h6
  have n26 := n62.symm
  simp -implicitDefEqProofs
  refine AAlloc.intro fun b7 h7 => ?_
  have n72 : b7 ≠ b2 := by intro e; subst e; simp [Heap.set, n26] at h7
  have n76 : b7 ≠ b6 := by intro e; subst e; simp [Heap.set] at h7
  have n27 := n72.symm
  have n67 := n76.symm
  simp -implicitDefEqProofs [n67, n76]
  refine AAlloc.intro fun b9 h9 => ?_
  have n92 : b9 ≠ b2 := by intro e; subst e; simp [Heap.set, n27, n26] at h9
  have n96 : b9 ≠ b6 := by intro e; subst e; simp [Heap.set, n67] at h9
  have n97 : b9 ≠ b7 := by intro e; subst e; simp [Heap.set] at h9
  simp -implicitDefEqProofs
  have e9 : H b9 = none := by simpa [Heap.set, n92, n96, n97] using h9
  have kH : ∀ o2 o6 o7 o6' o7' o9, HWk H ((((((H.set b2 o2).set b6 o6).set b7 o7).set b6 o6').set b7 o7').set b9 o9) := fun o2 o6 o7 o6' o7' o9 => by
    have e6 : H b6 = none := (HLe.set_fresh h2).none h6
    have e7 : H b7 = none := (HLe.set_fresh h2).none ((HLe.set_fresh h6).none h7)
    exact HWk.new e9 (HWk.new e7 (HWk.new e6 (HWk.new e7 (HWk.new e6 (HWk.new h2 (HWk.refl _))))))
  have gH : ∀ o2 o6 o7 o6' o7' o9, Glob ((((((H.set b2 o2).set b6 o6).set b7 o7).set b6 o6').set b7 o7').set b9 o9) := fun o2 o6 o7 o6' o7' o9 => by
    have e6 : H b6 = none := (HLe.set_fresh h2).none h6
    have e7 : H b7 = none := (HLe.set_fresh h2).none ((HLe.set_fresh h6).none h7)
    refine hG.mono fun c us e => ?_
    have c2 : c ≠ b2 := by rintro rfl; rw [h2] at e; cases e
    have c6 : c ≠ b6 := by rintro rfl; rw [e6] at e; cases e
    have c7 : c ≠ b7 := by rintro rfl; rw [e7] at e; cases e
    have c9 : c ≠ b9 := by rintro rfl; rw [e9] at e; cases e
    simp [Heap.set, c2, c6, c7, c9, e]
  generalize hK : Heap.set _ b9 _ = K
  have k2 : K b2 = some (.cells [.sc (.int .i64 k)] 3) := by rw [← hK]; simp [Heap.set, n27, n26, n92.symm]
  have k6 : K b6 = some (.cells [.sc (.int .i64 (lowK k))] 3) := by rw [← hK]; simp [Heap.set, n67, n96.symm]
  have k7 : K b7 = some (.cells [.sc (.int .i64 (highK k))] 3) := by rw [← hK]; simp [Heap.set, n97.symm]
  have k9 : K b9 = some (.cells [.sc (.int .i64 0)] 37) := by rw [← hK]; simp [Heap.set]
  have kG : Glob K := by rw [← hK]; exact gH _ _ _ _ _ _
  have kW : HWk H K := by rw [← hK]; exact kH _ _ _ _ _ _
  clear kH gH hK
  refine ACall.eq (c_cut kG s [47] (by omega)) ?_
  rw [hc]
  simp -implicitDefEqProofs
  refine ABr.join (fun ρ K' => K' = K ∧ ∃ step : Int, ρ 6 = .sc (.pointer (some ⟨b6, 0, none⟩)) ∧ ρ 8 = .sc (.int .i64 (mostK k)) ∧ ρ 9 = .sc (.pointer (some ⟨b9, 0, none⟩)) ∧
    ρ 10 = .sc (.func (.func 103) #[] #[.pointer (some ⟨b2, 0, none⟩), .pointer (some ⟨b9, 0, none⟩), .pointer (some ⟨b6, 0, none⟩), .pointer (some ⟨b7, 0, none⟩)]) ∧
    ρ 11 = str body ∧ ρ 13 = .sc (.bool st) ∧ ρ 14 = .sc (.int .i64 step) ∧ -1 ≤ step ∧ step ≤ 99 ∧ bodyK k body st step = res) (fun k' hk' => ?_) ?_
  · cases st with
    | false =>
      simp -implicitDefEqProofs
      refine hk' _ _ ⟨rfl, 1, by simp, by simp, by simp, by simp, by simp, by simp, by simp, by omega, by omega, by simpa using hres⟩
    | true =>
      simp -implicitDefEqProofs
      refine ACall.eq (c_number kG 0 by_ (by omega)) ?_
      have hn := numK_le 0 by_
      simp only [if_true] at hres
      cases hp : (numK 0 by_).2 with
      | false =>
        rw [hp, if_pos rfl] at hres
        subst hres
        simp -implicitDefEqProofs
        exact kW
      | true =>
        rw [hp, if_neg (by simp)] at hres
        simp -implicitDefEqProofs
        refine hk' _ _ ⟨rfl, (numK 0 by_).1, by simp, by simp, by simp, by simp, by simp, by simp, by simp, by omega, by omega, hres⟩
  · rintro ρ K' ⟨rfl, step, h6, h8, h9, h10, h11, h13, h14, hs1, hs2, hr⟩
    simp -implicitDefEqProofs [h6, h8, h11, k6]
    refine ABr.join (fun ρ K' => ∃ first last e : Int, ρ 8 = .sc (.int .i64 (mostK k)) ∧ ρ 9 = .sc (.pointer (some ⟨b9, 0, none⟩)) ∧ ρ 14 = .sc (.int .i64 step) ∧ ρ 17 = .sc (.int .i64 first) ∧ ρ 18 = .sc (.int .i64 last) ∧
      K' b9 = some (.cells [.sc (.int .i64 e)] 37) ∧ HWk H K' ∧ (e = 0 → 0 ≤ first ∧ first ≤ 59 ∧ last ≤ 59) ∧ finK k first last step e = res) (fun k' hk' => ?_) ?_
    · have hn : ∀ e o, (K'.set b9 (.cells [.sc (.int .i64 e)] 37)) b2 = K' b2 ∧ (K'.set b9 (.cells [.sc (.int .i64 e)] 37)) b6 = K' b6 ∧ (K'.set b9 (.cells [.sc (.int .i64 e)] 37)) b7 = K' b7 ∧ (K'.set b9 (.cells [.sc (.int .i64 e)] 37)) b9 = some (.cells [.sc (.int .i64 e)] 37) ∧ Glob (K'.set b9 o) :=
        fun e o => ⟨by simp [Heap.set, n92.symm], by simp [Heap.set, n96.symm], by simp [Heap.set, n97.symm], by simp [Heap.set], kG.set (by simp [k9])⟩
      have hlen2 := cut_len body [45]
      unfold bodyK at hr
      cases hb : (body == [42]) with
      | true =>
        have hb' : body = [42] := by simpa using hb
        rw [if_pos hb'] at hr
        simp -implicitDefEqProofs [hb']
        exact hk' _ _ ⟨lowK k, mostK k, 0, by simp [h8], by simp [h9], by simp [h14], by simp, by simp, k9, kW, fun _ => by omega, hr⟩
      | false =>
        have hb' : body ≠ [42] := by simpa using hb
        rw [if_neg hb'] at hr
        simp -implicitDefEqProofs [h11]
        refine ACall.eq (c_cut kG body [45] (by omega)) ?_
        generalize Lib.cut body [45] = c at hr hlen2
        obtain ⟨a, b, rg⟩ := c
        simp only at hr hlen2
        have ha := c_take kG k2 k9 k6 k7 a (by omega)
        have na := numK_le k a
        obtain ⟨g2, g6, g7, g9, gG⟩ := hn (takeE k a 0) (.cells [.sc (.int .i64 (takeE k a 0))] 37)
        cases rg with
        | false =>
          cases st with
          | true =>
            simp only [and_self, if_true] at hr
            subst hr
            simp -implicitDefEqProofs [h13]
            exact kW
          | false =>
            simp only [Bool.false_eq_true, false_and, if_false] at hr
            simp -implicitDefEqProofs [h13, h10]
            refine ACall.eq ha ?_
            simp -implicitDefEqProofs
            refine hk' _ _ ⟨_, _, _, by simp [h8], by simp [h9], by simp [h14], by simp, by simp, g9, HWk.new e9 kW, fun h0 => ?_, hr⟩
            obtain ⟨_, _, t1, t2⟩ := takeE_zero h0
            omega
        | true =>
          simp only [Bool.true_eq_false, and_false, if_false, if_true] at hr
          have hbb := c_take gG (g2.trans k2) g9 (g6.trans k6) (g7.trans k7) b (by omega)
          have nb := fun h0 => (takeE_zero (k := k) (w := b) (e := takeE k a 0) h0)
          have fin : takeE k b (takeE k a 0) = 0 → 0 ≤ (numK k a).1 ∧ (numK k a).1 ≤ 59 ∧ (numK k b).1 ≤ 59 := fun h0 => by
            obtain ⟨h0, _, t1, t2⟩ := takeE_zero h0
            obtain ⟨_, _, t3, t4⟩ := takeE_zero h0
            omega
          cases st <;> simp -implicitDefEqProofs [h13, h10] <;> refine ACall.eq ha ?_ <;> simp -implicitDefEqProofs [h10] <;> refine ACall.eq hbb ?_ <;> simp -implicitDefEqProofs <;>
            exact hk' _ _ ⟨_, _, _, by simp [h8], by simp [h9], by simp [h14], by simp, by simp, by simp [Heap.set], HWk.new e9 kW, fin, hr⟩
    · rintro ρ K' ⟨first, last, e, h8, h9, h14, h17, h18, k9, kW, hfl, hr⟩
      simp -implicitDefEqProofs [h9, k9]
      unfold finK at hr
      by_cases he : e = 0
      · obtain ⟨f0, f1, f2⟩ := hfl he
        rw [if_neg (by simp [he])] at hr
        by_cases hlf : last < first
        · rw [if_pos (.inl hlf)] at hr
          subst hr
          simp -implicitDefEqProofs [he, h17, h18, hlf]
          exact kW
        · by_cases hs3 : step < 1
          · rw [if_pos (.inr (.inl hs3))] at hr
            subst hr
            simp -implicitDefEqProofs [he, h14, h17, h18, hlf, hs3]
            exact kW
          · by_cases hs4 : 59 < step
            · rw [if_pos (.inr (.inr hs4))] at hr
              subst hr
              simp -implicitDefEqProofs [he, h14, h17, h18, hlf, hs3, hs4]
              exact kW
            · rw [if_neg (by omega)] at hr
              simp -implicitDefEqProofs [he, h14, h17, h18, hlf, hs3, hs4]
              obtain ⟨n0, rfl⟩ := Int.eq_ofNat_of_zero_le f0
              obtain ⟨sN, rfl⟩ := Int.eq_ofNat_of_zero_le (a := step) (by omega)
              rw [hM] at hr
              simp only [Int.toNat_natCast] at hr
              have hwM : IntKind.i64.wrap (mostK k + 1) = (M : Int) := by rw [hM]; exact wrap_i64 (by omega) (by omega)
              have hM0 : M ≠ 0 := by omega
              refine AGo.rounds (fun m ρ K => ∃ n set : Nat, last < (n : Int) + m ∧ n ≤ 118 ∧ set < 18446744073709551616 ∧ ρ 8 = .sc (.int .i64 (mostK k)) ∧ ρ 14 = .sc (.int .i64 sN) ∧ ρ 18 = .sc (.int .i64 last) ∧
                ρ 22 = .sc (.int .u64 set) ∧ ρ 23 = .sc (.int .i64 n) ∧ (setFrom M sN last m n set, (0 : Int)) = res ∧ K = K') ?_ (m := 200) (HLe.refl _) ⟨n0, 0, by omega, by omega, by decide, by simp [h8], by simp [h14], by simp [h18], by simp, by simp, hr, rfl⟩
              rintro m ρ K ih ⟨n, set, hlt, hn, hset, h8, h14, h18, h22, h23, hgo, rfl⟩
              by_cases hle : (n : Int) ≤ last
              · obtain ⟨m', rfl⟩ : ∃ m', m = m' + 1 := ⟨m - 1, by omega⟩
                simp only [setFrom, if_pos hle] at hgo
                have hr64 : modN n M < 64 := by have := modN_lt n (m := M) (by omega); omega
                have hmin : min (modN n M) 64 = modN n M := by omega
                have hor := u64_or_nat set (pow2 (modN n M)) hset (pow2_small hr64)
                have hw2 : IntKind.i64.wrap ((n : Int) + (sN : Int)) = ((n + sN : Nat) : Int) := by rw [wrap_i64 (by omega) (by omega)]; push_cast; rfl
                simp -implicitDefEqProofs [h8, h14, h18, h22, h23, hle, hwM, hM0, tmod_nat, hmin, shl_nat hr64, hor, hw2]
                exact AGo.again ih (m' := m') (by omega) (HLe.refl _) ⟨n + sN, set ||| pow2 (modN n M), by push_cast at *; omega, by omega, or_small hset (pow2_small hr64), by simp [h8], by simp [h14], by simp [h18], by simp, by simp, hgo, rfl⟩
              · have hgo' : (set, (0 : Int)) = res := by
                  cases m with
                  | zero => exact hgo
                  | succ m => simpa only [setFrom, if_neg hle] using hgo
                subst hgo'
                simp -implicitDefEqProofs [h18, h22, h23, hle]
                exact kW
      · rw [if_pos he] at hr
        subst hr
        simp -implicitDefEqProofs [he]
        refine go_draw 3 f_mixed (by decide +kernel) ?_
        simp -implicitDefEqProofs [h9, k9]
        exact kW
end Go.Proofs.YtlhgpodfhdddkaaGreatDoor
namespace Go.Proofs.YtlhgpodfhdddkaaGreatDoor
open Rg Go
variable {H : Heap}
theorem c_parse (hG : Glob H) (k : Int) (s : List UInt8) (hs : s.length ≤ 1000000) : AOk Tryz.prog 72 [.sc (.int .i64 k), str s] H (.tup [fAV (parseK k s).1, .sc (.int .i64 (parseK k s).2)]) H := by
  have hm : ∀ x ∈ Lib.split s [44], x.length ≤ 1000000 := fun x hx => Nat.le_trans (split_len _ _ _ x hx) hs
  have hL := split_length s [44] (by decide)
  refine ACalls.into Tryz.func72 rfl Tryz.ntmps72 Tryz.results72 (by simp) ?_
  simp -implicitDefEqProofs
  refine AAlloc.intro fun b4 h4 => ?_
  simp -implicitDefEqProofs
  refine ACall.eq (c_is k) ?_
  unfold parseK
  cases hk : isK k with
  | false =>
    simp -implicitDefEqProofs [fAV]
    exact HWk.new h4 (HWk.refl _)
  | true =>
    rw [if_neg (by simp)]
    by_cases hl : 150 < s.length
    · have hl' : (150 : Int) < s.length := by omega
      rw [if_pos hl]
      simp -implicitDefEqProofs [hl', fAV]
      exact HWk.new h4 (HWk.refl _)
    · have hl' : ¬ (150 : Int) < s.length := by omega
      rw [if_neg hl]
      simp -implicitDefEqProofs [hl']
      refine ACall.eq (c_hasPrefix s [42]) ?_
      simp -implicitDefEqProofs
      refine AAlloc.intro fun b6 h6 => ?_
      have n64 : b6 ≠ b4 := by intro e; subst e; simp [Heap.set] at h6
      have e6 : H b6 = none := (HLe.set_fresh h4).none h6
      simp -implicitDefEqProofs
      generalize hK : Heap.set _ b6 _ = K
      have k4 : K b4 = some (.cells [.sc (.int .u64 (0 : Nat)), .sc (.bool false)] 81) := by rw [← hK]; simp [Heap.set, n64.symm]
      have k6 : K b6 = some (.cells [.sc (.int .u64 (0 : Nat)), .sc (.bool (Lib.hasPrefix s [42]))] 81) := by rw [← hK]; simp [Heap.set]
      have kG : Glob K := by
        rw [← hK]
        refine hG.mono fun c us e => ?_
        have c4 : c ≠ b4 := by rintro rfl; rw [h4] at e; cases e
        have c6 : c ≠ b6 := by rintro rfl; rw [e6] at e; cases e
        simp [Heap.set, c4, c6, e]
      have kW : HWk H K := by rw [← hK]; exact HWk.new e6 (HWk.new h4 (HWk.refl _))
      clear hK
      refine ACall.eq (c_split kG s [44] (by omega) (by decide)) ?_
      generalize Lib.split s [44] = L at hm hL ⊢
      simp -implicitDefEqProofs
      generalize hres : parseGo k L _ = res
      refine AGo.rounds (fun m ρ K => ∃ (j : Nat) (f : Fld), j ≤ L.length ∧ m = L.length - j ∧ ρ 0 = .sc (.int .i64 k) ∧ ρ 4 = .sc (.pointer (some ⟨b4, 0, none⟩)) ∧ ρ 6 = .sc (.pointer (some ⟨b6, 0, none⟩)) ∧ ρ 25 = .sl (strL L) .no ∧ ρ 26 = .sc (.int .i64 L.length) ∧ ρ 27 = .sc (.int .i64 j) ∧
        f.bits < 18446744073709551616 ∧ parseGo k (L.drop j) f = res ∧ K b4 = some (.cells [.sc (.int .u64 (0 : Nat)), .sc (.bool false)] 81) ∧ K b6 = some (.cells [.sc (.int .u64 f.bits), .sc (.bool f.star)] 81) ∧ Glob K ∧ HWk H K) ?_ (m := L.length) (HLe.refl _)
        ⟨0, ⟨0, Lib.hasPrefix s [42]⟩, by omega, by omega, by simp, by simp, by simp, by simp, by simp, by simp, (by decide : (0 : Nat) < 18446744073709551616), by simpa using hres, k4, k6, kG, kW⟩
      clear k4 k6 kG kW
      rintro m ρ K ih ⟨j, f, hj, rfl, h0, h4', h6', h25, h26, h27, hf, hgo, k4, k6, kG, kW⟩
      by_cases hlt : j < L.length
      · have hmem : L[j] ∈ L := List.getElem_mem hlt
        rw [List.drop_eq_getElem_cons hlt] at hgo
        simp only [parseGo] at hgo
        have hor := u64_or_nat f.bits (itemK k L[j]).1 hf (itemK_lt hk L[j])
        simp -implicitDefEqProofs [h0, h25, h26, h27, hlt]
        refine ACall.eq (c_item kG hk L[j] (hm _ hmem)) ?_
        by_cases he : (itemK k L[j]).2 = 0
        · rw [if_neg (by simp [he])] at hgo
          have hw : IntKind.i64.wrap ((j : Int) + 1) = ((j + 1 : Nat) : Int) := by rw [wrap_i64 (by omega) (by omega)]; push_cast; rfl
          simp -implicitDefEqProofs [he, h6', k6, hor, h27, hw]
          refine AGo.again ih (m' := L.length - (j + 1)) (by omega) (HLe.refl _) ⟨j + 1, ⟨f.bits ||| (itemK k L[j]).1, f.star⟩, by omega, rfl, by simp [h0], by simp [h4'], by simp [h6'], by simp [h25], by simp [h26], by simp,
            or_small hf (itemK_lt hk _), hgo, by simp [Heap.set, n64.symm, k4], by simp [Heap.set], kG.set (by simp [k6]), HWk.new e6 kW⟩
        · rw [if_pos he] at hgo
          subst hgo
          simp -implicitDefEqProofs [he, h4', k4, fAV]
          exact HWk.new h4 kW
      · have hje : j = L.length := by omega
        subst hje
        simp only [List.drop_length, parseGo] at hgo
        subst hgo
        simp -implicitDefEqProofs [h4', h6', h26, h27, k6, k4, fAV]
        exact HWk.new h4 kW
end Go.Proofs.YtlhgpodfhdddkaaGreatDoor
namespace Go.Proofs.YtlhgpodfhdddkaaGreatDoor
open Rg Go
variable {H : Heap}
theorem szs_strs (l : List (List UInt8)) : szs 1 (strL l) = true := by
  simp [szs, AV.cells]
end Go.Proofs.YtlhgpodfhdddkaaGreatDoor
namespace Go.Proofs.YtlhgpodfhdddkaaGreatDoor
open Rg Go
variable {H : Heap}
end Go.Proofs.YtlhgpodfhdddkaaGreatDoor
namespace Go.Proofs.YtlhgpodfhdddkaaGreatDoor
open Rg Go
def sp (c : UInt8) : List UInt8 → List (List UInt8)
  | [] => [[]]
  | x :: r => if x = c then [] :: sp c r else match sp c r with
    | [] => [[x]]
    | h :: t => (x :: h) :: t
def ct (c : UInt8) : List UInt8 → List UInt8 × List UInt8 × Bool
  | [] => ([], [], false)
  | x :: r => if x = c then ([], r, true) else (x :: (ct c r).1, (ct c r).2)
theorem index_eq (c : UInt8) (l : List UInt8) : Lib.index (c :: l) [c] = 0 := by rw [Lib.index]; simp [List.isPrefixOf]
theorem index_ne {b c : UInt8} (l : List UInt8) (h : b ≠ c) : Lib.index (b :: l) [c] = if Lib.index l [c] == -1 then -1 else Lib.index l [c] + 1 := by
  rw [Lib.index]
  simp [List.isPrefixOf, Ne.symm h]
theorem split_sp (c : UInt8) : ∀ s : List UInt8, Lib.split s [c] = sp c s
  | [] => by simp [Lib.split, sp, Lib.count_one, Lib.splitK]
  | x :: r => by
    have ih := split_sp c r
    unfold Lib.split at ih ⊢
    by_cases hx : x = c
    · subst hx
      rw [Lib.count_cons_eq, Nat.add_comm 1]
      simp only [Lib.splitK, index_eq, sp, if_true]
      rw [if_neg (by decide)]
      simp [← ih]
    · rw [Lib.count_cons_ne _ _ _ hx]
      simp only [sp, if_neg hx, ← ih]
      cases hk : Lib.count r [c] with
      | zero => simp [Lib.splitK]
      | succ k =>
        have hi : Lib.index r [c] ≠ -1 := fun h => by rw [Lib.count_miss h] at hk; cases hk
        have hge := Lib.index_ge r [c]
        obtain ⟨j, hj⟩ : ∃ j : Nat, Lib.index r [c] = j := ⟨(Lib.index r [c]).toNat, by omega⟩
        have hne : ¬ ((j : Int) == -1) = true := by simp
        simp only [Lib.splitK, index_ne r hx, hj, if_neg hne]
        have hne2 : ¬ ((j : Int) + 1 == -1) = true := by simp; omega
        rw [if_neg hne2]
        have e : ((j : Int) + 1).toNat = j + 1 := by omega
        simp [e]
theorem cut_ct (c : UInt8) : ∀ s : List UInt8, Lib.cut s [c] = ct c s
  | [] => by simp [Lib.cut, ct, Lib.index]
  | x :: r => by
    have ih := cut_ct c r
    unfold Lib.cut at ih ⊢
    by_cases hx : x = c
    · subst hx
      simp [index_eq, ct]
    · simp only [ct, if_neg hx, ← ih, index_ne r hx]
      by_cases hi : Lib.index r [c] = -1
      · simp [hi]
      · have hge := Lib.index_ge r [c]
        obtain ⟨j, hj⟩ : ∃ j : Nat, Lib.index r [c] = j := ⟨(Lib.index r [c]).toNat, by omega⟩
        have hne : ¬ ((j : Int) == -1) = true := by simp
        rw [hj, if_neg hne, if_pos (by omega), if_pos (by omega)]
        have e : ((j : Int) + 1).toNat = j + 1 := by omega
        simp [e]
theorem ct_not {c : UInt8} : ∀ {s : List UInt8}, c ∉ s → ct c s = (s, [], false)
  | [], _ => rfl
  | x :: r, h => by
    simp only [List.mem_cons, not_or] at h
    simp [ct, if_neg (Ne.symm h.1), ct_not h.2]
theorem ct_app {c : UInt8} {b : List UInt8} : ∀ {a : List UInt8}, c ∉ a → ct c (a ++ c :: b) = (a, b, true)
  | [], _ => by simp [ct]
  | x :: r, h => by
    simp only [List.mem_cons, not_or] at h
    simp [ct, if_neg (Ne.symm h.1), ct_app h.2]
theorem sp_ne (c : UInt8) : ∀ s : List UInt8, sp c s ≠ []
  | [] => by simp [sp]
  | x :: r => by
    unfold sp
    split
    · simp
    · split <;> simp
theorem sp_app (c : UInt8) (b : List UInt8) : ∀ a : List UInt8, sp c (a ++ c :: b) = sp c a ++ sp c b
  | [] => by simp [sp]
  | x :: r => by
    have ih := sp_app c b r
    simp only [List.cons_append, sp, ih]
    split
    · rfl
    · cases h : sp c r with
      | nil => exact absurd h (sp_ne c r)
      | cons y t => rfl
theorem sp_not {c : UInt8} : ∀ {s : List UInt8}, c ∉ s → sp c s = [s]
  | [], _ => rfl
  | x :: r, h => by
    simp only [List.mem_cons, not_or] at h
    simp [sp, if_neg (Ne.symm h.1), sp_not h.2]
end Go.Proofs.YtlhgpodfhdddkaaGreatDoor
namespace Go.Proofs.YtlhgpodfhdddkaaGreatDoor
open Rg Go
theorem hasB_nat2 (b k : Nat) (hk : k ≤ 63) : hasB b (k : Int) = b.testBit k := by
  simp [hasB]; omega
theorem testBit_pow2 (i j : Nat) : (pow2 i).testBit j = decide (i = j) := by
  unfold pow2
  rw [Nat.testBit_two_pow]
end Go.Proofs.YtlhgpodfhdddkaaGreatDoor
namespace Go.Proofs.YtlhgpodfhdddkaaGreatDoor
open Rg Go
end Go.Proofs.YtlhgpodfhdddkaaGreatDoor
namespace Go.Proofs.YtlhgpodfhdddkaaGreatDoor
open Rg Go
end Go.Proofs.YtlhgpodfhdddkaaGreatDoor
namespace Go.Proofs.YtlhgpodfhdddkaaGreatDoor
open Rg Go
def leapN (y : Nat) : Bool := (y % 4 == 0 && !(y % 100 == 0)) || y % 400 == 0
def mLong (y m : Nat) : Nat := if m = 2 ∧ leapN y = true then 29 else [0, 31, 28, 31, 30, 31, 30, 31, 31, 30, 31, 30, 31].getD m 0
def gD (x : Nat) : Nat := x - x / 1460 + x / 36524 - x / 146096
def mLen (i : Nat) : Nat := mLong (1970 + i / 12) (i % 12 + 1)
end Go.Proofs.YtlhgpodfhdddkaaGreatDoor
namespace Go.Proofs.YtlhgpodfhdddkaaGreatDoor
open Rg Go
variable {H : Heap}
def i64 (n : Int) : AV := .sc (.int .i64 n)
end Go.Proofs.YtlhgpodfhdddkaaGreatDoor
namespace Go.Proofs.YtlhgpodfhdddkaaGreatDoor
open Rg Go
variable {H : Heap}
end Go.Proofs.YtlhgpodfhdddkaaGreatDoor
namespace Go.Proofs.YtlhgpodfhdddkaaGreatDoor
open Rg Go
variable {H : Heap}
end Go.Proofs.YtlhgpodfhdddkaaGreatDoor
namespace Go.Proofs.YtlhgpodfhdddkaaGreatDoor
open Rg Go
variable {H : Heap}
end Go.Proofs.YtlhgpodfhdddkaaGreatDoor
namespace Go.Proofs.YtlhgpodfhdddkaaGreatDoor
open Rg Go
variable {H : Heap}
end Go.Proofs.YtlhgpodfhdddkaaGreatDoor
namespace Go.Proofs.YtlhgpodfhdddkaaGreatDoor
open Rg Go
variable {H : Heap}
end Go.Proofs.YtlhgpodfhdddkaaGreatDoor
namespace Go.Proofs.YtlhgpodfhdddkaaGreatDoor
open Rg Go
variable {H : Heap}
end Go.Proofs.YtlhgpodfhdddkaaGreatDoor
namespace Go.Proofs.YtlhgpodfhdddkaaGreatDoor
open Rg Go
variable {H : Heap}
structure Ex where
  a : Fld
  b : Fld
  c : Fld
  d : Fld
  e : Fld
deriving DecidableEq
abbrev exC (x : Ex) : List AV := [.sc (.int .u64 x.a.bits), .sc (.bool x.a.star), .sc (.int .u64 x.b.bits), .sc (.bool x.b.star), .sc (.int .u64 x.c.bits), .sc (.bool x.c.star), .sc (.int .u64 x.d.bits), .sc (.bool x.d.star), .sc (.int .u64 x.e.bits), .sc (.bool x.e.star)]
abbrev exAV (x : Ex) : AV := .agg (exC x)
def Ex.get (x : Ex) : Nat → Fld
  | 0 => x.a
  | 1 => x.b
  | 2 => x.c
  | 3 => x.d
  | _ => x.e
structure Ex.ok (x : Ex) : Prop where
  a : x.a.bits < 18446744073709551616
  b : x.b.bits < 18446744073709551616
  c : x.c.bits < 18446744073709551616
  d : x.d.bits < 18446744073709551616
  e : x.e.bits < 18446744073709551616
def f0 : Fld := ⟨0, false⟩
def ex0 : Ex := ⟨f0, f0, f0, f0, f0⟩
theorem lt_succ_all {P : Nat → Prop} {k : Nat} (h : ∀ i, i < k → P i) (hk : P k) : ∀ i, i < k + 1 → P i := fun i hi => by
  by_cases e : i = k
  · subst e; exact hk
  · exact h i (by omega)
end Go.Proofs.YtlhgpodfhdddkaaGreatDoor
namespace Go.Proofs.YtlhgpodfhdddkaaGreatDoor
open Rg Go
end Go.Proofs.YtlhgpodfhdddkaaGreatDoor
namespace Go.Proofs.YtlhgpodfhdddkaaGreatDoor
open Rg Go
section
variable {x : Ex} {t n mm h m D : Nat}
end
section
variable {x : Ex} {t n mm h m D : Nat}
end
end Go.Proofs.YtlhgpodfhdddkaaGreatDoor
namespace Go.Proofs.YtlhgpodfhdddkaaGreatDoor
open Rg Go
variable {H : Heap}
end Go.Proofs.YtlhgpodfhdddkaaGreatDoor
