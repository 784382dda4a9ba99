/- The kit's contracts on Go's library, over lists of bytes; what the package variables hold. strings.Map in field.number. -/
import Derived.Test.YtmoncokklkiikaaGreatDoorP08
import Derived.Test.YtmoncokklkiikaaGreatDoorP11
import Derived.Test.YtmoncokklkiikaaGreatDoorP12
import Derived.Lib.AtoiErrMem
import Derived.WalkKit
import Derived.WalkSpells
set_option linter.unusedSimpArgs false
set_option linter.unusedVariables false
set_option linter.unnecessarySimpa false
namespace Go.Proofs.YtmoncokklkiikaaGreatDoor
open Rg Go Go.RowKit
abbrev str (l : List UInt8) : AV := .sc (.string ⟨l.toArray⟩)
abbrev strL (l : List (List UInt8)) : List AV := l.map str
structure Glob (H : Heap) : Prop where
  maxLen : ∃ m, H 4 = some (.ro [.int .i64 m])
  ctz : ∃ us, H 0 = some (.ro us) ∧ ∀ j, j < Lib.deBruijn64tab.length → us[j]? = some (.int .u8 (Lib.deBruijn64tab.getD j 0))
  first : ∃ us, H 5 = some (.ro us) ∧ ∀ c, c < 256 → us[c]? = some (.int .u8 (Lib.firstT c))
  accept : ∃ us, H 6 = some (.ro us) ∧ ∀ i, i < 16 → us[2 * i]? = some (.int .u8 (Lib.accLo i)) ∧ us[2 * i + 1]? = some (.int .u8 (Lib.accHi i))
theorem Glob.mono {H K : Heap} (h : Glob H) (hk : ∀ b us, H b = some (.ro us) → K b = some (.ro us)) : Glob K := by
  obtain ⟨⟨m, h1⟩, ⟨u2, h2, g2⟩, ⟨u3, h3, g3⟩, ⟨u4, h4, g4⟩⟩ := h
  exact ⟨⟨m, hk _ _ h1⟩, ⟨u2, hk _ _ h2, g2⟩, ⟨u3, hk _ _ h3, g3⟩, ⟨u4, hk _ _ h4, g4⟩⟩
theorem Glob.le {H K : Heap} (h : Glob H) (hk : HLe H K) : Glob K := h.mono fun b us e => hk b _ e
theorem Glob.set {H : Heap} {b : Nat} {o : AObj} (h : Glob H) (hb : ∀ us, H b ≠ some (.ro us)) : Glob (H.set b o) := h.mono fun c us e => by
  unfold Heap.set
  split
  · rename_i hc; subst hc; exact absurd e (hb us)
  · exact e
theorem Glob.new {H : Heap} {b : Nat} {o : AObj} (h : Glob H) (hb : H b = none) : Glob (H.set b o) := h.le (HLe.set_fresh hb)
theorem Glob.del {H : Heap} {b : Nat} (h : Glob H) (hb : ∀ us, H b ≠ some (.ro us)) : Glob (H.del b) := h.mono fun c us e => by
  unfold Heap.del
  split
  · rename_i hc; subst hc; exact absurd e (hb us)
  · exact e
variable {W0 w : World} {C : Com} {H : Heap}
theorem Glob.mLen (h : Glob H) (hi : Inv W0 C H w) : ∃ m, w.cell? ⟨4, 0, none⟩ = some (.int .i64 m) := by
  obtain ⟨m, hm⟩ := h.maxLen
  exact ⟨m, hi.ro hm rfl⟩
theorem Glob.utf8 (h : Glob H) (hi : Inv W0 C H w) : Lib.Utf8Tabs 5 6 w := by
  obtain ⟨u3, h3, g3⟩ := h.first
  obtain ⟨u4, h4, g4⟩ := h.accept
  exact ⟨fun c hc => hi.ro h3 (g3 c hc), fun i hi' => ⟨hi.ro h4 (g4 i hi').1, hi.ro h4 (g4 i hi').2⟩⟩
theorem Glob.tab (h : Glob H) (hi : Inv W0 C H w) : TabAt 0 Lib.deBruijn64tab w := by
  obtain ⟨u, h1, g1⟩ := h.ctz
  exact fun j hj => hi.ro h1 (g1 j hj)
theorem c_hasPrefix (s p : List UInt8) : AOk Tryz.prog 86 [str s, str p] H (.sc (.bool (Lib.hasPrefix s p))) H :=
  AOk.kit (vs := [.string ⟨s.toArray⟩, .string ⟨p.toArray⟩]) (r := .bool (Lib.hasPrefix s p)) fun W0 C w _ => (Tryz.strings_HasPrefix ⟨s.toArray⟩ ⟨p.toArray⟩ w).mono fun e w' ⟨h1, h2⟩ => ⟨h1, h2 ▸ Below.refl _ _⟩
theorem c_cut (hG : Glob H) (s p : List UInt8) (hs : s.length < 4294967281) : AOk Tryz.prog 187 [str s, str p] H (.tup [str (Lib.cut s p).1, str (Lib.cut s p).2.1, .sc (.bool (Lib.cut s p).2.2)]) H :=
  AOk.kit (vs := [.string ⟨s.toArray⟩, .string ⟨p.toArray⟩]) (r := .tuple #[.string ⟨(Lib.cut s p).1.toArray⟩, .string ⟨(Lib.cut s p).2.1.toArray⟩, .bool (Lib.cut s p).2.2]) fun W0 C w hi => by
    obtain ⟨m, hm⟩ := hG.mLen hi
    refine (Tryz.strings_Cut ⟨s.toArray⟩ ⟨p.toArray⟩ m w (by simpa [Lib.size_eq] using hs) hm).mono fun e w' ⟨h1, n, h2⟩ => ⟨h1, h2 ▸ below_drewN w n⟩
theorem splitB_list (s p : List UInt8) : Lib.splitB ⟨p.toArray⟩ 0 (Lib.countB ⟨s.toArray⟩ ⟨p.toArray⟩) ⟨s.toArray⟩ = (Lib.split s p).map fun l => ⟨l.toArray⟩ := by
  have h := Lib.splitB_data ⟨p.toArray⟩ 0 (Lib.countB ⟨s.toArray⟩ ⟨p.toArray⟩) ⟨s.toArray⟩
  have h2 : Lib.split s p = (Lib.splitB ⟨p.toArray⟩ 0 (Lib.countB ⟨s.toArray⟩ ⟨p.toArray⟩) ⟨s.toArray⟩).map (·.data.toList) := h.symm
  rw [h2, List.map_map]
  exact (List.map_id' _).symm
theorem split_length (s p : List UInt8) (hp : 1 ≤ p.length) : (Lib.split s p).length ≤ s.length + 1 := by
  have hp1 : 1 ≤ (⟨p.toArray⟩ : ByteArray).size := by simpa [Lib.size_eq] using hp
  have hlen := Lib.splitB_all ⟨p.toArray⟩ hp1 0 _ ⟨s.toArray⟩ rfl
  have hle := Lib.countB_le ⟨p.toArray⟩ hp1 _ ⟨s.toArray⟩ (Nat.le_refl _)
  rw [splitB_list, List.length_map] at hlen
  rw [ba_size] at hle
  omega
theorem c_split (hG : Glob H) (s p : List UInt8) (hs : s.length < 4294967281) (hp : 1 ≤ p.length) : AOk Tryz.prog 88 [str s, str p] H (.sl (strL (Lib.split s p)) .no) H := by
  have hsz : (⟨s.toArray⟩ : ByteArray).size = s.length := by simp [Lib.size_eq]
  have hp1 : 1 ≤ (⟨p.toArray⟩ : ByteArray).size := by simpa [Lib.size_eq] using hp
  have hlen := Lib.splitB_all ⟨p.toArray⟩ hp1 0 _ ⟨s.toArray⟩ rfl
  have hle := Lib.countB_le ⟨p.toArray⟩ hp1 _ ⟨s.toArray⟩ (Nat.le_refl _)
  have e : strL (Lib.split s p) = (Lib.splitB ⟨p.toArray⟩ 0 (Lib.countB ⟨s.toArray⟩ ⟨p.toArray⟩) ⟨s.toArray⟩).map strAV := by rw [splitB_list]; simp [Function.comp_def]
  rw [e]
  refine AOk.kitStrs (vs := [.string ⟨s.toArray⟩, .string ⟨p.toArray⟩]) (T := 9) (by rw [hlen, hsz] at *; unfold maxLen; omega) fun W0 C w hi => ?_
  obtain ⟨m, hm⟩ := hG.mLen hi
  refine (Tryz.strings_Split ⟨s.toArray⟩ ⟨p.toArray⟩ m w (by rw [hsz]; exact hs) hm hp1).mono fun e w' ⟨h1, h2⟩ => ⟨?_, h2⟩
  rw [h1, hlen]
theorem c_trim (s p : List UInt8) (hs : s.length ≤ 9223372036854775807) (hp : p.length < 4294967281) (ha : ∀ b ∈ p, b.toNat < 128) : AOk Tryz.prog 216 [str s, str p] H (str (Lib.trimS s p)) H :=
  AOk.kit (vs := [.string ⟨s.toArray⟩, .string ⟨p.toArray⟩]) (r := .string ⟨(Lib.trimS s p).toArray⟩) fun W0 C w hi =>
    (Any.strings_Trim_laid Tryz.lays160 (by kernel_rfl) ⟨s.toArray⟩ ⟨p.toArray⟩ w (by simpa [Lib.size_eq] using hs) (by simpa [Lib.size_eq] using hp) (fun j b hb => ha b (List.mem_of_getElem? hb))).mono fun e w' h => h
theorem c_atoi (s : List UInt8) (n : Int) (hs : s.length ≤ 18) (h : Lib.atoi s = some n) : AOk Tryz.prog 217 [str s] H (.tup [.sc (.int .i64 n), .sc .nilIface]) H :=
  AOk.kit (vs := [.string ⟨s.toArray⟩]) (r := .tuple #[.int .i64 n, .nilIface]) fun W0 C w hi =>
    (Tryz.strconv_Atoi ⟨s.toArray⟩ n (by simpa [Lib.size_eq] using hs) h w).mono fun e w' ⟨h1, t, h2⟩ => ⟨h1, h2 ▸ Lib.bytesWorld_below w _ t⟩
theorem c_itoa (i : Nat) (hi : i < 100) : AOk Tryz.prog 160 [.sc (.int .i64 i)] H (str (Lib.decDigits i)) H :=
  AOk.kit (vs := [.int .i64 i]) (r := .string ⟨(Lib.decDigits i).toArray⟩) fun W0 C w _ => (Tryz.strconv_Itoa_small i hi w).mono fun e w' ⟨h1, h2⟩ => ⟨h1, h2 ▸ Below.refl _ _⟩
theorem c_len64 (x : Int) (h0 : 0 ≤ x) (h1 : x ≤ 18446744073709551615) : AOk Tryz.prog 179 [.sc (.int .u64 x)] H (.sc (.int .i64 (Lib.bitLen x.toNat))) H :=
  AOk.kit (vs := [.int .u64 x]) (r := .int .i64 (Lib.bitLen x.toNat)) fun W0 C w _ => (Tryz.bits_Len64 x w h0 h1).mono fun e w' ⟨h1, h2⟩ => ⟨h1, h2 ▸ Below.refl _ _⟩
theorem c_ctz64 (hG : Glob H) (x : Nat) (hx : x < 18446744073709551616) : AOk Tryz.prog 191 [.sc (.int .u64 x)] H (.sc (.int .i64 (Lib.ctz 64 x))) H :=
  AOk.kit (vs := [.int .u64 x]) (r := .int .i64 (Lib.ctz 64 x)) fun W0 C w hi => (Any7.bits_TrailingZeros64 Tryz.lays7x29 x hx w (fun _ => hG.tab hi)).mono fun e w' ⟨h1, h2⟩ => ⟨h1, h2 ▸ Below.refl _ _⟩
theorem c_index (zs : List (List UInt8)) (t : Tok) (x : List UInt8) (hz : zs.length ≤ 9223372036854775807) : AOk Tryz.prog 220 [.sl (strL zs) t, str x] H (.sc (.int .i64 (Lib.idxOfS (zs.map fun l => ⟨l.toArray⟩) ⟨x.toArray⟩))) H := by
  intro W0 C w us hi ha
  obtain ⟨v, us', rfl, hv, hr⟩ := ha.uncons
  obtain ⟨v2, us'', rfl, hv2, hr⟩ := hr.uncons
  obtain rfl := hr.nil_inv
  obtain rfl := hv2.sc_inv
  have hv' : Rel C (.sl ((zs.map fun l => (⟨l.toArray⟩ : ByteArray)).map strAV) t) v := by simpa [Function.comp_def] using hv
  obtain ⟨a, cap, rfl, h1, h2, h3⟩ := strs_open hi hv'
  have fin : ∀ (e : Ending) (w' : World), (e = .returned (.int .i64 (Lib.idxOfS (zs.map fun l => ⟨l.toArray⟩) ⟨x.toArray⟩)) ∧ w' = w) → ∃ r H' C' v, e = .returned v ∧ ROk (.sc (.int .i64 (Lib.idxOfS (zs.map fun l => ⟨l.toArray⟩) ⟨x.toArray⟩))) H r H' ∧ CLe C C' ∧ Rel C' r v ∧ Inv W0 C' H' w' := by
    rintro e w' ⟨rfl, rfl⟩
    exact ⟨_, _, C, _, rfl, ⟨rfl, rfl⟩, CLe.refl C, Rel.sc _, hi⟩
  rcases h3 with h3 | ⟨b, o, rfl, hb, hc⟩
  · have hz0 : zs = [] := by simpa using h3
    subst hz0
    exact .inl ((Tryz.slices_Index_string_empty a cap ⟨x.toArray⟩ w).mono fin)
  · have key := Tryz.slices_Index_string b o (zs.map fun l => (⟨l.toArray⟩ : ByteArray)).length cap (zs.map fun l => ⟨l.toArray⟩) ⟨x.toArray⟩ w (Nat.le_refl _) (by rw [List.length_map]; exact hz) (fun j hj => by
      rw [hc j _ (List.getElem?_eq_getElem hj), List.getD_eq_getElem?_getD, List.getElem?_eq_getElem hj]
      rfl)
    rw [List.take_length] at key
    exact .inl (key.mono fin)
theorem c_join (xs : List (List UInt8)) (t : Tok) (sep : List UInt8) (hN : xs.length ≤ 140737488355328) (hl : (Lib.join xs sep).length ≤ 140737488355328) : AOk Tryz.prog 117 [.sl (strL xs) t, str sep] H (str (Lib.join xs sep)) H := by
  intro W0 C w us hi ha
  obtain ⟨v, us', rfl, hv, hr⟩ := ha.uncons
  obtain ⟨v2, us'', rfl, hv2, hr⟩ := hr.uncons
  obtain rfl := hr.nil_inv
  obtain rfl := hv2.sc_inv
  have hv' : Rel C (.sl ((xs.map fun l => (⟨l.toArray⟩ : ByteArray)).map strAV) t) v := by simpa [Function.comp_def] using hv
  obtain ⟨a, cap, rfl, h1, h2, h3⟩ := strs_open hi hv'
  have fin : ∀ (e : Ending) (w' : World), (e = .returned (.string ⟨(Lib.join xs sep).toArray⟩) ∧ Below w.heap.size w w') → ∃ r H' C' v, e = .returned v ∧ ROk (str (Lib.join xs sep)) H r H' ∧ CLe C C' ∧ Rel C' r v ∧ Inv W0 C' H' w' := by
    rintro e w' ⟨rfl, hb⟩
    exact ⟨_, _, C, _, rfl, ⟨rfl, rfl⟩, CLe.refl C, Rel.sc _, hi.step hb⟩
  have hm : ((xs.map fun l => (⟨l.toArray⟩ : ByteArray)).map (·.data.toList)) = xs := by simp [Function.comp_def]
  rcases h3 with h3 | ⟨b, o, rfl, hb, hc⟩
  · have hz0 : xs = [] := by simpa using h3
    subst hz0
    exact .inl <| (Tryz.strings_Join_none a cap ⟨sep.toArray⟩ w).mono fun e w' ⟨h1, h2⟩ => fin e w' ⟨h1, h2 ▸ Below.refl _ _⟩
  · have key := Tryz.strings_Join b o cap (xs.map fun l => ⟨l.toArray⟩) ⟨sep.toArray⟩ w hc hb (by rw [List.length_map]; exact hN) h1 (by rw [hm]; exact hl)
    rw [hm] at key
    exact .inl (key.mono fin)
end Go.Proofs.YtmoncokklkiikaaGreatDoor
namespace Go.Proofs.YtmoncokklkiikaaGreatDoor
open Rg Go Go.RowKit
def lowR (x : Int) : Int := if 65 ≤ x ∧ x ≤ 90 then x + 32 else x
set_option maxHeartbeats 400000 in
theorem map_fn (x : Nat) (hx : x ≤ 1114111) (w : World) : Calls Tryz.prog 219 #[.int .i32 x] w fun e w' => e = .returned (.int .i32 (lowR x)) ∧ w' = w := by
  by_cases h1 : 65 ≤ x
  · by_cases h2 : x ≤ 90
    · have e : lowR x = x + 32 := by unfold lowR; rw [if_pos (by omega)]
      rw [e]
      go_enter Tryz.func219, Tryz.ntmps219
      go_wp2
      go_ret
      exact ⟨rfl, rfl⟩
    · have e : lowR x = x := by unfold lowR; rw [if_neg (by omega)]
      rw [e]
      go_enter Tryz.func219, Tryz.ntmps219
      go_wp2
      go_ret
      exact ⟨rfl, rfl⟩
  · have e : lowR x = x := by unfold lowR; rw [if_neg (by omega)]
    rw [e]
    go_enter Tryz.func219, Tryz.ntmps219
    go_wp2
    go_ret
    exact ⟨rfl, rfl⟩
theorem lowR_range (x : Nat) (hx : x ≤ 1114111) : 0 ≤ lowR x ∧ lowR x ≤ 2147483647 := by
  unfold lowR; split <;> omega
theorem c_map {H : Heap} (hG : Glob H) (s : List UInt8) (hs : s.length < 35184372088832) : AOk Tryz.prog 218 [.sc (.func (.func 219) #[] #[]), str s] H (str (Lib.mapD lowR s)) H :=
  AOk.kit (vs := [.func (.func 219) #[] #[], .string ⟨s.toArray⟩]) (r := .string ⟨(Lib.mapD lowR s).toArray⟩) fun W0 C w hi =>
    Tryz.strings_Map_runes 219 #[] (fun args w => enters_of Tryz.func219 (by kernel_rfl) rfl args w) lowR ⟨s.toArray⟩ w (by simpa [Lib.size_eq] using hs)
      (fun W x hx _ => (map_fn x hx W).mono fun e w' ⟨h1, h2⟩ => ⟨h1, 0, h2⟩) lowR_range (hG.utf8 hi)
end Go.Proofs.YtmoncokklkiikaaGreatDoor
