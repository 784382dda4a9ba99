/- What a law's arguments are. What a law's arguments are: expressions, clocks. A row that lists one package variable alone. A row that lists two tables: the bits' and the powers of ten. A row that lists two tables and strconv's two errors. -/
import Derived.Test.YtmoncokklkiikaaGreatDoorP13
import Derived.Test.YtmoncokklkiikaaGreatDoorP22
import Derived.Test.YtmoncokklkiikaaGreatDoorTie
import Derived.Test.YtmoncokklkiikaaGreatDoorCards
import Derived.Test.YtmoncokklkiikaaGreatDoorP15
import Derived.Test.YtmoncokklkiikaaGreatDoorP18
import Derived.Test.YtmoncokklkiikaaGreatDoorP20
import Derived.Test.YtmoncokklkiikaaGreatDoorP21
set_option linter.unusedSimpArgs false
set_option linter.unusedVariables false
set_option linter.unnecessarySimpa false
namespace Go.Proofs.YtmoncokklkiikaaGreatDoor
open Rg Go Go.RowKit
theorem laidOut : laidOutB Tryz.prog = true := by kernel_rfl
theorem fits_i64 {a : AV} (h : fits (.int .i64) a) : ∃ n : Int, a = .sc (.int .i64 n) ∧ -9223372036854775808 ≤ n ∧ n ≤ 9223372036854775807 := by
  simp only [fits] at h
  obtain ⟨n, rfl, h⟩ := h
  exact ⟨n, rfl, by simpa [Lit.wf, IntKind.min, IntKind.max, IntKind.bits, IntKind.signed] using h⟩
theorem fits_str {a : AV} (h : fits .str a) : ∃ s : List UInt8, a = str s ∧ s.length ≤ maxLen := by
  simp only [fits] at h
  obtain ⟨s, rfl, h⟩ := h
  refine ⟨s.data.toList, rfl, ?_⟩
  rw [Lib.size_eq] at h
  exact h
theorem bool_type : Tryz.prog.underlying 4 = some .bool := by kernel_rfl
end Go.Proofs.YtmoncokklkiikaaGreatDoor
namespace Go.Proofs.YtmoncokklkiikaaGreatDoor
open Rg Go
end Go.Proofs.YtmoncokklkiikaaGreatDoor
namespace Go.Proofs.YtmoncokklkiikaaGreatDoor
open Rg Go Go.RowKit
end Go.Proofs.YtmoncokklkiikaaGreatDoor
namespace Go.Proofs.YtmoncokklkiikaaGreatDoor
open Rg Go Go.RowKit
theorem eq_pow : (Rows.laid_internal_strconv_uint64pow10 : DataW Unit) = Lib.tabData .u64 Lib.pow10Tab := by kernel_rfl
def powUs : List Value := Lib.pow10Tab.map fun z => Value.int .u64 z
def groZ : Heap := fun b => if b = 0 then some (.ro ctzUs) else if b = 1 then some (.ro powUs) else none
theorem globZ_gro : GlobZ groZ := by
  refine ⟨⟨ctzUs, rfl, fun j hj => ?_⟩, rfl⟩
  simp only [ctzUs, List.getElem?_map, List.getD_eq_getElem?_getD, List.getElem?_eq_getElem hj]
  rfl
theorem pow_whole {W : World} {l : List (String × DataW Unit)} (hL : laidMet Tryz.prog l W) (h1 : ("internal/strconv.uint64pow10", Rows.laid_internal_strconv_uint64pow10) ∈ l) : ∃ T fr, W.heap[1]? = some (.cells powUs.toArray T fr) := by
  obtain ⟨g, t, cs, fuel, p, hg, hty, hvar, hd⟩ := Lib.laidMet.reads hL h1
  obtain rfl : 1 = g := Option.some.inj ((show Tryz.prog.globalNamed "internal/strconv.uint64pow10" = some 1 by kernel_rfl).symm.trans hg)
  obtain rfl : 287 = t := Option.some.inj ((show (Tryz.prog.globals[1]?).map (·.type) = some 287 by kernel_rfl).symm.trans hty)
  rw [eq_pow] at hd
  have hcs := Lib.cells_of_tab (e := 22) (n := 20) (by kernel_rfl) (by kernel_rfl) (by kernel_rfl) (by kernel_rfl) hd
  unfold World.var? at hvar
  rw [hg] at hvar
  simp only [Option.bind_some] at hvar
  split at hvar
  · rename_i cs' T fr hh
    cases hvar
    refine ⟨T, fr, ?_⟩
    rw [hh]
    congr 2
    rw [← Array.toList_inj, hcs]
    rfl
  · cases hvar
theorem groZ_reads {W : World} {l : List (String × DataW Unit)} (hL : laidMet Tryz.prog l W) (h1 : ("math/bits.deBruijn64tab", Rows.laid_math_bits_deBruijn64tab) ∈ l) (h2 : ("internal/strconv.uint64pow10", Rows.laid_internal_strconv_uint64pow10) ∈ l) : Reads W groZ := by
  refine fun b ob e => ?_
  unfold groZ at e
  split at e
  · rename_i hb
    subst hb; cases e
    exact ⟨ctzUs, rfl, by decide +kernel, by decide +kernel, ctz_reads hL h1, fun h => absurd h (by decide +kernel)⟩
  · split at e
    · rename_i hb
      subst hb; cases e
      obtain ⟨T, fr, hw⟩ := pow_whole hL h2
      refine ⟨powUs, rfl, by simp [powUs, Lib.pow10Tab], by simp [powUs, Value.oneCell'], fun j u hu => ?_, fun _ => ⟨T, fr, hw⟩⟩
      unfold World.cell?
      simp only [hw]
      simpa using hu
    · cases e
theorem fits_chs : ∀ {xs : List AV}, (∀ x ∈ xs, fits (.st [.int .i64, .int .i64]) x) → ∃ L : List (Int × Int), xs = L.map chAV ∧ ∀ c ∈ L, -9223372036854775808 ≤ c.1 ∧ c.1 ≤ 9223372036854775807 ∧ -9223372036854775808 ≤ c.2 ∧ c.2 ≤ 9223372036854775807
  | [], _ => ⟨[], rfl, by simp⟩
  | x :: r, h => by
    have hx := h x (by simp)
    rw [fits] at hx
    obtain ⟨cs, rfl, hx⟩ := hx
    simp only [fitsL] at hx
    obtain ⟨a0, r0, rfl, h0, a1, r1, rfl, h1, rfl⟩ := hx
    obtain ⟨a, rfl, ha⟩ := fits_i64 h0
    obtain ⟨b, rfl, hb⟩ := fits_i64 h1
    obtain ⟨L, rfl, hL⟩ := fits_chs (xs := r) fun y hy => h y (List.mem_cons_of_mem _ hy)
    refine ⟨(a, b) :: L, by simp [AV.cells], fun c hc => ?_⟩
    rcases List.mem_cons.1 hc with e | hc
    · subst e; exact ⟨ha.1, ha.2, hb.1, hb.2⟩
    · exact hL c hc
theorem fits_zone {a : AV} (h : fits (.st [.int .i64, .sl (.st [.int .i64, .int .i64])]) a) : ∃ z : Zn, a = zAV z .no ∧ -9223372036854775808 ≤ z.first ∧ z.first ≤ 9223372036854775807 := by
  rw [fits] at h
  obtain ⟨cs, rfl, h⟩ := h
  simp only [fitsL] at h
  obtain ⟨a0, r0, rfl, h0, a1, r1, rfl, h1, rfl⟩ := h
  obtain ⟨f, rfl, hf⟩ := fits_i64 h0
  rw [fits] at h1
  obtain ⟨xs, rfl, _, h1⟩ := h1
  obtain ⟨L, rfl, _⟩ := fits_chs h1
  exact ⟨⟨f, L⟩, by simp [AV.cells], hf.1, hf.2⟩
end Go.Proofs.YtmoncokklkiikaaGreatDoor
namespace Go.Proofs.YtmoncokklkiikaaGreatDoor
open Rg Go Go.RowKit
theorem iface_of_trod {H : Type} {enc : TypeId × Value → H} {P : Program} {w : World} {base : Nat} {sp : Nat → Bool} {fuel : Nat} {t : TypeId} {cs : List Value} {n : String} {d : DataW H} {p : List MemPlace}
    (ht : ∃ ms, P.underlying t = some (.interface ms)) (h : DataW.trod enc P w base sp false fuel t cs = some (.iface n d, p)) : ∃ u v, cs = [.iface u v] := by
  obtain ⟨ms, ht⟩ := ht
  cases fuel with
  | zero => simp [DataW.trod] at h
  | succ m =>
    match cs, h with
    | [], h => simp [DataW.trod, ht] at h
    | [c], h => cases c <;> first | exact ⟨_, _, rfl⟩ | (exfalso; simp [DataW.trod, ht] at h)
    | a :: b :: r, h => simp [DataW.trod, ht] at h
noncomputable def errTB : Bool := match Tryz.prog.underlying 179 with
  | some (.interface _) => true
  | _ => false
theorem errTB_ok : errTB = true := by kernel_rfl
theorem errT : ∃ ms, Tryz.prog.underlying 179 = some (.interface ms) := by
  have h := errTB_ok
  unfold errTB at h
  split at h
  · rename_i ms hu; exact ⟨ms, hu⟩
  · cases h
theorem err_cell {W : World} {l : List (String × DataW Unit)} (hL : laidMet Tryz.prog l W) {name : String} {g : Nat} (hn : Tryz.prog.globalNamed name = some g) (hy : (Tryz.prog.globals[g]?).map (·.type) = some 179) {nm : String} {d : DataW Unit} (h1 : (name, .iface nm d) ∈ l) : ∃ te pe, W.cell? ⟨g, 0, none⟩ = some (.iface te pe) := by
  obtain ⟨g', t, cs, fuel, p, hg, hty, hvar, hd⟩ := Lib.laidMet.reads hL h1
  obtain rfl : g = g' := Option.some.inj (hn.symm.trans hg)
  obtain rfl : 179 = t := Option.some.inj (hy.symm.trans hty)
  obtain ⟨u, v, hcs⟩ := iface_of_trod errT hd
  unfold World.var? at hvar
  rw [hg] at hvar
  simp only [Option.bind_some] at hvar
  split at hvar
  · rename_i cs' T fr hh
    cases hvar
    refine ⟨u, v, ?_⟩
    unfold World.cell?
    simp only [hh]
    have : cs[0]? = cs.toList[0]? := by simp
    rw [this, hcs]
    rfl
  · cases hvar
def groE (e1 e2 : Value) : Heap := fun b => if b = 2 then some (.ro [e1]) else if b = 3 then some (.ro [e2]) else groZ b
theorem globE_gro (t1 p1 t2 p2) : GlobE (groE (.iface t1 p1) (.iface t2 p2)) := by
  have h := globZ_gro
  refine ⟨⟨?_, h.pow⟩, ⟨t1, p1, rfl⟩, ⟨t2, p2, rfl⟩⟩
  obtain ⟨us, h1, h2⟩ := h.tab
  exact ⟨us, h1, h2⟩
theorem groE_reads {W : World} {l : List (String × DataW Unit)} (hL : laidMet Tryz.prog l W) (h1 : ("math/bits.deBruijn64tab", Rows.laid_math_bits_deBruijn64tab) ∈ l) (h2 : ("internal/strconv.uint64pow10", Rows.laid_internal_strconv_uint64pow10) ∈ l)
    (h3 : ("strconv.ErrSyntax", Rows.laid_strconv_ErrSyntax) ∈ l) (h4 : ("strconv.ErrRange", Rows.laid_strconv_ErrRange) ∈ l) : ∃ t1 p1 t2 p2, Reads W (groE (.iface t1 p1) (.iface t2 p2)) := by
  obtain ⟨t1, p1, q1⟩ := err_cell hL (g := 2) (by kernel_rfl) (by kernel_rfl) h3
  obtain ⟨t2, p2, q2⟩ := err_cell hL (g := 3) (by kernel_rfl) (by kernel_rfl) h4
  refine ⟨t1, p1, t2, p2, fun b ob e => ?_⟩
  unfold groE at e
  split at e
  · rename_i hb
    subst hb; cases e
    refine ⟨[.iface t1 p1], rfl, by simp, by simp [Value.oneCell'], fun j u hu => ?_, fun h => absurd h (by simp)⟩
    cases j with
    | zero => cases hu; exact q1
    | succ j => simp at hu
  · split at e
    · rename_i hb
      subst hb; cases e
      refine ⟨[.iface t2 p2], rfl, by simp, by simp [Value.oneCell'], fun j u hu => ?_, fun h => absurd h (by simp)⟩
      cases j with
      | zero => cases hu; exact q2
      | succ j => simp at hu
    · exact groZ_reads hL h1 h2 b ob e
end Go.Proofs.YtmoncokklkiikaaGreatDoor
