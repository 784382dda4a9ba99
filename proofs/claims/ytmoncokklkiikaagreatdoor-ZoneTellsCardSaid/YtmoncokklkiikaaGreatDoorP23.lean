/- What a law's arguments are. What a law's arguments are: expressions, clocks. A row that lists one package variable alone. A row that lists two tables: the bits' and the powers of ten. -/
import Derived.Test.YtmoncokklkiikaaGreatDoorP13
import Derived.Test.YtmoncokklkiikaaGreatDoorP20
import Derived.Test.YtmoncokklkiikaaGreatDoorTie
import Derived.Test.YtmoncokklkiikaaGreatDoorCards
import Derived.Test.YtmoncokklkiikaaGreatDoorP15
import Derived.Test.YtmoncokklkiikaaGreatDoorP18
import Derived.Test.YtmoncokklkiikaaGreatDoorP19
set_option linter.unusedSimpArgs false
set_option linter.unusedVariables false
set_option linter.unnecessarySimpa false
namespace Go.Proofs.YtmoncokklkiikaaGreatDoor
open Rg Go Go.RowKit
theorem laidOut : laidOutB Tryz.prog = true := by kernel_rfl
theorem fits_i64 {a : AV} (h : fits (.int .i64) a) : ∃ n : Int, a = .sc (.int .i64 n) ∧ -9223372036854775808 ≤ n ∧ n ≤ 9223372036854775807 := by
  simp only [fits] at h
  obtain ⟨n, rfl, h⟩ := h
  exact ⟨n, rfl, by simpa [Lit.wf, IntKind.min, IntKind.max, IntKind.bits, IntKind.signed] using h⟩
theorem bool_type : Tryz.prog.underlying 4 = some .bool := by kernel_rfl
end Go.Proofs.YtmoncokklkiikaaGreatDoor
namespace Go.Proofs.YtmoncokklkiikaaGreatDoor
open Rg Go
theorem fits_clock {a : AV} (h : fits (.st [.st [.int .i64, .int .i64, .int .i64], .int .i64, .int .i64, .int .i64, .int .i64]) a) : ∃ c : Clk, a = cAV c ∧ True := by
  rw [fits] at h
  obtain ⟨cs, rfl, h⟩ := h
  simp only [fitsL] at h
  obtain ⟨a0, r0, rfl, h0, a1, r1, rfl, h1, a2, r2, rfl, h2, a3, r3, rfl, h3, a4, r4, rfl, h4, rfl⟩ := h
  rw [fits] at h0
  obtain ⟨cs, rfl, h0⟩ := h0
  simp only [fitsL] at h0
  obtain ⟨b0, s0, rfl, g0, b1, s1, rfl, g1, b2, s2, rfl, g2, rfl⟩ := h0
  obtain ⟨y, rfl, _⟩ := fits_i64 g0
  obtain ⟨m, rfl, _⟩ := fits_i64 g1
  obtain ⟨d, rfl, _⟩ := fits_i64 g2
  obtain ⟨hh, rfl, _⟩ := fits_i64 h1
  obtain ⟨mi, rfl, _⟩ := fits_i64 h2
  obtain ⟨s, rfl, _⟩ := fits_i64 h3
  obtain ⟨w, rfl, _⟩ := fits_i64 h4
  exact ⟨⟨y, m, d, hh, mi, s, w⟩, by simp [AV.cells], trivial⟩
end Go.Proofs.YtmoncokklkiikaaGreatDoor
namespace Go.Proofs.YtmoncokklkiikaaGreatDoor
open Rg Go Go.RowKit
end Go.Proofs.YtmoncokklkiikaaGreatDoor
namespace Go.Proofs.YtmoncokklkiikaaGreatDoor
open Rg Go Go.RowKit
theorem eq_pow : (Rows.laid_internal_strconv_uint64pow10 : DataW Unit) = Lib.tabData .u64 Lib.pow10Tab := by kernel_rfl
def powUs : List Value := Lib.pow10Tab.map fun z => Value.int .u64 z
def groZ : Heap := fun b => if b = 0 then some (.ro ctzUs) else if b = 1 then some (.ro powUs) else none
theorem globZ_gro : GlobZ groZ := by
  refine ⟨⟨ctzUs, rfl, fun j hj => ?_⟩, rfl⟩
  simp only [ctzUs, List.getElem?_map, List.getD_eq_getElem?_getD, List.getElem?_eq_getElem hj]
  rfl
theorem pow_whole {W : World} {l : List (String × DataW Unit)} (hL : laidMet Tryz.prog l W) (h1 : ("internal/strconv.uint64pow10", Rows.laid_internal_strconv_uint64pow10) ∈ l) : ∃ T fr, W.heap[1]? = some (.cells powUs.toArray T fr) := by
  obtain ⟨g, t, cs, fuel, p, hg, hty, hvar, hd⟩ := Lib.laidMet.reads hL h1
  obtain rfl : 1 = g := Option.some.inj ((show Tryz.prog.globalNamed "internal/strconv.uint64pow10" = some 1 by kernel_rfl).symm.trans hg)
  obtain rfl : 287 = t := Option.some.inj ((show (Tryz.prog.globals[1]?).map (·.type) = some 287 by kernel_rfl).symm.trans hty)
  rw [eq_pow] at hd
  have hcs := Lib.cells_of_tab (e := 22) (n := 20) (by kernel_rfl) (by kernel_rfl) (by kernel_rfl) (by kernel_rfl) hd
  unfold World.var? at hvar
  rw [hg] at hvar
  simp only [Option.bind_some] at hvar
  split at hvar
  · rename_i cs' T fr hh
    cases hvar
    refine ⟨T, fr, ?_⟩
    rw [hh]
    congr 2
    rw [← Array.toList_inj, hcs]
    rfl
  · cases hvar
theorem groZ_reads {W : World} {l : List (String × DataW Unit)} (hL : laidMet Tryz.prog l W) (h1 : ("math/bits.deBruijn64tab", Rows.laid_math_bits_deBruijn64tab) ∈ l) (h2 : ("internal/strconv.uint64pow10", Rows.laid_internal_strconv_uint64pow10) ∈ l) : Reads W groZ := by
  refine fun b ob e => ?_
  unfold groZ at e
  split at e
  · rename_i hb
    subst hb; cases e
    exact ⟨ctzUs, rfl, by decide +kernel, by decide +kernel, ctz_reads hL h1, fun h => absurd h (by decide +kernel)⟩
  · split at e
    · rename_i hb
      subst hb; cases e
      obtain ⟨T, fr, hw⟩ := pow_whole hL h2
      refine ⟨powUs, rfl, by simp [powUs, Lib.pow10Tab], by simp [powUs, Value.oneCell'], fun j u hu => ?_, fun _ => ⟨T, fr, hw⟩⟩
      unfold World.cell?
      simp only [hw]
      simpa using hu
    · cases e
theorem fits_chs : ∀ {xs : List AV}, (∀ x ∈ xs, fits (.st [.int .i64, .int .i64]) x) → ∃ L : List (Int × Int), xs = L.map chAV ∧ ∀ c ∈ L, -9223372036854775808 ≤ c.1 ∧ c.1 ≤ 9223372036854775807 ∧ -9223372036854775808 ≤ c.2 ∧ c.2 ≤ 9223372036854775807
  | [], _ => ⟨[], rfl, by simp⟩
  | x :: r, h => by
    have hx := h x (by simp)
    rw [fits] at hx
    obtain ⟨cs, rfl, hx⟩ := hx
    simp only [fitsL] at hx
    obtain ⟨a0, r0, rfl, h0, a1, r1, rfl, h1, rfl⟩ := hx
    obtain ⟨a, rfl, ha⟩ := fits_i64 h0
    obtain ⟨b, rfl, hb⟩ := fits_i64 h1
    obtain ⟨L, rfl, hL⟩ := fits_chs (xs := r) fun y hy => h y (List.mem_cons_of_mem _ hy)
    refine ⟨(a, b) :: L, by simp [AV.cells], fun c hc => ?_⟩
    rcases List.mem_cons.1 hc with e | hc
    · subst e; exact ⟨ha.1, ha.2, hb.1, hb.2⟩
    · exact hL c hc
theorem fits_zone {a : AV} (h : fits (.st [.int .i64, .sl (.st [.int .i64, .int .i64])]) a) : ∃ z : Zn, a = zAV z .no ∧ -9223372036854775808 ≤ z.first ∧ z.first ≤ 9223372036854775807 := by
  rw [fits] at h
  obtain ⟨cs, rfl, h⟩ := h
  simp only [fitsL] at h
  obtain ⟨a0, r0, rfl, h0, a1, r1, rfl, h1, rfl⟩ := h
  obtain ⟨f, rfl, hf⟩ := fits_i64 h0
  rw [fits] at h1
  obtain ⟨xs, rfl, _, h1⟩ := h1
  obtain ⟨L, rfl, _⟩ := fits_chs h1
  exact ⟨⟨f, L⟩, by simp [AV.cells], hf.1, hf.2⟩
end Go.Proofs.YtmoncokklkiikaaGreatDoor
