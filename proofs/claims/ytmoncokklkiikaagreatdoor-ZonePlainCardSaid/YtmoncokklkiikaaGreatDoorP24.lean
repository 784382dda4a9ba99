/- What a law's arguments are. What a law's arguments are: expressions, clocks. A row that lists one package variable alone. A row that lists two tables: the bits' and the powers of ten. -/
import Derived.Test.YtmoncokklkiikaaGreatDoorP13
import Derived.Test.YtmoncokklkiikaaGreatDoorP21
import Derived.Test.YtmoncokklkiikaaGreatDoorTie
import Derived.Test.YtmoncokklkiikaaGreatDoorCards
import Derived.Test.YtmoncokklkiikaaGreatDoorP15
import Derived.Test.YtmoncokklkiikaaGreatDoorP19
import Derived.Test.YtmoncokklkiikaaGreatDoorP20
set_option linter.unusedSimpArgs false
set_option linter.unusedVariables false
set_option linter.unnecessarySimpa false
namespace Go.Proofs.YtmoncokklkiikaaGreatDoor
open Rg Go Go.RowKit
theorem laidOut : laidOutB Tryz.prog = true := by kernel_rfl
theorem fits_i64 {a : AV} (h : fits (.int .i64) a) : ∃ n : Int, a = .sc (.int .i64 n) ∧ -9223372036854775808 ≤ n ∧ n ≤ 9223372036854775807 := by
  simp only [fits] at h
  obtain ⟨n, rfl, h⟩ := h
  exact ⟨n, rfl, by simpa [Lit.wf, IntKind.min, IntKind.max, IntKind.bits, IntKind.signed] using h⟩
theorem fits_u64 {a : AV} (h : fits (.int .u64) a) : ∃ n : Nat, a = .sc (.int .u64 (n : Int)) ∧ n < 18446744073709551616 := by
  simp only [fits] at h
  obtain ⟨n, rfl, h⟩ := h
  have h2 : 0 ≤ n ∧ n ≤ 18446744073709551615 := by simpa [Lit.wf, IntKind.min, IntKind.max, IntKind.bits, IntKind.signed] using h
  obtain ⟨m, rfl⟩ := Int.eq_ofNat_of_zero_le h2.1
  exact ⟨m, rfl, by omega⟩
theorem fits_fld {a : AV} (h : fits (.st [.int .u64, .bool]) a) : ∃ f : Fld, a = fAV f ∧ f.bits < 18446744073709551616 := by
  simp only [fits] at h
  obtain ⟨cs, rfl, h⟩ := h
  simp only [fitsL] at h
  obtain ⟨x, r, rfl, hx, y, r2, rfl, hy, rfl⟩ := h
  obtain ⟨n, rfl, hn⟩ := fits_u64 hx
  simp only [fits] at hy
  obtain ⟨b, rfl⟩ := hy
  exact ⟨⟨n, b⟩, by simp [AV.cells, fAV], hn⟩
theorem bool_type : Tryz.prog.underlying 4 = some .bool := by kernel_rfl
end Go.Proofs.YtmoncokklkiikaaGreatDoor
namespace Go.Proofs.YtmoncokklkiikaaGreatDoor
open Rg Go
theorem fits_expr {a : AV} (h : fits (.st (List.replicate 5 (.st [.int .u64, .bool]))) a) : ∃ x : Ex, a = exAV x ∧ x.ok := by
  simp only [fits, List.replicate] at h
  obtain ⟨cs, rfl, h⟩ := h
  simp only [fitsL] at h
  obtain ⟨a0, r0, rfl, h0, a1, r1, rfl, h1, a2, r2, rfl, h2, a3, r3, rfl, h3, a4, r4, rfl, h4, rfl⟩ := h
  obtain ⟨f0, rfl, g0⟩ := fits_fld h0
  obtain ⟨f1, rfl, g1⟩ := fits_fld h1
  obtain ⟨f2, rfl, g2⟩ := fits_fld h2
  obtain ⟨f3, rfl, g3⟩ := fits_fld h3
  obtain ⟨f4, rfl, g4⟩ := fits_fld h4
  exact ⟨⟨f0, f1, f2, f3, f4⟩, by simp [AV.cells, fAV], ⟨g0, g1, g2, g3, g4⟩⟩
end Go.Proofs.YtmoncokklkiikaaGreatDoor
namespace Go.Proofs.YtmoncokklkiikaaGreatDoor
open Rg Go Go.RowKit
end Go.Proofs.YtmoncokklkiikaaGreatDoor
namespace Go.Proofs.YtmoncokklkiikaaGreatDoor
open Rg Go Go.RowKit
theorem eq_pow : (Rows.laid_internal_strconv_uint64pow10 : DataW Unit) = Lib.tabData .u64 Lib.pow10Tab := by kernel_rfl
def powUs : List Value := Lib.pow10Tab.map fun z => Value.int .u64 z
def groZ : Heap := fun b => if b = 0 then some (.ro ctzUs) else if b = 1 then some (.ro powUs) else none
theorem globZ_gro : GlobZ groZ := by
  refine ⟨⟨ctzUs, rfl, fun j hj => ?_⟩, rfl⟩
  simp only [ctzUs, List.getElem?_map, List.getD_eq_getElem?_getD, List.getElem?_eq_getElem hj]
  rfl
theorem pow_whole {W : World} {l : List (String × DataW Unit)} (hL : laidMet Tryz.prog l W) (h1 : ("internal/strconv.uint64pow10", Rows.laid_internal_strconv_uint64pow10) ∈ l) : ∃ T fr, W.heap[1]? = some (.cells powUs.toArray T fr) := by
  obtain ⟨g, t, cs, fuel, p, hg, hty, hvar, hd⟩ := Lib.laidMet.reads hL h1
  obtain rfl : 1 = g := Option.some.inj ((show Tryz.prog.globalNamed "internal/strconv.uint64pow10" = some 1 by kernel_rfl).symm.trans hg)
  obtain rfl : 287 = t := Option.some.inj ((show (Tryz.prog.globals[1]?).map (·.type) = some 287 by kernel_rfl).symm.trans hty)
  rw [eq_pow] at hd
  have hcs := Lib.cells_of_tab (e := 22) (n := 20) (by kernel_rfl) (by kernel_rfl) (by kernel_rfl) (by kernel_rfl) hd
  unfold World.var? at hvar
  rw [hg] at hvar
  simp only [Option.bind_some] at hvar
  split at hvar
  · rename_i cs' T fr hh
    cases hvar
    refine ⟨T, fr, ?_⟩
    rw [hh]
    congr 2
    rw [← Array.toList_inj, hcs]
    rfl
  · cases hvar
theorem groZ_reads {W : World} {l : List (String × DataW Unit)} (hL : laidMet Tryz.prog l W) (h1 : ("math/bits.deBruijn64tab", Rows.laid_math_bits_deBruijn64tab) ∈ l) (h2 : ("internal/strconv.uint64pow10", Rows.laid_internal_strconv_uint64pow10) ∈ l) : Reads W groZ := by
  refine fun b ob e => ?_
  unfold groZ at e
  split at e
  · rename_i hb
    subst hb; cases e
    exact ⟨ctzUs, rfl, by decide +kernel, by decide +kernel, ctz_reads hL h1, fun h => absurd h (by decide +kernel)⟩
  · split at e
    · rename_i hb
      subst hb; cases e
      obtain ⟨T, fr, hw⟩ := pow_whole hL h2
      refine ⟨powUs, rfl, by simp [powUs, Lib.pow10Tab], by simp [powUs, Value.oneCell'], fun j u hu => ?_, fun _ => ⟨T, fr, hw⟩⟩
      unfold World.cell?
      simp only [hw]
      simpa using hu
    · cases e
theorem fits_i64s : ∀ {xs : List AV}, (∀ x ∈ xs, fits (.int .i64) x) → ∃ L : List Int, xs = L.map i64
  | [], _ => ⟨[], rfl⟩
  | x :: r, h => by
    obtain ⟨n, rfl, hn⟩ := fits_i64 (h x (by simp))
    obtain ⟨L, rfl⟩ := fits_i64s (xs := r) fun y hy => h y (List.mem_cons_of_mem _ hy)
    exact ⟨n :: L, rfl⟩
theorem fits_i64l {a : AV} (h : fits (.sl (.int .i64)) a) : ∃ L : List Int, a = .sl (L.map i64) .no ∧ L.length ≤ maxLen := by
  rw [fits] at h
  obtain ⟨xs, rfl, h1, h2⟩ := h
  obtain ⟨L, rfl⟩ := fits_i64s h2
  exact ⟨L, rfl, by simpa using h1⟩
end Go.Proofs.YtmoncokklkiikaaGreatDoor
