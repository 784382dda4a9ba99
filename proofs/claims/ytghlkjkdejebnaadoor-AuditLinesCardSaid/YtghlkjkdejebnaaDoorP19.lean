/- What a finding's law is handed, and what its row lists. -/
import Derived.Test.YtghlkjkdejebnaaDoorP16
import Derived.Test.YtghlkjkdejebnaaDoorP08
import Derived.Lib.LaidU8
import Derived.Test.YtghlkjkdejebnaaDoorTie
import Derived.Test.YtghlkjkdejebnaaDoorCards
set_option linter.unusedSimpArgs false
set_option linter.unusedVariables false
set_option linter.unnecessarySimpa false
namespace Go.Proofs.YtghlkjkdejebnaaDoor
open Rg Go Go.RowKit
theorem laidOut : laidOutB Tryd.prog = true := by kernel_rfl
theorem bool_type : Tryd.prog.underlying 4 = some .bool := by kernel_rfl
theorem fits_str {a : AV} (h : fits .str a) : ∃ s : List UInt8, a = str s ∧ s.length ≤ maxLen := by
  simp only [fits] at h
  obtain ⟨s, rfl, h⟩ := h
  refine ⟨s.data.toList, rfl, ?_⟩
  rw [Lib.size_eq] at h
  exact h
theorem fits_find {a : AV} (h : fits (.st [.int .u8, .int .i64]) a) : ∃ (k : Nat) (n : Int), a = fiA k n ∧ k < 256 ∧ -9223372036854775808 ≤ n ∧ n ≤ 9223372036854775807 := by
  simp only [fits] at h
  obtain ⟨cs, rfl, h⟩ := h
  simp only [fitsL] at h
  obtain ⟨x, r, rfl, hx, y, r2, rfl, hy, rfl⟩ := h
  simp only [fits] at hx hy
  obtain ⟨n, rfl, hx⟩ := hx
  obtain ⟨m, rfl, hy⟩ := hy
  have h2 : 0 ≤ n ∧ n ≤ 255 := by simpa [Lit.wf, IntKind.min, IntKind.max, IntKind.bits, IntKind.signed] using hx
  have h3 : -9223372036854775808 ≤ m ∧ m ≤ 9223372036854775807 := by simpa [Lit.wf, IntKind.min, IntKind.max, IntKind.bits, IntKind.signed] using hy
  obtain ⟨k, rfl⟩ := Int.eq_ofNat_of_zero_le h2.1
  exact ⟨k, m, by simp [AV.cells], by omega, h3.1, h3.2⟩
theorem eq_pow : (Rows.laid_internal_strconv_uint64pow10 : DataW Unit) = Lib.tabData .u64 Lib.pow10Tab := by kernel_rfl
def powUs : List Value := Lib.pow10Tab.map fun z => Value.int .u64 z
theorem pow_whole {W : World} {l : List (String × DataW Unit)} (hL : laidMet Tryd.prog l W) (h1 : ("internal/strconv.uint64pow10", Rows.laid_internal_strconv_uint64pow10) ∈ l) : ∃ T fr, W.heap[2]? = some (.cells powUs.toArray T fr) := by
  obtain ⟨g, t, cs, fuel, p, hg, hty, hvar, hd⟩ := Lib.laidMet.reads hL h1
  obtain rfl : 2 = g := Option.some.inj ((show Tryd.prog.globalNamed "internal/strconv.uint64pow10" = some 2 by kernel_rfl).symm.trans hg)
  obtain rfl : 108 = t := Option.some.inj ((show (Tryd.prog.globals[2]?).map (·.type) = some 108 by kernel_rfl).symm.trans hty)
  rw [eq_pow] at hd
  have hcs := Lib.cells_of_tab (e := 45) (n := 20) (by kernel_rfl) (by kernel_rfl) (by kernel_rfl) (by kernel_rfl) hd
  unfold World.var? at hvar
  rw [hg] at hvar
  simp only [Option.bind_some] at hvar
  split at hvar
  · rename_i cs' T fr hh
    cases hvar
    refine ⟨T, fr, ?_⟩
    rw [hh]
    congr 2
    rw [← Array.toList_inj, hcs]
    rfl
  · cases hvar
theorem iface_of_trod {H : Type} {enc : TypeId × Value → H} {P : Program} {w : World} {base : Nat} {sp : Nat → Bool} {fuel : Nat} {t : TypeId} {cs : List Value} {n : String} {d : DataW H} {p : List MemPlace}
    (ht : ∃ ms, P.underlying t = some (.interface ms)) (h : DataW.trod enc P w base sp false fuel t cs = some (.iface n d, p)) : ∃ u v, cs = [.iface u v] := by
  obtain ⟨ms, ht⟩ := ht
  cases fuel with
  | zero => simp [DataW.trod] at h
  | succ m =>
    match cs, h with
    | [], h => simp [DataW.trod, ht] at h
    | [c], h => cases c <;> first | exact ⟨_, _, rfl⟩ | (exfalso; simp [DataW.trod, ht] at h)
    | a :: b :: r, h => simp [DataW.trod, ht] at h
noncomputable def errTB : Bool := match Tryd.prog.underlying 47 with
  | some (.interface _) => true
  | _ => false
theorem errTB_ok : errTB = true := by kernel_rfl
theorem errT : ∃ ms, Tryd.prog.underlying 47 = some (.interface ms) := by
  have h := errTB_ok
  unfold errTB at h
  split at h
  · rename_i ms hu; exact ⟨ms, hu⟩
  · cases h
theorem err_cell {W : World} {l : List (String × DataW Unit)} (hL : laidMet Tryd.prog l W) {name : String} {g : Nat} (hn : Tryd.prog.globalNamed name = some g) (hy : (Tryd.prog.globals[g]?).map (·.type) = some 47) {nm : String} {d : DataW Unit} (h1 : (name, .iface nm d) ∈ l) : ∃ te pe, W.cell? ⟨g, 0, none⟩ = some (.iface te pe) := by
  obtain ⟨g', t, cs, fuel, p, hg, hty, hvar, hd⟩ := Lib.laidMet.reads hL h1
  obtain rfl : g = g' := Option.some.inj (hn.symm.trans hg)
  obtain rfl : 47 = t := Option.some.inj (hy.symm.trans hty)
  obtain ⟨u, v, hcs⟩ := iface_of_trod errT hd
  unfold World.var? at hvar
  rw [hg] at hvar
  simp only [Option.bind_some] at hvar
  split at hvar
  · rename_i cs' T fr hh
    cases hvar
    refine ⟨u, v, ?_⟩
    unfold World.cell?
    simp only [hh]
    have : cs[0]? = cs.toList[0]? := by simp
    rw [this, hcs]
    rfl
  · cases hvar
def groA (e2 : Value) : Heap := fun b => if b = 1 then some (.ro [e2]) else if b = 2 then some (.ro powUs) else none
theorem globA_gro (t2 p2) : GlobA (groA (.iface t2 p2)) := ⟨rfl, t2, p2, rfl⟩
theorem groA_reads {W : World} {l : List (String × DataW Unit)} (hL : laidMet Tryd.prog l W) (h2 : ("internal/strconv.uint64pow10", Rows.laid_internal_strconv_uint64pow10) ∈ l)
    (h4 : ("strconv.ErrRange", Rows.laid_strconv_ErrRange) ∈ l) : ∃ t2 p2, Reads W (groA (.iface t2 p2)) := by
  obtain ⟨t2, p2, q2⟩ := err_cell hL (g := 1) (by kernel_rfl) (by kernel_rfl) h4
  refine ⟨t2, p2, fun b ob e => ?_⟩
  unfold groA at e
  split at e
  · rename_i hb
    subst hb; cases e
    refine ⟨[.iface t2 p2], rfl, by simp, by simp [Value.oneCell'], fun j u hu => ?_, fun h => absurd h (by simp)⟩
    cases j with
    | zero => cases hu; exact q2
    | succ j => simp at hu
  · split at e
    · rename_i hb
      subst hb; cases e
      obtain ⟨T, fr, hw⟩ := pow_whole hL h2
      refine ⟨powUs, rfl, by simp [powUs, Lib.pow10Tab], by simp [powUs, Value.oneCell'], fun j u hu => ?_, fun _ => ⟨T, fr, hw⟩⟩
      unfold World.cell?
      simp only [hw]
      simpa using hu
    · cases e
def ctzUs : List Value := Lib.deBruijn64tab.map fun n : Nat => .int .u8 n
def setCells (cs : Array Value) : Obj → Obj
  | .cells _ t fr => .cells cs t fr
  | o => o
noncomputable def low : Nat := (World.holding Tryd.prog default ⟨#[], #[], []⟩).heap.size
noncomputable def laidWorld (os : Os) : World :=
  let w0 := World.holding Tryd.prog os ⟨#[.cells #[.string ⟨#[105, 110, 118, 97, 108, 105, 100, 32, 115, 121, 110, 116, 97, 120]⟩] 116, .cells #[.string ⟨#[118, 97, 108, 117, 101, 32, 111, 117, 116, 32, 111, 102, 32, 114, 97, 110, 103, 101]⟩] 116], #[], []⟩
  { w0 with heap := ((((w0.heap.modify 4 (setCells ctzUs.toArray)).modify 3 (setCells (Lib.deBruijn32tab.map fun n : Nat => Value.int .u8 n).toArray)).modify 2
    (setCells ((List.range 20).map fun n => Value.int .u64 (10 ^ n)).toArray)).modify 0 (setCells #[.iface 114 (.pointer (some ⟨low, 0, none⟩))])).modify 1 (setCells #[.iface 114 (.pointer (some ⟨low + 1, 0, none⟩))]) }
theorem own : ownKnob Tryd.prog.godebug = none := by kernel_rfl
end Go.Proofs.YtghlkjkdejebnaaDoor
