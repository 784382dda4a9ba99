/- What a law's row lists of package variables, as the start heap of its run; a world that meets it. -/
import Derived.Test.YtmoncokklkiikaaGreatDoorP13
import Derived.Test.YtmoncokklkiikaaGreatDoorP08
import Derived.Lib.LaidU8
set_option linter.unusedSimpArgs false
set_option linter.unusedVariables false
set_option linter.unnecessarySimpa false
namespace Go.Proofs.YtmoncokklkiikaaGreatDoor
open Rg Go Go.RowKit
theorem eq_ctz : (Rows.laid_math_bits_deBruijn64tab : DataW Unit) = Lib.tabData .u8 (Lib.deBruijn64tab.map fun n : Nat => (n : Int)) := by kernel_rfl
def ctzUs : List Value := Lib.deBruijn64tab.map fun n : Nat => .int .u8 n
def firstUs : List Value := (List.range 256).map fun c => .int .u8 (Lib.firstT c)
def acceptUs : List Value := (List.range 16).flatMap fun i => [.int .u8 (Lib.accLo i), .int .u8 (Lib.accHi i)]
theorem ctz_reads {W : World} {l : List (String × DataW Unit)} (hL : laidMet Tryz.prog l W) (h1 : ("math/bits.deBruijn64tab", Rows.laid_math_bits_deBruijn64tab) ∈ l) (j : Nat) (u : Value) (hu : ctzUs[j]? = some u) : W.cell? ⟨0, j, none⟩ = some u := by
  obtain ⟨g, t, cs, fuel, p, hg, hty, hvar, hd⟩ := Lib.laidMet.reads hL h1
  obtain rfl : 0 = g := Option.some.inj ((show Tryz.prog.globalNamed "math/bits.deBruijn64tab" = some 0 by kernel_rfl).symm.trans hg)
  obtain rfl : 275 = t := Option.some.inj ((show (Tryz.prog.globals[0]?).map (·.type) = some 275 by kernel_rfl).symm.trans hty)
  rw [eq_ctz] at hd
  have hcs := Lib.cells_of_tab (e := 5) (n := 64) (by kernel_rfl) (by kernel_rfl) (by kernel_rfl) (by kernel_rfl) hd
  rw [World.var?_cell hg hvar j, ← Array.getElem?_toList, hcs, ← hu]
  unfold ctzUs
  simp [Function.comp_def]
def setCells (cs : Array Value) : Obj → Obj
  | .cells _ t fr => .cells cs t fr
  | o => o
noncomputable def low : Nat := (World.holding Tryz.prog default ⟨#[], #[], []⟩).heap.size
noncomputable def laidWorld (os : Os) : World :=
  let w0 := World.holding Tryz.prog os ⟨#[.cells #[.string ⟨#[105, 110, 118, 97, 108, 105, 100, 32, 115, 121, 110, 116, 97, 120]⟩] 318, .cells #[.string ⟨#[118, 97, 108, 117, 101, 32, 111, 117, 116, 32, 111, 102, 32, 114, 97, 110, 103, 101]⟩] 318], #[], []⟩
  { w0 with heap := ((((((w0.heap.modify 0 (setCells ctzUs.toArray)).modify 7 (setCells (Lib.deBruijn32tab.map fun n : Nat => Value.int .u8 n).toArray)).modify 5 (setCells firstUs.toArray)).modify 6 (setCells acceptUs.toArray)).modify 1
    (setCells ((List.range 20).map fun n => Value.int .u64 (10 ^ n)).toArray)).modify 2 (setCells #[.iface 316 (.pointer (some ⟨low, 0, none⟩))])).modify 3 (setCells #[.iface 316 (.pointer (some ⟨low + 1, 0, none⟩))]) }
theorem own : ownKnob Tryz.prog.godebug = none := by kernel_rfl
end Go.Proofs.YtmoncokklkiikaaGreatDoor
