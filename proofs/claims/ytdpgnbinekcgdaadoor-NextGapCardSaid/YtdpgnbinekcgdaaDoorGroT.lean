/- A row that lists one package variable alone. -/
import Derived.Test.YtdpgnbinekcgdaaDoorFitsX
import Derived.Test.YtdpgnbinekcgdaaDoorNextA
namespace Go.Proofs.YtdpgnbinekcgdaaDoor
open Rg Go Go.RowKit

def groT : Heap := fun b => if b = 0 then some (.ro ctzUs) else none
theorem globT_gro : GlobT groT := by
  refine ⟨ctzUs, rfl, fun j hj => ?_⟩
  simp only [ctzUs, List.getElem?_map, List.getD_eq_getElem?_getD, List.getElem?_eq_getElem hj]
  rfl
theorem groT_reads {W : World} {l : List (String × DataW Unit)} (hL : laidMet Tryd.prog l W) (h1 : ("math/bits.deBruijn64tab", Rows.laid_math_bits_deBruijn64tab) ∈ l) : Reads W groT := by
  refine fun b ob e => ?_
  unfold groT at e
  split at e
  · rename_i hb
    subst hb; cases e
    exact ⟨ctzUs, rfl, by decide +kernel, by decide +kernel, ctz_reads hL h1⟩
  · cases e
end Go.Proofs.YtdpgnbinekcgdaaDoor
