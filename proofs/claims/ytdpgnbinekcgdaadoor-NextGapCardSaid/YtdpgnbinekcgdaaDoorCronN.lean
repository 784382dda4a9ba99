/- Expressions: the chapter's rows. -/
import Derived.Test.YtdpgnbinekcgdaaDoorRefY
import Derived.Test.YtdpgnbinekcgdaaDoorRefE
namespace Go.Proofs.YtdpgnbinekcgdaaDoor
open Rg Go

variable {H : Heap}

def tx1 : List UInt8 := [48, 32, 48, 32, 49, 51, 32, 42, 32, 102, 114, 105]
def tx2 : List UInt8 := [48, 32, 48, 32, 42, 47, 50, 32, 42, 32, 109, 111, 110]
def tx3 : List UInt8 := [42, 32, 42, 32, 42, 32, 42]
def tx4 : List UInt8 := [64, 110, 111, 111, 110]
def tx5 : List UInt8 := [54, 49, 32, 42, 32, 42, 32, 42, 32, 42]
def xx1 : Ex := ⟨⟨1, false⟩, ⟨1, false⟩, ⟨8192, false⟩, ⟨8190, true⟩, ⟨32, false⟩⟩
def xx2 : Ex := ⟨⟨1, false⟩, ⟨1, false⟩, ⟨2863311530, true⟩, ⟨8190, true⟩, ⟨2, false⟩⟩
set_option maxRecDepth 100000 in
theorem kn7_1 : cronK tx1 = (xx1, 0) := by decide +kernel
set_option maxRecDepth 100000 in
theorem kn7_2 : cronK tx2 = (xx2, 0) := by decide +kernel
set_option maxRecDepth 100000 in
theorem kn7_3 : cronK tx3 = (ex0, 70) := by decide +kernel
set_option maxRecDepth 100000 in
theorem kn7_4 : cronK tx4 = (ex0, 70) := by decide +kernel
set_option maxRecDepth 100000 in
theorem kn7_5 : cronK tx5 = (ex0, 61) := by decide +kernel
theorem kn7_f1 : fitsX xx1 (clk (19979 * 86400)) = true := by decide +kernel
theorem kn7_f2 : fitsX xx1 (clk (19986 * 86400)) = true := by decide +kernel
theorem kn7_f3 : fitsX xx2 (clk (19905 * 86400)) = true := by decide +kernel
theorem kn7_f4 : fitsX xx2 (clk (19907 * 86400)) = false := by decide +kernel
theorem xx1_ok : xx1.ok := ⟨by decide, by decide, by decide, by decide, by decide⟩
theorem xx2_ok : xx2.ok := ⟨by decide, by decide, by decide, by decide, by decide⟩
end Go.Proofs.YtdpgnbinekcgdaaDoor
