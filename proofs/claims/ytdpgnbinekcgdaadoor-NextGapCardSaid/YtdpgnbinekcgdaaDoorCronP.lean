/- Expressions: a text's. -/
import Derived.Test.YtdpgnbinekcgdaaDoorCron
import Derived.Test.YtdpgnbinekcgdaaDoorRefN
namespace Go.Proofs.YtdpgnbinekcgdaaDoor
open Rg Go

variable {H : Heap}

def nHourly : List UInt8 := [64, 104, 111, 117, 114, 108, 121]
def nDaily : List UInt8 := [64, 100, 97, 105, 108, 121]
def nMidnight : List UInt8 := [64, 109, 105, 100, 110, 105, 103, 104, 116]
def nWeekly : List UInt8 := [64, 119, 101, 101, 107, 108, 121]
def nMonthly : List UInt8 := [64, 109, 111, 110, 116, 104, 108, 121]
def nYearly : List UInt8 := [64, 121, 101, 97, 114, 108, 121]
def nAnnually : List UInt8 := [64, 97, 110, 110, 117, 97, 108, 108, 121]
def xHourly : List UInt8 := [48, 32, 42, 32, 42, 32, 42, 32, 42]
def xDaily : List UInt8 := [48, 32, 48, 32, 42, 32, 42, 32, 42]
def xWeekly : List UInt8 := [48, 32, 48, 32, 42, 32, 42, 32, 48]
def xMonthly : List UInt8 := [48, 32, 48, 32, 49, 32, 42, 32, 42]
def xYearly : List UInt8 := [48, 32, 48, 32, 49, 32, 49, 32, 42]
/-- The text of a name. -/
def namedL (s : List UInt8) : List UInt8 :=
  if s = nHourly then xHourly else if s = nDaily then xDaily else if s = nMidnight then xDaily else if s = nWeekly then xWeekly else if s = nMonthly then xMonthly else if s = nYearly then xYearly else if s = nAnnually then xYearly else []
def Ex.set (x : Ex) (j : Nat) (f : Fld) : Ex :=
  match j with
  | 0 => { x with a := f }
  | 1 => { x with b := f }
  | 2 => { x with c := f }
  | 3 => { x with d := f }
  | _ => { x with e := f }
def goX : List (List UInt8) → Nat → Ex → Ex × Int
  | [], _, x => (x, 0)
  | p :: r, j, x => if (parseK (j : Int) p).2 ≠ 0 then (ex0, (parseK (j : Int) p).2) else goX r (j + 1) (x.set j (parseK (j : Int) p).1)
/-- A text's expression, where it is no name. -/
def cronB (s : List UInt8) : Ex × Int := if (sp 32 s).length ≠ 5 then (ex0, 70) else if [] ∈ sp 32 s then (ex0, 70) else goX (sp 32 s) 0 ex0
def cronK (s : List UInt8) : Ex × Int := if 400 < s.length then (ex0, 3) else cronB (if Lib.hasPrefix s [64] = true then namedL s else s)

theorem beq_dec (s t : List UInt8) : (s == t) = decide (s = t) := by
  rw [Bool.eq_iff_iff]; simp
theorem namedL_len (s : List UInt8) : (namedL s).length ≤ 9 := by
  unfold namedL
  (repeat' split) <;> decide

theorem ex0_cells : exC ex0 = [.sc (.int .u64 (0 : Nat)), .sc (.bool false), .sc (.int .u64 (0 : Nat)), .sc (.bool false), .sc (.int .u64 (0 : Nat)), .sc (.bool false), .sc (.int .u64 (0 : Nat)), .sc (.bool false), .sc (.int .u64 (0 : Nat)), .sc (.bool false)] := rfl

end Go.Proofs.YtdpgnbinekcgdaaDoor
