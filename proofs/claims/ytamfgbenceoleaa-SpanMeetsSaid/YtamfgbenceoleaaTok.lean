import Derived.Test.YtamfgbenceoleaaEv15
import Derived.Test.YtamfgbenceoleaaNumOp
import Derived.Test.YtamfgbenceoleaaSpanF
import Derived.KernelRfl
/-! What slices hold, in this seat: whole numbers. -/
namespace Go.Proofs.Ytamfgbenceoleaa.Span
set_option linter.unusedVariables false
set_option linter.unusedSimpArgs false
set_option linter.unusedSectionVars false
set_option linter.unnecessarySimpa false
open Go.Proofs.Ytamfgbenceoleaa.Ev Go.RowKit
inductive Tok where
  | ints (l : List Int)
def Itp : Interp Tok where
  len := fun | .ints l => l.length
  sz := fun | .ints _ => 1
  cells := fun | .ints l, i => [.int .i64 (l.getD i 0)]
  closed := fun t i L => by cases t; rfl
abbrev V := AV Tok
abbrev Sp := List V → Tr V
@[reducible] def iA (n : Int) : V := .int .i64 n
theorem hm : Try.prog.follows .mixedOrders = true := by kernel_rfl
def encA (a : Abs) : V := .agg [iA a.lo, iA a.hi, iA a.m, iA a.r, iA a.mask]
end Go.Proofs.Ytamfgbenceoleaa.Span
