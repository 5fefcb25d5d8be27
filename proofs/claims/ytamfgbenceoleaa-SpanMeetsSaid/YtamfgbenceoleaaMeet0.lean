import Derived.Test.YtamfgbenceoleaaSpanD3
namespace Go.Proofs.Ytamfgbenceoleaa.Span
set_option linter.unusedVariables false
set_option linter.unusedSimpArgs false
set_option linter.unusedSectionVars false
set_option linter.unnecessarySimpa false
open Go.Proofs.Ytamfgbenceoleaa.Ev Go.RowKit
def meetsK : Nat → List Nat
  | 2007 => [1]
  | 2009 => [1]
  | _ => []
end Go.Proofs.Ytamfgbenceoleaa.Span
