-- Written by rowgen.py, a program of mine: the pure statement of the law NumSubstitutes.
import Derived.Test.YtbbnefpjnjjibaaXSf4
import Derived.Test.YtbbnefpjnjjibaaXOpen
import Derived.Test.YtbbnefpjnjjibaaXSexpr
namespace Go.Proofs.Ytbbnefpjnjjibaa.XS
open Go.RowKit Go.Proofs.YtbbnefpjnjjibaaW.PrintWords Go.Proofs.Ytbbnefpjnjjibaa.Opn Go.Proofs.Ytbbnefpjnjjibaa
def parolelaw01_NumSubstitutes.PureX : Prop := ∀ (a0_0 : Int) (a0_1 : Int) (a0_2 : Int) (l0_3 : List (S29)) (a0_4 : Int) (a0_5 : Int) (a0_6 : Int) (l0_7 : List (S29)) (a1 : Int) (l2 : List (Int)), ((Lit.int .u8 a1).wf = true) → ((GoodRow (Try.prog.bytesOf 3) (fun n => (Lit.int .i64 n).wf = true)) l2) → (OpnS.GoodE ⟨a0_0, a0_1, a0_2, l0_3⟩) → (OpnS.GoodE ⟨a0_4, a0_5, a0_6, l0_7⟩) → ∃ k, parolelaw01_NumSubstitutes.f k a0_0 a0_1 a0_2 l0_3 a0_4 a0_5 a0_6 l0_7 a1 l2 = some true
end Go.Proofs.Ytbbnefpjnjjibaa.XS
