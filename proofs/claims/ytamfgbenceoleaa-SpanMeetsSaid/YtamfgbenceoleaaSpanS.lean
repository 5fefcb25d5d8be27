import Derived.Test.YtamfgbenceoleaaTok
/-! What is said of the functions of package span. -/
namespace Go.Proofs.Ytamfgbenceoleaa.Span
set_option linter.unusedVariables false
set_option linter.unusedSimpArgs false
set_option linter.unusedSectionVars false
set_option linter.unnecessarySimpa false
open Go.Proofs.Ytamfgbenceoleaa.Ev Go.RowKit
def opF (op a b : Int) : Int := opG op a b
def spOp : Sp
  | [.int .i64 op, .int .i64 a, .int .i64 b] => .ret (iA (opG op a b))
  | _ => .fail
def spMod : Sp
  | [.int .i64 a, .int .i64 m] => .br (okMod m) (.ret (iA (a % m))) .fail
  | _ => .fail
def spAbs : Sp
  | [.int .i64 a] => .br (okV a) (.ret (iA (absI a))) .fail
  | _ => .fail
def spVal : Sp
  | [.int .i64 a] => .ret (.bool (valB a))
  | _ => .fail
def decInts : List (List V) → Option (List Int)
  | [] => some []
  | [.int .i64 b] :: r => (decInts r).map (b :: ·)
  | _ => none
def spGcd : Sp
  | [.int .i64 a, .sli 1 xs] => match decInts xs with
    | some l => .br (okV a && okL l) (.ret (iA (gcdL a l))) .fail
    | none => .fail
  | _ => .fail
def spGcd2 : Sp
  | [.int .i64 a, .int .i64 b] => .br (decide (0 ≤ a) && (decide (0 ≤ b) && (okW a && okW b))) (.ret (iA (gcdL a [b]))) .fail
  | _ => .fail
def spStep : Sp
  | [.agg [.int .i64 a0, .int .i64 a1, .int .i64 a2, .int .i64 a3, .int .i64 a4]] => .ret (iA (stepF ⟨a0, a1, a2, a3, a4⟩))
  | _ => .fail
def spBy : Sp
  | [.int .i64 lo, .int .i64 hi, .int .i64 m, .int .i64 mask] => .br (okBy lo hi m) (.ret (encA (byF lo hi m mask))) .fail
  | _ => .fail
def spLike : Sp
  | [.int .i64 r, .int .i64 m, .int .i64 lo, .int .i64 hi, .int .i64 mask] => .br (okLike r m lo hi) (.ret (encA (likeF r m lo hi mask))) .fail
  | _ => .fail
def spWithin : Sp
  | [.agg [.int .i64 a0, .int .i64 a1, .int .i64 a2, .int .i64 a3, .int .i64 a4], .int .i64 v] => .br (validF ⟨a0, a1, a2, a3, a4⟩ && okN v) (.ret (.bool (withinF ⟨a0, a1, a2, a3, a4⟩ v))) .fail
  | _ => .fail
def spHas : Sp
  | [.agg [.int .i64 a0, .int .i64 a1, .int .i64 a2, .int .i64 a3, .int .i64 a4], .agg [.int .i64 v, .int .i64 k]] => .br (validF ⟨a0, a1, a2, a3, a4⟩ && (okN v && okM k)) (.ret (.bool (hasF ⟨a0, a1, a2, a3, a4⟩ v k))) .fail
  | _ => .fail
def spOf : Sp
  | [.agg [.int .i64 v, .int .i64 k]] => .br (okN v) (.ret (encA (ofF v k))) .fail
  | _ => .fail
def spAll : Sp
  | [.int .i64 k] => .ret (encA (allF k))
  | _ => .fail
def spJoin : Sp
  | [.agg [.int .i64 a0, .int .i64 a1, .int .i64 a2, .int .i64 a3, .int .i64 a4], .agg [.int .i64 b0, .int .i64 b1, .int .i64 b2, .int .i64 b3, .int .i64 b4]] => .br (validF ⟨a0, a1, a2, a3, a4⟩ && validF ⟨b0, b1, b2, b3, b4⟩) (.ret (encA (joinF ⟨a0, a1, a2, a3, a4⟩ ⟨b0, b1, b2, b3, b4⟩))) .fail
  | _ => .fail
def spLeq : Sp
  | [.agg [.int .i64 a0, .int .i64 a1, .int .i64 a2, .int .i64 a3, .int .i64 a4], .agg [.int .i64 b0, .int .i64 b1, .int .i64 b2, .int .i64 b3, .int .i64 b4]] => .br (validF ⟨a0, a1, a2, a3, a4⟩ && validF ⟨b0, b1, b2, b3, b4⟩) (.ret (.bool (leqF ⟨a0, a1, a2, a3, a4⟩ ⟨b0, b1, b2, b3, b4⟩))) .fail
  | _ => .fail
def spValid : Sp
  | [.agg [.int .i64 a0, .int .i64 a1, .int .i64 a2, .int .i64 a3, .int .i64 a4]] => .ret (.bool (validF ⟨a0, a1, a2, a3, a4⟩))
  | _ => .fail
def spWrap : Sp
  | [.int .i64 a] => .ret (iA (w32 a))
  | _ => .fail
def spMade : Sp
  | [.agg [.int .i64 lo, .int .i64 n, .int .i64 m, .int .i64 k]] => .ret (encA (madeF lo n m k))
  | _ => .fail
def spAt : Sp
  | [.agg [.int .i64 a0, .int .i64 a1, .int .i64 a2, .int .i64 a3, .int .i64 a4], .int .i64 n, .int .i64 k] => .br (validF ⟨a0, a1, a2, a3, a4⟩) (.ret (.agg [iA (atV ⟨a0, a1, a2, a3, a4⟩ n), iA (andW k a4)])) .fail
  | _ => .fail
def spBnd : Sp
  | [.agg [.int .i64 a0, .int .i64 a1, .int .i64 a2, .int .i64 a3, .int .i64 a4, .int .i64 b0, .int .i64 b1, .int .i64 b2, .int .i64 b3, .int .i64 b4, .int .i64 k], .int .i64 lo, .int .i64 hi, .int .i64 m] => .br (okBnd lo hi m) (.ret (encA (boundF k lo hi m))) .fail
  | _ => .fail
def spAdd : Sp
  | [.agg [.int .i64 a0, .int .i64 a1, .int .i64 a2, .int .i64 a3, .int .i64 a4, .int .i64 b0, .int .i64 b1, .int .i64 b2, .int .i64 b3, .int .i64 b4, .int .i64 k]] => .br (validF ⟨a0, a1, a2, a3, a4⟩ && validF ⟨b0, b1, b2, b3, b4⟩) (.ret (encA (addF ⟨a0, a1, a2, a3, a4⟩ ⟨b0, b1, b2, b3, b4⟩ k))) .fail
  | _ => .fail
def spSub : Sp
  | [.agg [.int .i64 a0, .int .i64 a1, .int .i64 a2, .int .i64 a3, .int .i64 a4, .int .i64 b0, .int .i64 b1, .int .i64 b2, .int .i64 b3, .int .i64 b4, .int .i64 k]] => .br (validF ⟨a0, a1, a2, a3, a4⟩ && validF ⟨b0, b1, b2, b3, b4⟩) (.ret (encA (subF ⟨a0, a1, a2, a3, a4⟩ ⟨b0, b1, b2, b3, b4⟩ k))) .fail
  | _ => .fail
def spMul : Sp
  | [.agg [.int .i64 a0, .int .i64 a1, .int .i64 a2, .int .i64 a3, .int .i64 a4, .int .i64 b0, .int .i64 b1, .int .i64 b2, .int .i64 b3, .int .i64 b4, .int .i64 k]] => .br (validF ⟨a0, a1, a2, a3, a4⟩ && (validF ⟨b0, b1, b2, b3, b4⟩ && okMul ⟨a0, a1, a2, a3, a4⟩ ⟨b0, b1, b2, b3, b4⟩)) (.ret (encA (mulF ⟨a0, a1, a2, a3, a4⟩ ⟨b0, b1, b2, b3, b4⟩ k))) .fail
  | _ => .fail
def spDiv : Sp
  | [.agg [.int .i64 a0, .int .i64 a1, .int .i64 a2, .int .i64 a3, .int .i64 a4, .int .i64 b0, .int .i64 b1, .int .i64 b2, .int .i64 b3, .int .i64 b4, .int .i64 k]] => .br (validF ⟨a0, a1, a2, a3, a4⟩ && validF ⟨b0, b1, b2, b3, b4⟩) (.ret (encA (divF ⟨a0, a1, a2, a3, a4⟩ ⟨b0, b1, b2, b3, b4⟩ k))) .fail
  | _ => .fail
def spRem : Sp
  | [.agg [.int .i64 a0, .int .i64 a1, .int .i64 a2, .int .i64 a3, .int .i64 a4, .int .i64 b0, .int .i64 b1, .int .i64 b2, .int .i64 b3, .int .i64 b4, .int .i64 k]] => .br (validF ⟨a0, a1, a2, a3, a4⟩ && validF ⟨b0, b1, b2, b3, b4⟩) (.ret (encA (remF ⟨a0, a1, a2, a3, a4⟩ ⟨b0, b1, b2, b3, b4⟩ k))) .fail
  | _ => .fail
def spApart : Sp
  | [.agg [.int .i64 a0, .int .i64 a1, .int .i64 a2, .int .i64 a3, .int .i64 a4, .int .i64 b0, .int .i64 b1, .int .i64 b2, .int .i64 b3, .int .i64 b4, .int .i64 k]] => .br (validF ⟨a0, a1, a2, a3, a4⟩ && validF ⟨b0, b1, b2, b3, b4⟩) (.ret (iA (apartF ⟨a0, a1, a2, a3, a4⟩ ⟨b0, b1, b2, b3, b4⟩))) .fail
  | _ => .fail
def spLesser : Sp
  | [.agg [.int .i64 a0, .int .i64 a1, .int .i64 a2, .int .i64 a3, .int .i64 a4, .int .i64 b0, .int .i64 b1, .int .i64 b2, .int .i64 b3, .int .i64 b4, .int .i64 k]] => .br (validF ⟨a0, a1, a2, a3, a4⟩ && validF ⟨b0, b1, b2, b3, b4⟩) (.ret (encA (lesserF ⟨a0, a1, a2, a3, a4⟩ ⟨b0, b1, b2, b3, b4⟩ k))) .fail
  | _ => .fail
def spGreater : Sp
  | [.agg [.int .i64 a0, .int .i64 a1, .int .i64 a2, .int .i64 a3, .int .i64 a4, .int .i64 b0, .int .i64 b1, .int .i64 b2, .int .i64 b3, .int .i64 b4, .int .i64 k]] => .br (validF ⟨a0, a1, a2, a3, a4⟩ && validF ⟨b0, b1, b2, b3, b4⟩) (.ret (encA (greaterF ⟨a0, a1, a2, a3, a4⟩ ⟨b0, b1, b2, b3, b4⟩ k))) .fail
  | _ => .fail
def spOpers : Sp
  | [] => .ret (.agg [.fn (.func 73) [] [], .fn (.func 74) [] [], .fn (.func 75) [] [], .fn (.func 76) [] [], .fn (.func 77) [] [], .fn (.func 78) [] [], .fn (.func 79) [] []])
  | _ => .fail
def okOp (op : Int) (a b : Abs) : Bool := validF a && (validF b && (decide (op ≠ 6) || okMul a b))
def spSOp : Sp
  | [.int .i64 op, .agg [.int .i64 a0, .int .i64 a1, .int .i64 a2, .int .i64 a3, .int .i64 a4], .agg [.int .i64 b0, .int .i64 b1, .int .i64 b2, .int .i64 b3, .int .i64 b4]] => .br (okOp op ⟨a0, a1, a2, a3, a4⟩ ⟨b0, b1, b2, b3, b4⟩) (.ret (encA (opA op ⟨a0, a1, a2, a3, a4⟩ ⟨b0, b1, b2, b3, b4⟩))) .fail
  | _ => .fail
def setF (lo hi m : Int) : Abs := if lo = hi then ⟨lo, lo, 1, 0, 0⟩ else ⟨lo, hi, m, lo % m, 0⟩
def spSet : Sp
  | [.int .i64 lo, .int .i64 hi, .int .i64 m] => .br (okMod m) (.ret (encA (setF lo hi m))) .fail
  | _ => .fail
def spOne : Sp
  | [.int .i64 v] => .ret (encA (setF v v 1))
  | _ => .fail
def spTrue : Sp
  | [] => .ret (.bool true)
  | _ => .fail
/- In stages: what each needs stands ahead of it. -/
abbrev LT := List (FuncId × Sp)
def L1 : LT := [(15, spOp), (80, spMod), (41, spMod), (49, spAbs), (100, spVal), (43, spStep), (19, spWrap), (44, spOpers)]
def L2 : LT := (48, spGcd) :: (45, spBy) :: (52, spBy) :: (42, spWithin) :: L1
def L3 : LT := (58, spLike) :: (22, spOf) :: (31, spAll) :: (12, spHas) :: (14, spValid) :: (16, spJoin) :: (40, spMade) :: (11, spAt) :: (101, spApart) :: L2
def L4 : LT := (99, spBnd) :: (17, spLeq) :: (10, spMade) :: L3
def L5 : LT := (73, spAdd) :: (74, spSub) :: (75, spMul) :: (76, spDiv) :: (77, spRem) :: (78, spLesser) :: (79, spGreater) :: L4
def L6 : LT := (13, spSOp) :: L5
def L7 : LT := (39, spSet) :: L6
def L8 : LT := (38, spOne) :: L7
def L9 : LT := (9, spTrue) :: L8
end Go.Proofs.Ytamfgbenceoleaa.Span
