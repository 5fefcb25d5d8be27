import Derived.Test.YtamfgbenceoleaaSpanI3
import Derived.Test.YtamfgbenceoleaaSound0
import Derived.Test.YtamfgbenceoleaaSpanC7
/-! What the functions behind Meet are said to do. -/
namespace Go.Proofs.Ytamfgbenceoleaa.Span
set_option linter.unusedVariables false
set_option linter.unusedSimpArgs false
set_option linter.unusedSectionVars false
set_option linter.unnecessarySimpa false
open Go.Proofs.Ytamfgbenceoleaa.Ev Go.RowKit
def cellsA (a : Abs) : List V := [iA a.lo, iA a.hi, iA a.m, iA a.r, iA a.mask]
def countF (a : Abs) : Int := (a.hi - a.lo) / a.m + 1
def spCount : Sp
  | [.agg [.int .i64 a0, .int .i64 a1, .int .i64 a2, .int .i64 a3, .int .i64 a4]] => .br (validF ⟨a0, a1, a2, a3, a4⟩) (.ret (iA (countF ⟨a0, a1, a2, a3, a4⟩))) .fail
  | _ => .fail
def okInv (a m : Int) : Bool := decide (0 ≤ a) && (decide (0 < m) && (decide (m ≤ 4294967296) && decide (Int.gcd a m = 1)))
noncomputable def spInv : Sp
  | [.int .i64 a, .int .i64 m] => .br (okInv a m) (.ret (iA (invF a m))) .fail
  | _ => .fail
noncomputable def spFew : Sp
  | [.agg [.int .i64 a0, .int .i64 a1, .int .i64 a2, .int .i64 a3, .int .i64 a4], .agg [.int .i64 b0, .int .i64 b1, .int .i64 b2, .int .i64 b3, .int .i64 b4], .int .i64 k] => .br (validF ⟨a0, a1, a2, a3, a4⟩ && (validF ⟨b0, b1, b2, b3, b4⟩ && okM k)) (.ret (.tup [encA (meetK ⟨a0, a1, a2, a3, a4⟩ ⟨b0, b1, b2, b3, b4⟩ k), .bool (meetB ⟨a0, a1, a2, a3, a4⟩ ⟨b0, b1, b2, b3, b4⟩)])) .fail
  | _ => .fail
noncomputable def meetA (a b : Abs) : Abs := meetK a b (andM a.mask b.mask)
noncomputable def spMeet : Sp
  | [.agg [.int .i64 a0, .int .i64 a1, .int .i64 a2, .int .i64 a3, .int .i64 a4], .agg [.int .i64 b0, .int .i64 b1, .int .i64 b2, .int .i64 b3, .int .i64 b4]] => .br (validF ⟨a0, a1, a2, a3, a4⟩ && validF ⟨b0, b1, b2, b3, b4⟩) (.ret (.tup [encA (meetA ⟨a0, a1, a2, a3, a4⟩ ⟨b0, b1, b2, b3, b4⟩), .bool (meetB ⟨a0, a1, a2, a3, a4⟩ ⟨b0, b1, b2, b3, b4⟩)])) .fail
  | _ => .fail
/-- As the struct Met has it. -/
noncomputable def encMet (a b : Abs) : V := .agg [iA (meetA a b).lo, iA (meetA a b).hi, iA (meetA a b).m, iA (meetA a b).r, iA (meetA a b).mask, .bool (meetB a b)]
noncomputable def spMet : Sp
  | [.agg [.int .i64 a0, .int .i64 a1, .int .i64 a2, .int .i64 a3, .int .i64 a4], .agg [.int .i64 b0, .int .i64 b1, .int .i64 b2, .int .i64 b3, .int .i64 b4]] => .br (validF ⟨a0, a1, a2, a3, a4⟩ && validF ⟨b0, b1, b2, b3, b4⟩) (.ret (encMet ⟨a0, a1, a2, a3, a4⟩ ⟨b0, b1, b2, b3, b4⟩)) .fail
  | _ => .fail
def ik : Nat → List Nat
  | 5 => [0, 1, 5, 6, 7]
  | 1005 => [1, 5]
  | _ => []
def okExtB (m a r x y : Int) : Bool := decide (okExt m a r x y ∧ (-8589934592 ≤ x ∧ x ≤ 8589934592) ∧ (-8589934592 ≤ y ∧ y ≤ 8589934592))
def il5 (vals : List V) (hp : Hp Tok) : Tr (Lf Tok) :=
  match vals, hp with
  | [.int .i64 a, .int .i64 m, .int .i64 x, .int .i64 y, .int .i64 r], [] => .br (okExtB m a r x y) (.ret (.exit 0, [iA m, iA (extX a r x y)], [])) .fail
  | _, _ => .fail
def ilsp : Nat → List V → Hp Tok → Tr (Lf Tok)
  | 5 => il5
  | _ => noLoops 0
def fk : Nat → List Nat
  | 4 => [2, 3, 4, 6, 8, 9, 10]
  | 1004 => [6, 8, 9]
  | _ => []
noncomputable def okFew (a b : Abs) (k v : Int) (f : Bool) (o : Abs) : Bool := validF a && (validF b && (okM k && (decide (a.lo ≤ v ∧ v ≤ a.hi + a.m ∧ a.m ∣ v - a.lo) && ((f == fewB a b v) && decide (o = fewA a b k v)))))
def shFew : List (Option Nat) := [some 5, some 5, some 5, none, some 5]
theorem shFew_inv {hp : Hp Tok} (h : shapeOk hp shFew = true) : ∃ x0_0 x0_1 x0_2 x0_3 x0_4 x1_0 x1_1 x1_2 x1_3 x1_4 x2_0 x2_1 x2_2 x2_3 x2_4 x4_0 x4_1 x4_2 x4_3 x4_4, hp = [some [.int .i64 x0_0, .int .i64 x0_1, .int .i64 x0_2, .int .i64 x0_3, .int .i64 x0_4], some [.int .i64 x1_0, .int .i64 x1_1, .int .i64 x1_2, .int .i64 x1_3, .int .i64 x1_4], some [.int .i64 x2_0, .int .i64 x2_1, .int .i64 x2_2, .int .i64 x2_3, .int .i64 x2_4], none, some [.int .i64 x4_0, .int .i64 x4_1, .int .i64 x4_2, .int .i64 x4_3, .int .i64 x4_4]] := by
  unfold shFew at h
  obtain ⟨x0_0, x0_1, x0_2, x0_3, x0_4, hp0, g0, k0⟩ := shape5 h
  obtain ⟨x1_0, x1_1, x1_2, x1_3, x1_4, hp1, g1, k1⟩ := shape5 k0
  obtain ⟨x2_0, x2_1, x2_2, x2_3, x2_4, hp2, g2, k2⟩ := shape5 k1
  obtain ⟨hp3, g3, k3⟩ := shape_none k2
  obtain ⟨x4_0, x4_1, x4_2, x4_3, x4_4, hp4, g4, k4⟩ := shape5 k3
  have gz := shape_nil k4
  subst gz g4 g3 g2 g1 g0
  exact ⟨_, _, _, _, _, _, _, _, _, _, _, _, _, _, _, _, _, _, _, _, rfl⟩
noncomputable def fl4 (vals : List V) (hp : Hp Tok) : Tr (Lf Tok) :=
  match vals with
  | [.int .i64 k, .ref 0 0, .ref 1 0, .ref 2 0, .ref 4 0, .bool f, .int .i64 v] =>
    match slot hp 0, slot hp 1, slot hp 4 with
    | some [.int .i64 a0, .int .i64 a1, .int .i64 a2, .int .i64 a3, .int .i64 a4], some [.int .i64 b0, .int .i64 b1, .int .i64 b2, .int .i64 b3, .int .i64 b4], some [.int .i64 o0, .int .i64 o1, .int .i64 o2, .int .i64 o3, .int .i64 o4] =>
      .br (shapeOk hp shFew && okFew ⟨a0, a1, a2, a3, a4⟩ ⟨b0, b1, b2, b3, b4⟩ k v f ⟨o0, o1, o2, o3, o4⟩) (.ret (.exit 0, [.ref 2 0, .ref 4 0, .bool (meetB ⟨a0, a1, a2, a3, a4⟩ ⟨b0, b1, b2, b3, b4⟩)], hp.set 4 (some (cellsA (meetK ⟨a0, a1, a2, a3, a4⟩ ⟨b0, b1, b2, b3, b4⟩ k))))) .fail
    | _, _, _ => .fail
  | _ => .fail
noncomputable def flsp : Nat → List V → Hp Tok → Tr (Lf Tok)
  | 4 => fl4
  | _ => noLoops 0
noncomputable def L10 : LT := (88, spCount) :: (90, spInv) :: L9
noncomputable def L11 : LT := (89, spFew) :: L10
noncomputable def L12 : LT := (50, spMeet) :: L11
noncomputable def L13 : LT := (18, spMet) :: L12
end Go.Proofs.Ytamfgbenceoleaa.Span
