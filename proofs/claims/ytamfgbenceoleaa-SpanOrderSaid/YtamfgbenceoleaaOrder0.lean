import Derived.Test.YtamfgbenceoleaaSound0
/-! SpanOrder: what its loop is said to do. -/
namespace Go.Proofs.Ytamfgbenceoleaa.Span
set_option linter.unusedVariables false
set_option linter.unusedSimpArgs false
set_option linter.unusedSectionVars false
set_option linter.unnecessarySimpa false
open Go.Proofs.Ytamfgbenceoleaa.Ev Go.RowKit
def ordK : Nat → List Nat
  | 12 => [7, 8, 9, 10, 13, 14]
  | 1012 => [7, 8, 9, 10, 13]
  | 2007 => [1]
  | 2008 => [1]
  | 2016 => [1]
  | _ => []
def okOrd (op : Int) (a c big : Abs) : Bool := decide (4 ≤ op ∧ op ≤ 7) && (validF a && (validF c && (validF big && (leqF a big && (okMul a c && okMul big c)))))
def shOrd : List (Option Nat) := [some 4, some 4, some 4, none, none, none, none, none, some 5, some 5, none, none, none, none, some 5, none, none, none, none, some 5, none]
theorem shOrd_inv {hp : Hp Tok} (h : shapeOk hp shOrd = true) : ∃ x0_0 x0_1 x0_2 x0_3 x1_0 x1_1 x1_2 x1_3 x2_0 x2_1 x2_2 x2_3 x8_0 x8_1 x8_2 x8_3 x8_4 x9_0 x9_1 x9_2 x9_3 x9_4 x14_0 x14_1 x14_2 x14_3 x14_4 x19_0 x19_1 x19_2 x19_3 x19_4, hp = [some [.int .i64 x0_0, .int .i64 x0_1, .int .i64 x0_2, .int .i64 x0_3], some [.int .i64 x1_0, .int .i64 x1_1, .int .i64 x1_2, .int .i64 x1_3], some [.int .i64 x2_0, .int .i64 x2_1, .int .i64 x2_2, .int .i64 x2_3], none, none, none, none, none, some [.int .i64 x8_0, .int .i64 x8_1, .int .i64 x8_2, .int .i64 x8_3, .int .i64 x8_4], some [.int .i64 x9_0, .int .i64 x9_1, .int .i64 x9_2, .int .i64 x9_3, .int .i64 x9_4], none, none, none, none, some [.int .i64 x14_0, .int .i64 x14_1, .int .i64 x14_2, .int .i64 x14_3, .int .i64 x14_4], none, none, none, none, some [.int .i64 x19_0, .int .i64 x19_1, .int .i64 x19_2, .int .i64 x19_3, .int .i64 x19_4], none] := by
  unfold shOrd at h
  obtain ⟨x0_0, x0_1, x0_2, x0_3, hp0, g0, k0⟩ := shape4 h
  obtain ⟨x1_0, x1_1, x1_2, x1_3, hp1, g1, k1⟩ := shape4 k0
  obtain ⟨x2_0, x2_1, x2_2, x2_3, hp2, g2, k2⟩ := shape4 k1
  obtain ⟨hp3, g3, k3⟩ := shape_none k2
  obtain ⟨hp4, g4, k4⟩ := shape_none k3
  obtain ⟨hp5, g5, k5⟩ := shape_none k4
  obtain ⟨hp6, g6, k6⟩ := shape_none k5
  obtain ⟨hp7, g7, k7⟩ := shape_none k6
  obtain ⟨x8_0, x8_1, x8_2, x8_3, x8_4, hp8, g8, k8⟩ := shape5 k7
  obtain ⟨x9_0, x9_1, x9_2, x9_3, x9_4, hp9, g9, k9⟩ := shape5 k8
  obtain ⟨hp10, g10, k10⟩ := shape_none k9
  obtain ⟨hp11, g11, k11⟩ := shape_none k10
  obtain ⟨hp12, g12, k12⟩ := shape_none k11
  obtain ⟨hp13, g13, k13⟩ := shape_none k12
  obtain ⟨x14_0, x14_1, x14_2, x14_3, x14_4, hp14, g14, k14⟩ := shape5 k13
  obtain ⟨hp15, g15, k15⟩ := shape_none k14
  obtain ⟨hp16, g16, k16⟩ := shape_none k15
  obtain ⟨hp17, g17, k17⟩ := shape_none k16
  obtain ⟨hp18, g18, k18⟩ := shape_none k17
  obtain ⟨x19_0, x19_1, x19_2, x19_3, x19_4, hp19, g19, k19⟩ := shape5 k18
  obtain ⟨hp20, g20, k20⟩ := shape_none k19
  have gz := shape_nil k20
  subst gz g20 g19 g18 g17 g16 g15 g14 g13 g12 g11 g10 g9 g8 g7 g6 g5 g4 g3 g2 g1 g0
  exact ⟨_, _, _, _, _, _, _, _, _, _, _, _, _, _, _, _, _, _, _, _, _, _, _, _, _, _, _, _, _, _, _, _, rfl⟩
def ol12 (vals : List V) (hp : Hp Tok) : Tr (Lf Tok) :=
  match vals with
  | [.bool true, .ref 8 0, .ref 9 0, .ref 14 0, .ref 19 0, .int .i64 op] =>
    match slot hp 8, slot hp 14, slot hp 19 with
    | some [.int .i64 a0, .int .i64 a1, .int .i64 a2, .int .i64 a3, .int .i64 a4], some [.int .i64 c0, .int .i64 c1, .int .i64 c2, .int .i64 c3, .int .i64 c4], some [.int .i64 b0, .int .i64 b1, .int .i64 b2, .int .i64 b3, .int .i64 b4] =>
      .br (shapeOk hp shOrd && okOrd op ⟨a0, a1, a2, a3, a4⟩ ⟨c0, c1, c2, c3, c4⟩ ⟨b0, b1, b2, b3, b4⟩) (.ret (.exit 0, [.bool true, .ref 8 0, .ref 9 0, .ref 14 0, .ref 19 0], hp)) .fail
    | _, _, _ => .fail
  | _ => .fail
def olsp : Nat → List V → Hp Tok → Tr (Lf Tok)
  | 12 => ol12
  | _ => noLoops 0
end Go.Proofs.Ytamfgbenceoleaa.Span
