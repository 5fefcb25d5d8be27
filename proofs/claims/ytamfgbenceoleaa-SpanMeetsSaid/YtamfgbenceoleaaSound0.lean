import Derived.Test.YtamfgbenceoleaaSpanC7
/-! SpanSound: what its loop is said to do. -/
namespace Go.Proofs.Ytamfgbenceoleaa.Span
set_option linter.unusedVariables false
set_option linter.unusedSimpArgs false
set_option linter.unusedSectionVars false
set_option linter.unnecessarySimpa false
open Go.Proofs.Ytamfgbenceoleaa.Ev Go.RowKit
def sk : Nat → List Nat
  | 9 => [7, 8, 9, 10, 11, 12]
  | 1009 => [7]
  | _ => []
def okSound (op : Int) (a b : Abs) (v k w l : Int) : Bool := decide (4 ≤ op ∧ op ≤ 11) && (validF a && (validF b && (okMul a b && (hasF a v k && (hasF b w l && (okM k && okM l))))))
/-- The shape of the variables: a number of whole numbers each, or none. -/
def intsOk : List V → Nat → Bool
  | [], 0 => true
  | .int .i64 _ :: r, k + 1 => intsOk r k
  | _, _ => false
def shapeOk : Hp Tok → List (Option Nat) → Bool
  | [], [] => true
  | none :: r, none :: s => shapeOk r s
  | some xs :: r, some k :: s => intsOk xs k && shapeOk r s
  | _, _ => false
def sh9 : List (Option Nat) := [some 4, some 4, some 4, none, none, none, none, none, some 5, some 5, none, none, none, none, none, none, none, none, none, none, none, none, none, none, some 2, some 2, none, none]
def slot (hp : Hp Tok) (i : Nat) : Option (List V) := List.getD hp i none
def sl9 (vals : List V) (hp : Hp Tok) : Tr (Lf Tok) :=
  match vals with
  | [.bool true, .ref 8 0, .ref 9 0, .ref 24 0, .ref 25 0, .int .i64 op] =>
    match slot hp 8, slot hp 9, slot hp 24, slot hp 25 with
    | some [.int .i64 a0, .int .i64 a1, .int .i64 a2, .int .i64 a3, .int .i64 a4], some [.int .i64 b0, .int .i64 b1, .int .i64 b2, .int .i64 b3, .int .i64 b4], some [.int .i64 v0, .int .i64 v1], some [.int .i64 w0, .int .i64 w1] => .br (shapeOk hp sh9 && okSound op ⟨a0, a1, a2, a3, a4⟩ ⟨b0, b1, b2, b3, b4⟩ v0 v1 w0 w1) (.ret (.exit 0, [.bool true], hp)) .fail
    | _, _, _, _ => .fail
  | _ => .fail
theorem shape_none {hp : Hp Tok} {s : List (Option Nat)} (h : shapeOk hp (none :: s) = true) : ∃ r, hp = none :: r ∧ shapeOk r s = true := by
  unfold shapeOk at h
  split at h
  · rename_i heq; cases heq
  · rename_i r s' heq; cases heq; exact ⟨r, rfl, h⟩
  · rename_i heq; cases heq
  · cases h
theorem ints_zero {xs : List V} (h : intsOk xs 0 = true) : xs = [] := by
  unfold intsOk at h
  split at h
  · rfl
  · rename_i heq; cases heq
  · cases h
theorem ints_succ {xs : List V} {k : Nat} (h : intsOk xs (k + 1) = true) : ∃ n r, xs = iA n :: r ∧ intsOk r k = true := by
  unfold intsOk at h
  split at h
  · rename_i heq; cases heq
  · rename_i n r k' heq; cases heq; exact ⟨n, r, rfl, h⟩
  · cases h
theorem shape_some {hp : Hp Tok} {k : Nat} {s : List (Option Nat)} (h : shapeOk hp (some k :: s) = true) : ∃ xs r, hp = some xs :: r ∧ intsOk xs k = true ∧ shapeOk r s = true := by
  unfold shapeOk at h
  split at h
  · rename_i heq; cases heq
  · rename_i heq; cases heq
  · rename_i xs r k' s' heq
    cases heq
    simp only [Bool.and_eq_true] at h
    exact ⟨xs, r, rfl, h.1, h.2⟩
  · cases h
theorem shape_nil {hp : Hp Tok} (h : shapeOk hp [] = true) : hp = [] := by
  unfold shapeOk at h
  split at h
  · rfl
  · rename_i heq; cases heq
  · rename_i heq; cases heq
  · cases h
theorem shape4 {hp : Hp Tok} {s : List (Option Nat)} (h : shapeOk hp (some 4 :: s) = true) : ∃ x0 x1 x2 x3 r, hp = some [iA x0, iA x1, iA x2, iA x3] :: r ∧ shapeOk r s = true := by
  obtain ⟨xs, r, rfl, q0, h2⟩ := shape_some h
  obtain ⟨x0, r0, e0, q1⟩ := ints_succ q0
  obtain ⟨x1, r1, e1, q2⟩ := ints_succ q1
  obtain ⟨x2, r2, e2, q3⟩ := ints_succ q2
  obtain ⟨x3, r3, e3, q4⟩ := ints_succ q3
  have e4 := ints_zero q4
  subst e4 e3 e2 e1 e0
  exact ⟨_, _, _, _, _, rfl, h2⟩
theorem shape5 {hp : Hp Tok} {s : List (Option Nat)} (h : shapeOk hp (some 5 :: s) = true) : ∃ x0 x1 x2 x3 x4 r, hp = some [iA x0, iA x1, iA x2, iA x3, iA x4] :: r ∧ shapeOk r s = true := by
  obtain ⟨xs, r, rfl, q0, h2⟩ := shape_some h
  obtain ⟨x0, r0, e0, q1⟩ := ints_succ q0
  obtain ⟨x1, r1, e1, q2⟩ := ints_succ q1
  obtain ⟨x2, r2, e2, q3⟩ := ints_succ q2
  obtain ⟨x3, r3, e3, q4⟩ := ints_succ q3
  obtain ⟨x4, r4, e4, q5⟩ := ints_succ q4
  have e5 := ints_zero q5
  subst e5 e4 e3 e2 e1 e0
  exact ⟨_, _, _, _, _, _, rfl, h2⟩
theorem shape2 {hp : Hp Tok} {s : List (Option Nat)} (h : shapeOk hp (some 2 :: s) = true) : ∃ x0 x1 r, hp = some [iA x0, iA x1] :: r ∧ shapeOk r s = true := by
  obtain ⟨xs, r, rfl, q0, h2⟩ := shape_some h
  obtain ⟨x0, r0, e0, q1⟩ := ints_succ q0
  obtain ⟨x1, r1, e1, q2⟩ := ints_succ q1
  have e2 := ints_zero q2
  subst e2 e1 e0
  exact ⟨_, _, _, rfl, h2⟩
theorem sh9_inv {hp : Hp Tok} (h : shapeOk hp sh9 = true) : ∃ x0 x1 x2 x3 y0 y1 y2 y3 n0 n1 n2 n3 a0 a1 a2 a3 a4 b0 b1 b2 b3 b4 v0 v1 w0 w1, hp = [some [.int .i64 x0, .int .i64 x1, .int .i64 x2, .int .i64 x3], some [.int .i64 y0, .int .i64 y1, .int .i64 y2, .int .i64 y3], some [.int .i64 n0, .int .i64 n1, .int .i64 n2, .int .i64 n3], none, none, none, none, none, some [.int .i64 a0, .int .i64 a1, .int .i64 a2, .int .i64 a3, .int .i64 a4], some [.int .i64 b0, .int .i64 b1, .int .i64 b2, .int .i64 b3, .int .i64 b4], none, none, none, none, none, none, none, none, none, none, none, none, none, none, some [.int .i64 v0, .int .i64 v1], some [.int .i64 w0, .int .i64 w1], none, none] := by
  unfold sh9 at h
  obtain ⟨x0, x1, x2, x3, hp0, g0, k0⟩ := shape4 h
  obtain ⟨y0, y1, y2, y3, hp1, g1, k1⟩ := shape4 k0
  obtain ⟨n0, n1, n2, n3, hp2, g2, k2⟩ := shape4 k1
  obtain ⟨hp3, g3, k3⟩ := shape_none k2
  obtain ⟨hp4, g4, k4⟩ := shape_none k3
  obtain ⟨hp5, g5, k5⟩ := shape_none k4
  obtain ⟨hp6, g6, k6⟩ := shape_none k5
  obtain ⟨hp7, g7, k7⟩ := shape_none k6
  obtain ⟨a0, a1, a2, a3, a4, hp8, g8, k8⟩ := shape5 k7
  obtain ⟨b0, b1, b2, b3, b4, hp9, g9, k9⟩ := shape5 k8
  obtain ⟨hp10, g10, k10⟩ := shape_none k9
  obtain ⟨hp11, g11, k11⟩ := shape_none k10
  obtain ⟨hp12, g12, k12⟩ := shape_none k11
  obtain ⟨hp13, g13, k13⟩ := shape_none k12
  obtain ⟨hp14, g14, k14⟩ := shape_none k13
  obtain ⟨hp15, g15, k15⟩ := shape_none k14
  obtain ⟨hp16, g16, k16⟩ := shape_none k15
  obtain ⟨hp17, g17, k17⟩ := shape_none k16
  obtain ⟨hp18, g18, k18⟩ := shape_none k17
  obtain ⟨hp19, g19, k19⟩ := shape_none k18
  obtain ⟨hp20, g20, k20⟩ := shape_none k19
  obtain ⟨hp21, g21, k21⟩ := shape_none k20
  obtain ⟨hp22, g22, k22⟩ := shape_none k21
  obtain ⟨hp23, g23, k23⟩ := shape_none k22
  obtain ⟨v0, v1, hp24, g24, k24⟩ := shape2 k23
  obtain ⟨w0, w1, hp25, g25, k25⟩ := shape2 k24
  obtain ⟨hp26, g26, k26⟩ := shape_none k25
  obtain ⟨hp27, g27, k27⟩ := shape_none k26
  have g28 := shape_nil k27
  subst g28 g27 g26 g25 g24 g23 g22 g21 g20 g19 g18 g17 g16 g15 g14 g13 g12 g11 g10 g9 g8 g7 g6 g5 g4 g3 g2 g1 g0
  exact ⟨_, _, _, _, _, _, _, _, _, _, _, _, _, _, _, _, _, _, _, _, _, _, _, _, _, _, rfl⟩
def slsp : Nat → List V → Hp Tok → Tr (Lf Tok)
  | 9 => sl9
  | _ => noLoops 0
end Go.Proofs.Ytamfgbenceoleaa.Span
