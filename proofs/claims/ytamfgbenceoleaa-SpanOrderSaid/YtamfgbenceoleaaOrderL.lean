import Derived.Test.YtamfgbenceoleaaOrder0
import Derived.Test.YtamfgbenceoleaaSpanC7
import Derived.Test.YtamfgbenceoleaaSpanO5
/-! The law SpanOrder. -/
namespace Go.Proofs.Ytamfgbenceoleaa.Span
set_option linter.unusedVariables false
set_option linter.unusedSimpArgs false
set_option linter.unusedSectionVars false
set_option linter.unnecessarySimpa false
open Go.Proofs.Ytamfgbenceoleaa.Ev Go.RowKit
set_option maxRecDepth 100000
set_option maxHeartbeats 4000000
theorem order_turn (op x0 x1 x2 x3 y0 y1 y2 y3 z0 z1 z2 z3 a0 a1 a2 a3 a4 b0 b1 b2 b3 b4 c0 c1 c2 c3 c4 d0 d1 d2 d3 d4 : Int) (F : List V → Hp Tok → Option (Lf Tok)) : evTurn Itp Try.prog (fromList L9) ordK olsp Try.f5 12 21 F [.bool true, .ref 8 0, .ref 9 0, .ref 14 0, .ref 19 0, iA op] [some [.int .i64 x0, .int .i64 x1, .int .i64 x2, .int .i64 x3], some [.int .i64 y0, .int .i64 y1, .int .i64 y2, .int .i64 y3], some [.int .i64 z0, .int .i64 z1, .int .i64 z2, .int .i64 z3], none, none, none, none, none, some [.int .i64 a0, .int .i64 a1, .int .i64 a2, .int .i64 a3, .int .i64 a4], some [.int .i64 b0, .int .i64 b1, .int .i64 b2, .int .i64 b3, .int .i64 b4], none, none, none, none, some [.int .i64 c0, .int .i64 c1, .int .i64 c2, .int .i64 c3, .int .i64 c4], none, none, none, none, some [.int .i64 d0, .int .i64 d1, .int .i64 d2, .int .i64 d3, .int .i64 d4], none] =
    bif decide (op ≤ 6) then bif okOp op { lo := a0, hi := a1, m := a2, r := a3, mask := a4 } { lo := c0, hi := c1, m := c2, r := c3, mask := c4 } then bif okOp op { lo := d0, hi := d1, m := d2, r := d3, mask := d4 } { lo := c0, hi := c1, m := c2, r := c3, mask := c4 } then bif validF (opA op { lo := a0, hi := a1, m := a2, r := a3, mask := a4 } { lo := c0, hi := c1, m := c2, r := c3, mask := c4 }) && validF (opA op { lo := d0, hi := d1, m := d2, r := d3, mask := d4 } { lo := c0, hi := c1, m := c2, r := c3, mask := c4 }) then bif !leqF (opA op { lo := a0, hi := a1, m := a2, r := a3, mask := a4 } { lo := c0, hi := c1, m := c2, r := c3, mask := c4 }) (opA op { lo := d0, hi := d1, m := d2, r := d3, mask := d4 } { lo := c0, hi := c1, m := c2, r := c3, mask := c4 }) then some (X.ret, [AV.bool true, AV.ref 8 0, AV.ref 9 0, AV.ref 14 0, AV.ref 19 0], [some [AV.int IntKind.i64 x0, AV.int IntKind.i64 x1, AV.int IntKind.i64 x2, AV.int IntKind.i64 x3], some [AV.int IntKind.i64 y0, AV.int IntKind.i64 y1, AV.int IntKind.i64 y2, AV.int IntKind.i64 y3], some [AV.int IntKind.i64 z0, AV.int IntKind.i64 z1, AV.int IntKind.i64 z2, AV.int IntKind.i64 z3], none, none, none, none, none, some [AV.int IntKind.i64 a0, AV.int IntKind.i64 a1, AV.int IntKind.i64 a2, AV.int IntKind.i64 a3, AV.int IntKind.i64 a4], some [AV.int IntKind.i64 b0, AV.int IntKind.i64 b1, AV.int IntKind.i64 b2, AV.int IntKind.i64 b3, AV.int IntKind.i64 b4], none, none, none, none, some [AV.int IntKind.i64 c0, AV.int IntKind.i64 c1, AV.int IntKind.i64 c2, AV.int IntKind.i64 c3, AV.int IntKind.i64 c4], none, none, none, none, some [AV.int IntKind.i64 d0, AV.int IntKind.i64 d1, AV.int IntKind.i64 d2, AV.int IntKind.i64 d3, AV.int IntKind.i64 d4], none]) else F [AV.bool true, AV.ref 8 0, AV.ref 9 0, AV.ref 14 0, AV.ref 19 0, AV.int IntKind.i64 (IntKind.i64.wrap (op + 1))] [some [AV.int IntKind.i64 x0, AV.int IntKind.i64 x1, AV.int IntKind.i64 x2, AV.int IntKind.i64 x3], some [AV.int IntKind.i64 y0, AV.int IntKind.i64 y1, AV.int IntKind.i64 y2, AV.int IntKind.i64 y3], some [AV.int IntKind.i64 z0, AV.int IntKind.i64 z1, AV.int IntKind.i64 z2, AV.int IntKind.i64 z3], none, none, none, none, none, some [AV.int IntKind.i64 a0, AV.int IntKind.i64 a1, AV.int IntKind.i64 a2, AV.int IntKind.i64 a3, AV.int IntKind.i64 a4], some [AV.int IntKind.i64 b0, AV.int IntKind.i64 b1, AV.int IntKind.i64 b2, AV.int IntKind.i64 b3, AV.int IntKind.i64 b4], none, none, none, none, some [AV.int IntKind.i64 c0, AV.int IntKind.i64 c1, AV.int IntKind.i64 c2, AV.int IntKind.i64 c3, AV.int IntKind.i64 c4], none, none, none, none, some [AV.int IntKind.i64 d0, AV.int IntKind.i64 d1, AV.int IntKind.i64 d2, AV.int IntKind.i64 d3, AV.int IntKind.i64 d4], none] else none else none else none else some (X.exit 0, [AV.bool true, AV.ref 8 0, AV.ref 9 0, AV.ref 14 0, AV.ref 19 0], [some [AV.int IntKind.i64 x0, AV.int IntKind.i64 x1, AV.int IntKind.i64 x2, AV.int IntKind.i64 x3], some [AV.int IntKind.i64 y0, AV.int IntKind.i64 y1, AV.int IntKind.i64 y2, AV.int IntKind.i64 y3], some [AV.int IntKind.i64 z0, AV.int IntKind.i64 z1, AV.int IntKind.i64 z2, AV.int IntKind.i64 z3], none, none, none, none, none, some [AV.int IntKind.i64 a0, AV.int IntKind.i64 a1, AV.int IntKind.i64 a2, AV.int IntKind.i64 a3, AV.int IntKind.i64 a4], some [AV.int IntKind.i64 b0, AV.int IntKind.i64 b1, AV.int IntKind.i64 b2, AV.int IntKind.i64 b3, AV.int IntKind.i64 b4], none, none, none, none, some [AV.int IntKind.i64 c0, AV.int IntKind.i64 c1, AV.int IntKind.i64 c2, AV.int IntKind.i64 c3, AV.int IntKind.i64 c4], none, none, none, none, some [AV.int IntKind.i64 d0, AV.int IntKind.i64 d1, AV.int IntKind.i64 d2, AV.int IntKind.i64 d3, AV.int IntKind.i64 d4], none]) := by
  kernel_rfl
theorem order_ev (x0 x1 x2 x3 y0 y1 y2 y3 z0 z1 z2 z3 : Int) : evFn Itp Try.prog (fromList L9) ordK olsp Try.f5 [.agg [.int .i64 x0, .int .i64 x1, .int .i64 x2, .int .i64 x3], .agg [.int .i64 y0, .int .i64 y1, .int .i64 y2, .int .i64 y3], .agg [.int .i64 z0, .int .i64 z1, .int .i64 z2, .int .i64 z3]] some =
    bif validF (madeF x0 x1 x2 x3) && validF (madeF y0 y1 y2 y3) then bif validF (madeF x0 x1 x2 x3) then bif validF (madeF y0 y1 y2 y3) && (okN (atV (madeF x0 x1 x2 x3) 0) && okM (andW 255 (madeF x0 x1 x2 x3).mask)) then bif validF (madeF x0 x1 x2 x3) || !hasF (madeF y0 y1 y2 y3) (atV (madeF x0 x1 x2 x3) 0) (andW 255 (madeF x0 x1 x2 x3).mask) then bif validF (madeF y0 y1 y2 y3) && (okN (atV (madeF x0 x1 x2 x3) 1) && okM (andW 255 (madeF x0 x1 x2 x3).mask)) || !hasF (madeF y0 y1 y2 y3) (atV (madeF x0 x1 x2 x3) 0) (andW 255 (madeF x0 x1 x2 x3).mask) then bif validF (madeF x0 x1 x2 x3) || !bif hasF (madeF y0 y1 y2 y3) (atV (madeF x0 x1 x2 x3) 0) (andW 255 (madeF x0 x1 x2 x3).mask) then hasF (madeF y0 y1 y2 y3) (atV (madeF x0 x1 x2 x3) 1) (andW 255 (madeF x0 x1 x2 x3).mask) else false then bif validF (madeF y0 y1 y2 y3) && (okN (atV (madeF x0 x1 x2 x3) (-1)) && okM (andW 255 (madeF x0 x1 x2 x3).mask)) || !bif hasF (madeF y0 y1 y2 y3) (atV (madeF x0 x1 x2 x3) 0) (andW 255 (madeF x0 x1 x2 x3).mask) then hasF (madeF y0 y1 y2 y3) (atV (madeF x0 x1 x2 x3) 1) (andW 255 (madeF x0 x1 x2 x3).mask) else false then bif validF (madeF x0 x1 x2 x3) && validF (madeF x0 x1 x2 x3) || !!!leqF (madeF x0 x1 x2 x3) (madeF y0 y1 y2 y3) == bif bif bif hasF (madeF y0 y1 y2 y3) (atV (madeF x0 x1 x2 x3) 0) (andW 255 (madeF x0 x1 x2 x3).mask) then hasF (madeF y0 y1 y2 y3) (atV (madeF x0 x1 x2 x3) 1) (andW 255 (madeF x0 x1 x2 x3).mask) else false then hasF (madeF y0 y1 y2 y3) (atV (madeF x0 x1 x2 x3) (-1)) (andW 255 (madeF x0 x1 x2 x3).mask) else false then bitI BinOp.andNot IntKind.i64 (madeF x0 x1 x2 x3).mask (madeF y0 y1 y2 y3).mask == 0 else false then bif validF (madeF y0 y1 y2 y3) && validF (madeF x0 x1 x2 x3) || !((!bif !leqF (madeF x0 x1 x2 x3) (madeF y0 y1 y2 y3) == bif bif bif hasF (madeF y0 y1 y2 y3) (atV (madeF x0 x1 x2 x3) 0) (andW 255 (madeF x0 x1 x2 x3).mask) then hasF (madeF y0 y1 y2 y3) (atV (madeF x0 x1 x2 x3) 1) (andW 255 (madeF x0 x1 x2 x3).mask) else false then hasF (madeF y0 y1 y2 y3) (atV (madeF x0 x1 x2 x3) (-1)) (andW 255 (madeF x0 x1 x2 x3).mask) else false then bitI BinOp.andNot IntKind.i64 (madeF x0 x1 x2 x3).mask (madeF y0 y1 y2 y3).mask == 0 else false then true else !leqF (madeF x0 x1 x2 x3) (madeF x0 x1 x2 x3)) && leqF (madeF x0 x1 x2 x3) (madeF y0 y1 y2 y3)) then bif bif bif !leqF (madeF x0 x1 x2 x3) (madeF y0 y1 y2 y3) == bif bif bif hasF (madeF y0 y1 y2 y3) (atV (madeF x0 x1 x2 x3) 0) (andW 255 (madeF x0 x1 x2 x3).mask) then hasF (madeF y0 y1 y2 y3) (atV (madeF x0 x1 x2 x3) 1) (andW 255 (madeF x0 x1 x2 x3).mask) else false then hasF (madeF y0 y1 y2 y3) (atV (madeF x0 x1 x2 x3) (-1)) (andW 255 (madeF x0 x1 x2 x3).mask) else false then bitI BinOp.andNot IntKind.i64 (madeF x0 x1 x2 x3).mask (madeF y0 y1 y2 y3).mask == 0 else false then true else !leqF (madeF x0 x1 x2 x3) (madeF x0 x1 x2 x3) then true else bif bif leqF (madeF x0 x1 x2 x3) (madeF y0 y1 y2 y3) then leqF (madeF y0 y1 y2 y3) (madeF x0 x1 x2 x3) else false then !((madeF x0 x1 x2 x3).lo == (madeF y0 y1 y2 y3).lo && ((madeF x0 x1 x2 x3).hi == (madeF y0 y1 y2 y3).hi && ((madeF x0 x1 x2 x3).m == (madeF y0 y1 y2 y3).m && ((madeF x0 x1 x2 x3).r == (madeF y0 y1 y2 y3).r && ((madeF x0 x1 x2 x3).mask == (madeF y0 y1 y2 y3).mask && true))))) else false then some (AV.bool false) else bif validF (madeF x0 x1 x2 x3) && validF (madeF y0 y1 y2 y3) then bif okOrd 4 (madeF x0 x1 x2 x3) (madeF z0 z1 z2 z3) (joinF (madeF x0 x1 x2 x3) (madeF y0 y1 y2 y3)) then bif okOp 9 (madeF x0 x1 x2 x3) (madeF z0 z1 z2 z3) then bif okOp 9 (joinF (madeF x0 x1 x2 x3) (madeF y0 y1 y2 y3)) (madeF z0 z1 z2 z3) then bif validF (opA 9 (madeF x0 x1 x2 x3) (madeF z0 z1 z2 z3)) && validF (opA 9 (joinF (madeF x0 x1 x2 x3) (madeF y0 y1 y2 y3)) (madeF z0 z1 z2 z3)) then bif okOp 10 (madeF z0 z1 z2 z3) (madeF x0 x1 x2 x3) || !leqF (opA 9 (madeF x0 x1 x2 x3) (madeF z0 z1 z2 z3)) (opA 9 (joinF (madeF x0 x1 x2 x3) (madeF y0 y1 y2 y3)) (madeF z0 z1 z2 z3)) then bif okOp 10 (madeF z0 z1 z2 z3) (joinF (madeF x0 x1 x2 x3) (madeF y0 y1 y2 y3)) || !leqF (opA 9 (madeF x0 x1 x2 x3) (madeF z0 z1 z2 z3)) (opA 9 (joinF (madeF x0 x1 x2 x3) (madeF y0 y1 y2 y3)) (madeF z0 z1 z2 z3)) then bif validF (opA 10 (madeF z0 z1 z2 z3) (madeF x0 x1 x2 x3)) && validF (opA 10 (madeF z0 z1 z2 z3) (joinF (madeF x0 x1 x2 x3) (madeF y0 y1 y2 y3))) || !leqF (opA 9 (madeF x0 x1 x2 x3) (madeF z0 z1 z2 z3)) (opA 9 (joinF (madeF x0 x1 x2 x3) (madeF y0 y1 y2 y3)) (madeF z0 z1 z2 z3)) then some (AV.bool (bif bif leqF (opA 9 (madeF x0 x1 x2 x3) (madeF z0 z1 z2 z3)) (opA 9 (joinF (madeF x0 x1 x2 x3) (madeF y0 y1 y2 y3)) (madeF z0 z1 z2 z3)) then leqF (opA 10 (madeF z0 z1 z2 z3) (madeF x0 x1 x2 x3)) (opA 10 (madeF z0 z1 z2 z3) (joinF (madeF x0 x1 x2 x3) (madeF y0 y1 y2 y3))) else false then true else false)) else none else none else none else none else none else none else none else none else none else none else none else none else none else none else none else none else none := by
  kernel_rfl
theorem okOrd_iff {op : Int} {a c d : Abs} : okOrd op a c d = true ↔ (4 ≤ op ∧ op ≤ 7) ∧ VA a ∧ VA c ∧ VA d ∧ leqF a d = true ∧ okMul a c = true ∧ okMul d c = true := by
  simp only [okOrd, Bool.and_eq_true, decide_eq_true_eq, validF_iff]
theorem okOp_of {op : Int} {a b : Abs} (hA : VA a) (hB : VA b) (h : op ≠ 6 ∨ okMul a b = true) : okOp op a b = true := by
  simp only [okOp, Bool.and_eq_true, validF_iff, Bool.or_eq_true, decide_eq_true_eq]
  exact ⟨hA, hB, h⟩
theorem ol12_key (x0 x1 x2 x3 y0 y1 y2 y3 z0 z1 z2 z3 a0 a1 a2 a3 a4 b0 b1 b2 b3 b4 c0 c1 c2 c3 c4 d0 d1 d2 d3 d4 : Int) : ∀ (k : Nat) (op : Int), okOrd op ⟨a0, a1, a2, a3, a4⟩ ⟨c0, c1, c2, c3, c4⟩ ⟨d0, d1, d2, d3, d4⟩ = true → (7 - op).toNat < k →
    ∃ n, evBody Itp Try.prog (fromList L9) ordK olsp Try.f5 12 21 n [.bool true, .ref 8 0, .ref 9 0, .ref 14 0, .ref 19 0, .int .i64 op] [some [.int .i64 x0, .int .i64 x1, .int .i64 x2, .int .i64 x3], some [.int .i64 y0, .int .i64 y1, .int .i64 y2, .int .i64 y3], some [.int .i64 z0, .int .i64 z1, .int .i64 z2, .int .i64 z3], none, none, none, none, none, some [.int .i64 a0, .int .i64 a1, .int .i64 a2, .int .i64 a3, .int .i64 a4], some [.int .i64 b0, .int .i64 b1, .int .i64 b2, .int .i64 b3, .int .i64 b4], none, none, none, none, some [.int .i64 c0, .int .i64 c1, .int .i64 c2, .int .i64 c3, .int .i64 c4], none, none, none, none, some [.int .i64 d0, .int .i64 d1, .int .i64 d2, .int .i64 d3, .int .i64 d4], none] = some (.exit 0, [.bool true, .ref 8 0, .ref 9 0, .ref 14 0, .ref 19 0], [some [.int .i64 x0, .int .i64 x1, .int .i64 x2, .int .i64 x3], some [.int .i64 y0, .int .i64 y1, .int .i64 y2, .int .i64 y3], some [.int .i64 z0, .int .i64 z1, .int .i64 z2, .int .i64 z3], none, none, none, none, none, some [.int .i64 a0, .int .i64 a1, .int .i64 a2, .int .i64 a3, .int .i64 a4], some [.int .i64 b0, .int .i64 b1, .int .i64 b2, .int .i64 b3, .int .i64 b4], none, none, none, none, some [.int .i64 c0, .int .i64 c1, .int .i64 c2, .int .i64 c3, .int .i64 c4], none, none, none, none, some [.int .i64 d0, .int .i64 d1, .int .i64 d2, .int .i64 d3, .int .i64 d4], none]) := by
  intro k
  induction k with
  | zero => intro op _ hlt; exact absurd hlt (Nat.not_lt_zero _)
  | succ k ih =>
    intro op h hlt
    obtain ⟨ho, hA, hC, hD, hl, hM1, hM2⟩ := okOrd_iff.1 h
    by_cases c : op ≤ 6
    · have e1 := op_keeps (op := op) (by omega) hA hD hC hl
      obtain ⟨n, hn⟩ := ih (op + 1) (okOrd_iff.2 ⟨by omega, hA, hC, hD, hl, hM1, hM2⟩) (by omega)
      refine ⟨n + 1, ?_⟩
      rw [evBody_succ]
      refine (order_turn op x0 x1 x2 x3 y0 y1 y2 y3 z0 z1 z2 z3 a0 a1 a2 a3 a4 b0 b1 b2 b3 b4 c0 c1 c2 c3 c4 d0 d1 d2 d3 d4 _).trans ?_
      have e2 : okOp op ⟨a0, a1, a2, a3, a4⟩ ⟨c0, c1, c2, c3, c4⟩ = true := okOp_of hA hC (.inr hM1)
      have e3 : okOp op ⟨d0, d1, d2, d3, d4⟩ ⟨c0, c1, c2, c3, c4⟩ = true := okOp_of hD hC (.inr hM2)
      have e4 : validF (opA op ⟨a0, a1, a2, a3, a4⟩ ⟨c0, c1, c2, c3, c4⟩) = true := validF_iff.2 (op_VA (by omega) hA hC)
      have e5 : validF (opA op ⟨d0, d1, d2, d3, d4⟩ ⟨c0, c1, c2, c3, c4⟩) = true := validF_iff.2 (op_VA (by omega) hD hC)
      have e6 : IntKind.i64.wrap (op + 1) = op + 1 := wrap_of (by omega) (by omega)
      simp only [c, decide_true, cond_true, e1, e2, e3, e4, e5, e6, Bool.not_true, cond_false, Bool.and_self]
      exact hn
    · refine ⟨1, ?_⟩
      rw [evBody_succ]
      refine (order_turn op x0 x1 x2 x3 y0 y1 y2 y3 z0 z1 z2 z3 a0 a1 a2 a3 a4 b0 b1 b2 b3 b4 c0 c1 c2 c3 c4 d0 d1 d2 d3 d4 _).trans ?_
      simp only [c, decide_false, cond_false]
theorem ol12_ok (vals : List V) (hp : Hp Tok) (l : Lf Tok) (hh : (ol12 vals hp).Has l) : ∃ n, evBody Itp Try.prog (fromList L9) ordK olsp Try.f5 12 hp.length n vals hp = some l := by
  unfold ol12 at hh
  split at hh
  · rename_i op
    split at hh
    · rename_i a0 a1 a2 a3 a4 c0 c1 c2 c3 c4 d0 d1 d2 d3 d4 h8 h14 h19
      obtain ⟨h, hv⟩ := has_br hh
      have hv := has_ret hv
      subst hv
      simp only [Bool.and_eq_true] at h
      obtain ⟨hsh, h⟩ := h
      obtain ⟨x0, x1, x2, x3, y0, y1, y2, y3, z0, z1, z2, z3, p0, p1, p2, p3, p4, b0, b1, b2, b3, b4, q0, q1, q2, q3, q4, r0, r1, r2, r3, r4, rfl⟩ := shOrd_inv hsh
      have i8 := Option.some.inj h8
      have i14 := Option.some.inj h14
      have i19 := Option.some.inj h19
      simp only [iA, List.cons.injEq, AV.int.injEq, true_and, and_true] at i8 i14 i19
      obtain ⟨rfl, rfl, rfl, rfl, rfl⟩ := i8
      obtain ⟨rfl, rfl, rfl, rfl, rfl⟩ := i14
      obtain ⟨rfl, rfl, rfl, rfl, rfl⟩ := i19
      exact ol12_key x0 x1 x2 x3 y0 y1 y2 y3 z0 z1 z2 z3 _ _ _ _ _ b0 b1 b2 b3 b4 _ _ _ _ _ _ _ _ _ _ _ op h (Nat.lt_succ_self _)
    · exact hh.elim
  · exact hh.elim
theorem olsp_ok (id : Nat) (vals : List V) (hp : Hp Tok) (l : Lf Tok) (h : (olsp id vals hp).Has l) : ∃ n, evBody Itp Try.prog (fromList L9) ordK olsp Try.f5 id hp.length n vals hp = some l := by
  unfold olsp at h
  split at h
  · exact ol12_ok vals hp l h
  · exact h.elim
theorem o_made (lo n m k : Int) : validF (madeF lo n m k) = true := validF_iff.2 (made_VA lo n m k)
theorem o_at {a : Abs} (h : VA a) (n k : Int) : okN (atV a n) = true ∧ okM (andW k a.mask) = true := by
  have h1 := range_of h (hasF_iff.1 (at_has h n k)).1
  have h2 := andW_range k h.2.2.2.1 h.2.2.2.2.1
  exact ⟨okN_iff.2 (by omega), okM_iff.2 ⟨h2.1, h2.2.1⟩⟩
theorem chain_ord (a b : Abs) : (a.lo == b.lo && (a.hi == b.hi && (a.m == b.m && (a.r == b.r && (a.mask == b.mask && true))))) = decide (a = b) := by
  rw [Bool.eq_iff_iff]
  simp only [Bool.and_eq_true, beq_iff_eq, and_true, decide_eq_true_eq]
  exact abs_ext.symm
theorem join_okMul {x0 x1 x2 x3 y0 y1 y2 y3 z0 z1 z2 z3 : Int} : okMul (joinF (madeF x0 x1 x2 x3) (madeF y0 y1 y2 y3)) (madeF z0 z1 z2 z3) = true := by
  have hJ := join_VA (made_VA x0 x1 x2 x3) (made_VA y0 y1 y2 y3)
  have h1 := step_range hJ
  have h2 := made_step z0 z1 z2 z3
  unfold okMul
  rw [okW_iff]
  generalize stepF (joinF (madeF x0 x1 x2 x3) (madeF y0 y1 y2 y3)) = s at *
  generalize stepF (madeF z0 z1 z2 z3) = t at *
  have h3 : 0 ≤ s * t := Int.mul_nonneg (by omega) (by omega)
  have h4 : s * t ≤ 4294967296 * 1048576 := Int.mul_le_mul (by omega) (by omega) (by omega) (by omega)
  omega
theorem all_mask {m : Int} (h : 0 ≤ m) (h' : m ≤ 255) : andW 255 m = m := by
  unfold andW
  rw [bitI_and (by decide) (by decide) h h']
  unfold andM
  have e : (255 : Int).toNat = 2 ^ 8 - 1 := rfl
  rw [e, Nat.and_comm, Nat.and_two_pow_sub_one_eq_mod]
  omega
/-- SpanOrder returns true. -/
theorem order_calls (x0 x1 x2 x3 y0 y1 y2 y3 z0 z1 z2 z3 : Int) : CallOk Itp Try.prog 5 [.agg [.int .i64 x0, .int .i64 x1, .int .i64 x2, .int .i64 x3], .agg [.int .i64 y0, .int .i64 y1, .int .i64 y2, .int .i64 y3], .agg [.int .i64 z0, .int .i64 z1, .int .i64 z2, .int .i64 z3]] (.bool true) := by
  refine fn_sound (keep := ordK) (lsp := olsp) S9 hm Try.func5 (fun c hc => loopOk_of hc (by rw [show c = (Try.f5.body).getD .skip by rw [hc]; rfl]; kernel_rfl) olsp_ok) ?_
  refine (order_ev x0 x1 x2 x3 y0 y1 y2 y3 z0 z1 z2 z3).trans ?_
  have hA := made_VA x0 x1 x2 x3
  have hB := made_VA y0 y1 y2 y3
  have hC := made_VA z0 z1 z2 z3
  have m1 := made_mul x0 x1 x2 x3 z0 z1 z2 z3
  have m2 := join_okMul (x0 := x0) (x1 := x1) (x2 := x2) (x3 := x3) (y0 := y0) (y1 := y1) (y2 := y2) (y3 := y3) (z0 := z0) (z1 := z1) (z2 := z2) (z3 := z3)
  generalize madeF x0 x1 x2 x3 = a at *
  generalize madeF y0 y1 y2 y3 = b at *
  generalize madeF z0 z1 z2 z3 = c at *
  have hJ := join_VA hA hB
  have hl := leq_left hA hB
  have f1 : validF a = true := validF_iff.2 hA
  have f2 : validF b = true := validF_iff.2 hB
  have f3 : okOrd 4 a c (joinF a b) = true := okOrd_iff.2 ⟨by omega, hA, hC, hJ, hl, m1, m2⟩
  have f4 : okOp 9 a c = true := okOp_of hA hC (.inl (by decide))
  have f5 : okOp 9 (joinF a b) c = true := okOp_of hJ hC (.inl (by decide))
  have f6 : okOp 10 c a = true := okOp_of hC hA (.inl (by decide))
  have f7 : okOp 10 c (joinF a b) = true := okOp_of hC hJ (.inl (by decide))
  have f8 : validF (opA 9 a c) = true := validF_iff.2 (op_VA (by omega) hA hC)
  have f9 : validF (opA 9 (joinF a b) c) = true := validF_iff.2 (op_VA (by omega) hJ hC)
  have f10 : validF (opA 10 c a) = true := validF_iff.2 (op_VA (by omega) hC hA)
  have f11 : validF (opA 10 c (joinF a b)) = true := validF_iff.2 (op_VA (by omega) hC hJ)
  have g1 := op_keeps (op := 9) (by omega) hA hJ hC hl
  have g2 := max_keeps hA hJ hC hl
  have g3 := leq_refl hA
  have p1 := o_at hA 0 255
  have p2 := o_at hA 1 255
  have p3 := o_at hA (-1) 255
  have q1 : (bitI .andNot .i64 a.mask b.mask == 0) = subB a.mask b.mask := bitI_sub hA.2.2.2.1 hA.2.2.2.2.1 hB.2.2.2.1 hB.2.2.2.2.1
  have q2 : andW 255 a.mask = a.mask := all_mask hA.2.2.2.1 hA.2.2.2.2.1
  have q3 := order_words hA hB
  have q4 : leqF a b = true → leqF b a = true → decide (a = b) = true := fun h k => decide_eq_true (leq_anti hA hB h k)
  rw [q2] at p1 p2 p3
  simp only [chain_ord, f1, f2, f3, f4, f5, f6, f7, f8, f9, f10, f11, g1, g2, g3, p1.1, p1.2, p2.1, p3.1, q1, q2, Bool.and_self, Bool.true_or, cond_true, cond_false, hasF, Bool.not_true]
  generalize leqF a b = L at *
  generalize leqF b a = M at *
  generalize decide (a = b) = E at *
  generalize withinF b (atV a 0) = H0 at *
  generalize withinF b (atV a 1) = H1 at *
  generalize withinF b (atV a (-1)) = H2 at *
  generalize subB a.mask b.mask = S at *
  subst q3
  cases H0 <;> cases H1 <;> cases H2 <;> cases S <;> simp_all
  cases M <;> cases E <;> simp_all
end Go.Proofs.Ytamfgbenceoleaa.Span
