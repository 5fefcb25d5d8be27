import Derived.Test.YtamfgbenceoleaaSpanC7
import Derived.Test.YtamfgbenceoleaaSpanJ
import Derived.Test.YtamfgbenceoleaaSpanQ
/-! The law SpanJoins. -/
namespace Go.Proofs.Ytamfgbenceoleaa.Span
set_option linter.unusedVariables false
set_option linter.unusedSimpArgs false
set_option linter.unusedSectionVars false
set_option linter.unnecessarySimpa false
open Go.Proofs.Ytamfgbenceoleaa.Ev Go.RowKit
set_option maxRecDepth 100000
set_option maxHeartbeats 4000000
theorem joins_ev (x0 x1 x2 x3 y0 y1 y2 y3 z0 z1 z2 z3 : Int) : evFn Itp Try.prog (fromList L9) (fun _ => []) noLoops Try.f4 [.agg [.int .i64 x0, .int .i64 x1, .int .i64 x2, .int .i64 x3], .agg [.int .i64 y0, .int .i64 y1, .int .i64 y2, .int .i64 y3], .agg [.int .i64 z0, .int .i64 z1, .int .i64 z2, .int .i64 z3]] some =
    bif validF (madeF x0 x1 x2 x3) && validF (madeF y0 y1 y2 y3) then bif !validF (joinF (madeF x0 x1 x2 x3) (madeF y0 y1 y2 y3)) then some (AV.bool false) else bif validF (madeF x0 x1 x2 x3) && validF (joinF (madeF x0 x1 x2 x3) (madeF y0 y1 y2 y3)) then bif !leqF (madeF x0 x1 x2 x3) (joinF (madeF x0 x1 x2 x3) (madeF y0 y1 y2 y3)) then some (AV.bool false) else bif validF (madeF y0 y1 y2 y3) && validF (joinF (madeF x0 x1 x2 x3) (madeF y0 y1 y2 y3)) then bif !leqF (madeF y0 y1 y2 y3) (joinF (madeF x0 x1 x2 x3) (madeF y0 y1 y2 y3)) then some (AV.bool false) else bif validF (madeF y0 y1 y2 y3) && validF (madeF x0 x1 x2 x3) then bif !((joinF (madeF x0 x1 x2 x3) (madeF y0 y1 y2 y3)).lo == (joinF (madeF y0 y1 y2 y3) (madeF x0 x1 x2 x3)).lo && ((joinF (madeF x0 x1 x2 x3) (madeF y0 y1 y2 y3)).hi == (joinF (madeF y0 y1 y2 y3) (madeF x0 x1 x2 x3)).hi && ((joinF (madeF x0 x1 x2 x3) (madeF y0 y1 y2 y3)).m == (joinF (madeF y0 y1 y2 y3) (madeF x0 x1 x2 x3)).m && ((joinF (madeF x0 x1 x2 x3) (madeF y0 y1 y2 y3)).r == (joinF (madeF y0 y1 y2 y3) (madeF x0 x1 x2 x3)).r && ((joinF (madeF x0 x1 x2 x3) (madeF y0 y1 y2 y3)).mask == (joinF (madeF y0 y1 y2 y3) (madeF x0 x1 x2 x3)).mask && true))))) then some (AV.bool false) else bif validF (madeF x0 x1 x2 x3) && validF (madeF x0 x1 x2 x3) then bif !((joinF (madeF x0 x1 x2 x3) (madeF x0 x1 x2 x3)).lo == (madeF x0 x1 x2 x3).lo && ((joinF (madeF x0 x1 x2 x3) (madeF x0 x1 x2 x3)).hi == (madeF x0 x1 x2 x3).hi && ((joinF (madeF x0 x1 x2 x3) (madeF x0 x1 x2 x3)).m == (madeF x0 x1 x2 x3).m && ((joinF (madeF x0 x1 x2 x3) (madeF x0 x1 x2 x3)).r == (madeF x0 x1 x2 x3).r && ((joinF (madeF x0 x1 x2 x3) (madeF x0 x1 x2 x3)).mask == (madeF x0 x1 x2 x3).mask && true))))) then some (AV.bool false) else bif validF (joinF (madeF x0 x1 x2 x3) (madeF y0 y1 y2 y3)) && validF (madeF z0 z1 z2 z3) then bif validF (madeF y0 y1 y2 y3) && validF (madeF z0 z1 z2 z3) then bif validF (madeF x0 x1 x2 x3) && validF (joinF (madeF y0 y1 y2 y3) (madeF z0 z1 z2 z3)) then bif !((joinF (joinF (madeF x0 x1 x2 x3) (madeF y0 y1 y2 y3)) (madeF z0 z1 z2 z3)).lo == (joinF (madeF x0 x1 x2 x3) (joinF (madeF y0 y1 y2 y3) (madeF z0 z1 z2 z3))).lo && ((joinF (joinF (madeF x0 x1 x2 x3) (madeF y0 y1 y2 y3)) (madeF z0 z1 z2 z3)).hi == (joinF (madeF x0 x1 x2 x3) (joinF (madeF y0 y1 y2 y3) (madeF z0 z1 z2 z3))).hi && ((joinF (joinF (madeF x0 x1 x2 x3) (madeF y0 y1 y2 y3)) (madeF z0 z1 z2 z3)).m == (joinF (madeF x0 x1 x2 x3) (joinF (madeF y0 y1 y2 y3) (madeF z0 z1 z2 z3))).m && ((joinF (joinF (madeF x0 x1 x2 x3) (madeF y0 y1 y2 y3)) (madeF z0 z1 z2 z3)).r == (joinF (madeF x0 x1 x2 x3) (joinF (madeF y0 y1 y2 y3) (madeF z0 z1 z2 z3))).r && ((joinF (joinF (madeF x0 x1 x2 x3) (madeF y0 y1 y2 y3)) (madeF z0 z1 z2 z3)).mask == (joinF (madeF x0 x1 x2 x3) (joinF (madeF y0 y1 y2 y3) (madeF z0 z1 z2 z3))).mask && true))))) then some (AV.bool false) else bif validF (madeF x0 x1 x2 x3) && validF (madeF z0 z1 z2 z3) then bif leqF (madeF x0 x1 x2 x3) (madeF z0 z1 z2 z3) then bif validF (madeF y0 y1 y2 y3) && validF (madeF z0 z1 z2 z3) then bif leqF (madeF y0 y1 y2 y3) (madeF z0 z1 z2 z3) then bif validF (joinF (madeF x0 x1 x2 x3) (madeF y0 y1 y2 y3)) && validF (madeF z0 z1 z2 z3) then bif !leqF (joinF (madeF x0 x1 x2 x3) (madeF y0 y1 y2 y3)) (madeF z0 z1 z2 z3) then some (AV.bool false) else bif validF (madeF x0 x1 x2 x3) && validF (madeF y0 y1 y2 y3) then bif leqF (madeF x0 x1 x2 x3) (madeF y0 y1 y2 y3) == ((joinF (madeF x0 x1 x2 x3) (madeF y0 y1 y2 y3)).lo == (madeF y0 y1 y2 y3).lo && ((joinF (madeF x0 x1 x2 x3) (madeF y0 y1 y2 y3)).hi == (madeF y0 y1 y2 y3).hi && ((joinF (madeF x0 x1 x2 x3) (madeF y0 y1 y2 y3)).m == (madeF y0 y1 y2 y3).m && ((joinF (madeF x0 x1 x2 x3) (madeF y0 y1 y2 y3)).r == (madeF y0 y1 y2 y3).r && ((joinF (madeF x0 x1 x2 x3) (madeF y0 y1 y2 y3)).mask == (madeF y0 y1 y2 y3).mask && true))))) then some (AV.bool true) else some (AV.bool false) else none else none else bif validF (madeF x0 x1 x2 x3) && validF (madeF y0 y1 y2 y3) then bif leqF (madeF x0 x1 x2 x3) (madeF y0 y1 y2 y3) == ((joinF (madeF x0 x1 x2 x3) (madeF y0 y1 y2 y3)).lo == (madeF y0 y1 y2 y3).lo && ((joinF (madeF x0 x1 x2 x3) (madeF y0 y1 y2 y3)).hi == (madeF y0 y1 y2 y3).hi && ((joinF (madeF x0 x1 x2 x3) (madeF y0 y1 y2 y3)).m == (madeF y0 y1 y2 y3).m && ((joinF (madeF x0 x1 x2 x3) (madeF y0 y1 y2 y3)).r == (madeF y0 y1 y2 y3).r && ((joinF (madeF x0 x1 x2 x3) (madeF y0 y1 y2 y3)).mask == (madeF y0 y1 y2 y3).mask && true))))) then some (AV.bool true) else some (AV.bool false) else none else none else bif validF (madeF x0 x1 x2 x3) && validF (madeF y0 y1 y2 y3) then bif leqF (madeF x0 x1 x2 x3) (madeF y0 y1 y2 y3) == ((joinF (madeF x0 x1 x2 x3) (madeF y0 y1 y2 y3)).lo == (madeF y0 y1 y2 y3).lo && ((joinF (madeF x0 x1 x2 x3) (madeF y0 y1 y2 y3)).hi == (madeF y0 y1 y2 y3).hi && ((joinF (madeF x0 x1 x2 x3) (madeF y0 y1 y2 y3)).m == (madeF y0 y1 y2 y3).m && ((joinF (madeF x0 x1 x2 x3) (madeF y0 y1 y2 y3)).r == (madeF y0 y1 y2 y3).r && ((joinF (madeF x0 x1 x2 x3) (madeF y0 y1 y2 y3)).mask == (madeF y0 y1 y2 y3).mask && true))))) then some (AV.bool true) else some (AV.bool false) else none else none else none else none else none else none else none else none else none else none := by
  kernel_rfl
theorem chain_eq (a b : Abs) : (a.lo == b.lo && (a.hi == b.hi && (a.m == b.m && (a.r == b.r && (a.mask == b.mask && true))))) = decide (a = b) := by
  rw [Bool.eq_iff_iff]
  simp only [Bool.and_eq_true, beq_iff_eq, and_true, decide_eq_true_eq]
  exact abs_ext.symm
/-- SpanJoins returns true. -/
theorem joins_calls (x0 x1 x2 x3 y0 y1 y2 y3 z0 z1 z2 z3 : Int) : CallOk Itp Try.prog 4 [.agg [.int .i64 x0, .int .i64 x1, .int .i64 x2, .int .i64 x3], .agg [.int .i64 y0, .int .i64 y1, .int .i64 y2, .int .i64 y3], .agg [.int .i64 z0, .int .i64 z1, .int .i64 z2, .int .i64 z3]] (.bool true) := by
  refine fn_sound (keep := fun _ => []) (lsp := noLoops) S9 hm Try.func4 (fun c _ => loopOk_none c) ?_
  refine (joins_ev x0 x1 x2 x3 y0 y1 y2 y3 z0 z1 z2 z3).trans ?_
  simp only [chain_eq]
  have hA := made_VA x0 x1 x2 x3
  have hB := made_VA y0 y1 y2 y3
  have hC := made_VA z0 z1 z2 z3
  generalize madeF x0 x1 x2 x3 = a at *
  generalize madeF y0 y1 y2 y3 = b at *
  generalize madeF z0 z1 z2 z3 = c at *
  have hJ := join_VA hA hB
  have hK := join_VA hB hC
  have f1 : validF a = true := validF_iff.2 hA
  have f2 : validF b = true := validF_iff.2 hB
  have f3 : validF c = true := validF_iff.2 hC
  have f4 : validF (joinF a b) = true := validF_iff.2 hJ
  have f5 : validF (joinF b c) = true := validF_iff.2 hK
  have g1 := leq_left hA hB
  have g2 := leq_right hA hB
  have g3 : decide (joinF a b = joinF b a) = true := decide_eq_true (join_comm hA hB)
  have g4 : decide (joinF a a = a) = true := decide_eq_true (join_self hA)
  have g5 : decide (joinF (joinF a b) c = joinF a (joinF b c)) = true := decide_eq_true (join_assoc hA hB hC)
  have g6 : (leqF a b == decide (joinF a b = b)) = true := by unfold leqF; simp
  simp only [f1, f2, f3, f4, f5, g1, g2, g3, g4, g5, g6, Bool.and_self, Bool.not_true, cond_true, cond_false]
  cases e1 : leqF a c with
  | false => simp only [cond_false]
  | true =>
    cases e2 : leqF b c with
    | false => simp only [cond_false, cond_true]
    | true =>
      have g7 := leq_least hA hB hC e1 e2
      simp only [g7, cond_false, cond_true, Bool.not_true]
end Go.Proofs.Ytamfgbenceoleaa.Span
