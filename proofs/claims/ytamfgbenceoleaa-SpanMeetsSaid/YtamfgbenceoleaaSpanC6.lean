import Derived.Test.YtamfgbenceoleaaSpanC5
/-! The contract of Op. -/
namespace Go.Proofs.Ytamfgbenceoleaa.Span
set_option linter.unusedVariables false
set_option linter.unusedSimpArgs false
set_option linter.unusedSectionVars false
set_option linter.unnecessarySimpa false
open Go.Proofs.Ytamfgbenceoleaa.Ev Go.RowKit
set_option maxRecDepth 100000
theorem S5 : SpecOk Itp Try.prog (fromList L5) :=
  specOk_cons (en _ _ Try.func73) ok_add <| specOk_cons (en _ _ Try.func74) ok_sub <| specOk_cons (en _ _ Try.func75) ok_mul <| specOk_cons (en _ _ Try.func76) ok_div <|
  specOk_cons (en _ _ Try.func77) ok_rem <| specOk_cons (en _ _ Try.func78) ok_lesser <| specOk_cons (en _ _ Try.func79) ok_greater S4
theorem op_ev (op a0 a1 a2 a3 a4 b0 b1 b2 b3 b4 : Int) : evFn Itp Try.prog (fromList L5) (fun _ => []) noLoops Try.f13 [iA op, .agg [.int .i64 a0, .int .i64 a1, .int .i64 a2, .int .i64 a3, .int .i64 a4], .agg [.int .i64 b0, .int .i64 b1, .int .i64 b2, .int .i64 b3, .int .i64 b4]] some =
    bif stepF { lo := a0, hi := a1, m := a2, r := a3, mask := a4 } == 0 then bif stepF { lo := b0, hi := b1, m := b2, r := b3, mask := b4 } == 0 then bif okN (opG op a0 b0) then some (encA (ofF (opG op a0 b0) (bitI BinOp.or IntKind.i64 a4 b4))) else none else bif decide (op < 4) then bif okN (opG op a0 b0) then some (encA (ofF (opG op a0 b0) (bitI BinOp.or IntKind.i64 a4 b4))) else none else bif decide (op > 10) then bif okN (opG op a0 b0) then some (encA (ofF (opG op a0 b0) (bitI BinOp.or IntKind.i64 a4 b4))) else none else bif decide (IntKind.i64.wrap (op - 4) = 0) then bif validF { lo := a0, hi := a1, m := a2, r := a3, mask := a4 } && validF { lo := b0, hi := b1, m := b2, r := b3, mask := b4 } then some (encA (addF { lo := a0, hi := a1, m := a2, r := a3, mask := a4 } { lo := b0, hi := b1, m := b2, r := b3, mask := b4 } (bitI BinOp.or IntKind.i64 a4 b4))) else none else bif decide (IntKind.i64.wrap (op - 4) = 1) then bif validF { lo := a0, hi := a1, m := a2, r := a3, mask := a4 } && validF { lo := b0, hi := b1, m := b2, r := b3, mask := b4 } then some (encA (subF { lo := a0, hi := a1, m := a2, r := a3, mask := a4 } { lo := b0, hi := b1, m := b2, r := b3, mask := b4 } (bitI BinOp.or IntKind.i64 a4 b4))) else none else bif decide (IntKind.i64.wrap (op - 4) = 2) then bif validF { lo := a0, hi := a1, m := a2, r := a3, mask := a4 } && (validF { lo := b0, hi := b1, m := b2, r := b3, mask := b4 } && okMul { lo := a0, hi := a1, m := a2, r := a3, mask := a4 } { lo := b0, hi := b1, m := b2, r := b3, mask := b4 }) then some (encA (mulF { lo := a0, hi := a1, m := a2, r := a3, mask := a4 } { lo := b0, hi := b1, m := b2, r := b3, mask := b4 } (bitI BinOp.or IntKind.i64 a4 b4))) else none else bif decide (IntKind.i64.wrap (op - 4) = 3) then bif validF { lo := a0, hi := a1, m := a2, r := a3, mask := a4 } && validF { lo := b0, hi := b1, m := b2, r := b3, mask := b4 } then some (encA (divF { lo := a0, hi := a1, m := a2, r := a3, mask := a4 } { lo := b0, hi := b1, m := b2, r := b3, mask := b4 } (bitI BinOp.or IntKind.i64 a4 b4))) else none else bif decide (IntKind.i64.wrap (op - 4) = 4) then bif validF { lo := a0, hi := a1, m := a2, r := a3, mask := a4 } && validF { lo := b0, hi := b1, m := b2, r := b3, mask := b4 } then some (encA (remF { lo := a0, hi := a1, m := a2, r := a3, mask := a4 } { lo := b0, hi := b1, m := b2, r := b3, mask := b4 } (bitI BinOp.or IntKind.i64 a4 b4))) else none else bif decide (IntKind.i64.wrap (op - 4) = 5) then bif validF { lo := a0, hi := a1, m := a2, r := a3, mask := a4 } && validF { lo := b0, hi := b1, m := b2, r := b3, mask := b4 } then some (encA (lesserF { lo := a0, hi := a1, m := a2, r := a3, mask := a4 } { lo := b0, hi := b1, m := b2, r := b3, mask := b4 } (bitI BinOp.or IntKind.i64 a4 b4))) else none else bif decide (IntKind.i64.wrap (op - 4) = 6) then bif validF { lo := a0, hi := a1, m := a2, r := a3, mask := a4 } && validF { lo := b0, hi := b1, m := b2, r := b3, mask := b4 } then some (encA (greaterF { lo := a0, hi := a1, m := a2, r := a3, mask := a4 } { lo := b0, hi := b1, m := b2, r := b3, mask := b4 } (bitI BinOp.or IntKind.i64 a4 b4))) else none else none else bif decide (op < 4) then bif okN (opG op a0 b0) then some (encA (ofF (opG op a0 b0) (bitI BinOp.or IntKind.i64 a4 b4))) else none else bif decide (op > 10) then bif okN (opG op a0 b0) then some (encA (ofF (opG op a0 b0) (bitI BinOp.or IntKind.i64 a4 b4))) else none else bif decide (IntKind.i64.wrap (op - 4) = 0) then bif validF { lo := a0, hi := a1, m := a2, r := a3, mask := a4 } && validF { lo := b0, hi := b1, m := b2, r := b3, mask := b4 } then some (encA (addF { lo := a0, hi := a1, m := a2, r := a3, mask := a4 } { lo := b0, hi := b1, m := b2, r := b3, mask := b4 } (bitI BinOp.or IntKind.i64 a4 b4))) else none else bif decide (IntKind.i64.wrap (op - 4) = 1) then bif validF { lo := a0, hi := a1, m := a2, r := a3, mask := a4 } && validF { lo := b0, hi := b1, m := b2, r := b3, mask := b4 } then some (encA (subF { lo := a0, hi := a1, m := a2, r := a3, mask := a4 } { lo := b0, hi := b1, m := b2, r := b3, mask := b4 } (bitI BinOp.or IntKind.i64 a4 b4))) else none else bif decide (IntKind.i64.wrap (op - 4) = 2) then bif validF { lo := a0, hi := a1, m := a2, r := a3, mask := a4 } && (validF { lo := b0, hi := b1, m := b2, r := b3, mask := b4 } && okMul { lo := a0, hi := a1, m := a2, r := a3, mask := a4 } { lo := b0, hi := b1, m := b2, r := b3, mask := b4 }) then some (encA (mulF { lo := a0, hi := a1, m := a2, r := a3, mask := a4 } { lo := b0, hi := b1, m := b2, r := b3, mask := b4 } (bitI BinOp.or IntKind.i64 a4 b4))) else none else bif decide (IntKind.i64.wrap (op - 4) = 3) then bif validF { lo := a0, hi := a1, m := a2, r := a3, mask := a4 } && validF { lo := b0, hi := b1, m := b2, r := b3, mask := b4 } then some (encA (divF { lo := a0, hi := a1, m := a2, r := a3, mask := a4 } { lo := b0, hi := b1, m := b2, r := b3, mask := b4 } (bitI BinOp.or IntKind.i64 a4 b4))) else none else bif decide (IntKind.i64.wrap (op - 4) = 4) then bif validF { lo := a0, hi := a1, m := a2, r := a3, mask := a4 } && validF { lo := b0, hi := b1, m := b2, r := b3, mask := b4 } then some (encA (remF { lo := a0, hi := a1, m := a2, r := a3, mask := a4 } { lo := b0, hi := b1, m := b2, r := b3, mask := b4 } (bitI BinOp.or IntKind.i64 a4 b4))) else none else bif decide (IntKind.i64.wrap (op - 4) = 5) then bif validF { lo := a0, hi := a1, m := a2, r := a3, mask := a4 } && validF { lo := b0, hi := b1, m := b2, r := b3, mask := b4 } then some (encA (lesserF { lo := a0, hi := a1, m := a2, r := a3, mask := a4 } { lo := b0, hi := b1, m := b2, r := b3, mask := b4 } (bitI BinOp.or IntKind.i64 a4 b4))) else none else bif decide (IntKind.i64.wrap (op - 4) = 6) then bif validF { lo := a0, hi := a1, m := a2, r := a3, mask := a4 } && validF { lo := b0, hi := b1, m := b2, r := b3, mask := b4 } then some (encA (greaterF { lo := a0, hi := a1, m := a2, r := a3, mask := a4 } { lo := b0, hi := b1, m := b2, r := b3, mask := b4 } (bitI BinOp.or IntKind.i64 a4 b4))) else none else none := by
  kernel_rfl
theorem ok_sop : FnOk Itp Try.prog 13 spSOp := fnOk S5 hm Try.func13 spSOp fun args v hv => by
  unfold spSOp at hv
  split at hv
  · rename_i op a0 a1 a2 a3 a4 b0 b1 b2 b3 b4
    obtain ⟨h, hv⟩ := has_br hv
    have hv := has_ret hv
    subst hv
    simp only [okOp, Bool.and_eq_true, Bool.or_eq_true, decide_eq_true_eq] at h
    obtain ⟨hA, hB, hM⟩ := h
    have pA := validF_iff.1 hA
    have pB := validF_iff.1 hB
    have e1 : bitI .or .i64 a4 b4 = orM a4 b4 := bitI_or pA.2.2.2.1 pA.2.2.2.2.1 pB.2.2.2.1 pB.2.2.2.2.1
    have hw : -2147483648 ≤ opG op a0 b0 ∧ opG op a0 b0 ≤ 2147483647 := w32_range _
    have e2 : okN (opG op a0 b0) = true := okN_iff.2 (by omega)
    refine (op_ev op a0 a1 a2 a3 a4 b0 b1 b2 b3 b4).trans ?_
    simp only [e1, e2, hA, hB, beq_int, Bool.and_self, Bool.true_and, cond_true]
    by_cases c0 : op < 4 ∨ 10 < op
    · have e3 : opA op ⟨a0, a1, a2, a3, a4⟩ ⟨b0, b1, b2, b3, b4⟩ = ofF (opG op a0 b0) (orM a4 b4) := if_pos (.inr c0)
      rw [e3]
      by_cases c1 : op < 4
      · simp [c1]
      · have c2 : op > 10 := by omega
        simp [c2]
    · by_cases c1 : stepF ⟨a0, a1, a2, a3, a4⟩ = 0 ∧ stepF ⟨b0, b1, b2, b3, b4⟩ = 0
      · have e3 : opA op ⟨a0, a1, a2, a3, a4⟩ ⟨b0, b1, b2, b3, b4⟩ = ofF (opG op a0 b0) (orM a4 b4) := if_pos (.inl c1)
        rw [e3]
        simp [c1.1, c1.2]
      · have e3 : ∀ x y z : Option V, (bif decide (stepF ⟨a0, a1, a2, a3, a4⟩ = 0) then (bif decide (stepF ⟨b0, b1, b2, b3, b4⟩ = 0) then x else y) else y) = y := by
          intro x y z
          by_cases c2 : stepF ⟨a0, a1, a2, a3, a4⟩ = 0
          · have c3 : ¬ stepF ⟨b0, b1, b2, b3, b4⟩ = 0 := fun h => c1 ⟨c2, h⟩
            simp [c2, c3]
          · simp [c2]
        rw [e3 _ _ none]
        have e4 : opA op ⟨a0, a1, a2, a3, a4⟩ ⟨b0, b1, b2, b3, b4⟩ = if op = 4 then addF ⟨a0, a1, a2, a3, a4⟩ ⟨b0, b1, b2, b3, b4⟩ (orM a4 b4) else if op = 5 then subF ⟨a0, a1, a2, a3, a4⟩ ⟨b0, b1, b2, b3, b4⟩ (orM a4 b4) else if op = 6 then mulF ⟨a0, a1, a2, a3, a4⟩ ⟨b0, b1, b2, b3, b4⟩ (orM a4 b4)
            else if op = 7 then divF ⟨a0, a1, a2, a3, a4⟩ ⟨b0, b1, b2, b3, b4⟩ (orM a4 b4) else if op = 8 then remF ⟨a0, a1, a2, a3, a4⟩ ⟨b0, b1, b2, b3, b4⟩ (orM a4 b4) else if op = 9 then lesserF ⟨a0, a1, a2, a3, a4⟩ ⟨b0, b1, b2, b3, b4⟩ (orM a4 b4) else greaterF ⟨a0, a1, a2, a3, a4⟩ ⟨b0, b1, b2, b3, b4⟩ (orM a4 b4) := if_neg (by rintro (h | h); exact c1 h; exact c0 h)
        rw [e4]
        have e5 : IntKind.i64.wrap (op - 4) = op - 4 := wrap_of (by omega) (by omega)
        rw [e5]
        rcases (show op = 4 ∨ op = 5 ∨ op = 6 ∨ op = 7 ∨ op = 8 ∨ op = 9 ∨ op = 10 by omega) with rfl | rfl | rfl | rfl | rfl | rfl | rfl
        · rfl
        · rfl
        · have hM' : okMul ⟨a0, a1, a2, a3, a4⟩ ⟨b0, b1, b2, b3, b4⟩ = true := by
            rcases hM with h | h
            · exact absurd rfl h
            · exact h
          rw [hM']; rfl
        · rfl
        · rfl
        · rfl
        · rfl
  · exact hv.elim
theorem S6 : SpecOk Itp Try.prog (fromList L6) := specOk_cons (en _ _ Try.func13) ok_sop S5
end Go.Proofs.Ytamfgbenceoleaa.Span
