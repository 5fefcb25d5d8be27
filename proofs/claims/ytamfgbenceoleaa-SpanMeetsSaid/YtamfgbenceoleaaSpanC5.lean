import Derived.Test.YtamfgbenceoleaaSpanC4
/-! Contracts of the operators of sets. -/
namespace Go.Proofs.Ytamfgbenceoleaa.Span
set_option linter.unusedVariables false
set_option linter.unusedSimpArgs false
set_option linter.unusedSectionVars false
set_option linter.unnecessarySimpa false
open Go.Proofs.Ytamfgbenceoleaa.Ev Go.RowKit
set_option maxRecDepth 100000
theorem add_ev (a0 a1 a2 a3 a4 b0 b1 b2 b3 b4 k : Int) : evFn Itp Try.prog (fromList L4) (fun _ => []) noLoops Try.f73 [.agg [.int .i64 a0, .int .i64 a1, .int .i64 a2, .int .i64 a3, .int .i64 a4, .int .i64 b0, .int .i64 b1, .int .i64 b2, .int .i64 b3, .int .i64 b4, .int .i64 k]] some =
    bif okV (stepF { lo := a0, hi := a1, m := a2, r := a3, mask := a4 }) && okL [stepF { lo := b0, hi := b1, m := b2, r := b3, mask := b4 }] then bif okBnd (IntKind.i64.wrap (a0 + b0)) (IntKind.i64.wrap (a1 + b1)) (gcdL (stepF { lo := a0, hi := a1, m := a2, r := a3, mask := a4 }) [stepF { lo := b0, hi := b1, m := b2, r := b3, mask := b4 }]) then some (encA (boundF k (IntKind.i64.wrap (a0 + b0)) (IntKind.i64.wrap (a1 + b1)) (gcdL (stepF { lo := a0, hi := a1, m := a2, r := a3, mask := a4 }) [stepF { lo := b0, hi := b1, m := b2, r := b3, mask := b4 }]))) else none else none := by
  kernel_rfl
theorem sub_ev (a0 a1 a2 a3 a4 b0 b1 b2 b3 b4 k : Int) : evFn Itp Try.prog (fromList L4) (fun _ => []) noLoops Try.f74 [.agg [.int .i64 a0, .int .i64 a1, .int .i64 a2, .int .i64 a3, .int .i64 a4, .int .i64 b0, .int .i64 b1, .int .i64 b2, .int .i64 b3, .int .i64 b4, .int .i64 k]] some =
    bif okV (stepF { lo := a0, hi := a1, m := a2, r := a3, mask := a4 }) && okL [stepF { lo := b0, hi := b1, m := b2, r := b3, mask := b4 }] then bif okBnd (IntKind.i64.wrap (a0 - b1)) (IntKind.i64.wrap (a1 - b0)) (gcdL (stepF { lo := a0, hi := a1, m := a2, r := a3, mask := a4 }) [stepF { lo := b0, hi := b1, m := b2, r := b3, mask := b4 }]) then some (encA (boundF k (IntKind.i64.wrap (a0 - b1)) (IntKind.i64.wrap (a1 - b0)) (gcdL (stepF { lo := a0, hi := a1, m := a2, r := a3, mask := a4 }) [stepF { lo := b0, hi := b1, m := b2, r := b3, mask := b4 }]))) else none else none := by
  kernel_rfl
theorem mul_ev (a0 a1 a2 a3 a4 b0 b1 b2 b3 b4 k : Int) : evFn Itp Try.prog (fromList L4) (fun _ => []) noLoops Try.f75 [.agg [.int .i64 a0, .int .i64 a1, .int .i64 a2, .int .i64 a3, .int .i64 a4, .int .i64 b0, .int .i64 b1, .int .i64 b2, .int .i64 b3, .int .i64 b4, .int .i64 k]] some =
    bif okV a0 then bif okV b0 then bif okV (IntKind.i64.wrap (absI a0 * stepF { lo := b0, hi := b1, m := b2, r := b3, mask := b4 })) && okL [IntKind.i64.wrap (absI b0 * stepF { lo := a0, hi := a1, m := a2, r := a3, mask := a4 }), IntKind.i64.wrap (stepF { lo := a0, hi := a1, m := a2, r := a3, mask := a4 } * stepF { lo := b0, hi := b1, m := b2, r := b3, mask := b4 })] then bif okBnd (mnI (mnI (mnI (IntKind.i64.wrap (a0 * b0)) (IntKind.i64.wrap (a0 * b1))) (IntKind.i64.wrap (a1 * b0))) (IntKind.i64.wrap (a1 * b1))) (mxI (mxI (mxI (IntKind.i64.wrap (a0 * b0)) (IntKind.i64.wrap (a0 * b1))) (IntKind.i64.wrap (a1 * b0))) (IntKind.i64.wrap (a1 * b1))) (gcdL (IntKind.i64.wrap (absI a0 * stepF { lo := b0, hi := b1, m := b2, r := b3, mask := b4 })) [IntKind.i64.wrap (absI b0 * stepF { lo := a0, hi := a1, m := a2, r := a3, mask := a4 }), IntKind.i64.wrap (stepF { lo := a0, hi := a1, m := a2, r := a3, mask := a4 } * stepF { lo := b0, hi := b1, m := b2, r := b3, mask := b4 })]) then some (encA (boundF k (mnI (mnI (mnI (IntKind.i64.wrap (a0 * b0)) (IntKind.i64.wrap (a0 * b1))) (IntKind.i64.wrap (a1 * b0))) (IntKind.i64.wrap (a1 * b1))) (mxI (mxI (mxI (IntKind.i64.wrap (a0 * b0)) (IntKind.i64.wrap (a0 * b1))) (IntKind.i64.wrap (a1 * b0))) (IntKind.i64.wrap (a1 * b1))) (gcdL (IntKind.i64.wrap (absI a0 * stepF { lo := b0, hi := b1, m := b2, r := b3, mask := b4 })) [IntKind.i64.wrap (absI b0 * stepF { lo := a0, hi := a1, m := a2, r := a3, mask := a4 }), IntKind.i64.wrap (stepF { lo := a0, hi := a1, m := a2, r := a3, mask := a4 } * stepF { lo := b0, hi := b1, m := b2, r := b3, mask := b4 })]))) else none else none else none else none := by
  kernel_rfl
theorem div_ev (a0 a1 a2 a3 a4 b0 b1 b2 b3 b4 k : Int) : evFn Itp Try.prog (fromList L4) (fun _ => []) noLoops Try.f76 [.agg [.int .i64 a0, .int .i64 a1, .int .i64 a2, .int .i64 a3, .int .i64 a4, .int .i64 b0, .int .i64 b1, .int .i64 b2, .int .i64 b3, .int .i64 b4, .int .i64 k]] some =
    bif stepF { lo := b0, hi := b1, m := b2, r := b3, mask := b4 } == 0 then bif b0 != 0 then bif !decide (b0 = 0) then bif !decide (b0 = 0) then bif !decide (b0 = 0) then bif !decide (b0 = 0) then bif !valB (mnI (IntKind.i64.wrap (a0.tdiv b0)) (IntKind.i64.wrap (a1.tdiv b0))) then some (encA (allF k)) else bif !valB (mxI (IntKind.i64.wrap (a0.tdiv b0)) (IntKind.i64.wrap (a1.tdiv b0))) then some (encA (allF k)) else bif okBy (mnI (IntKind.i64.wrap (a0.tdiv b0)) (IntKind.i64.wrap (a1.tdiv b0))) (mxI (IntKind.i64.wrap (a0.tdiv b0)) (IntKind.i64.wrap (a1.tdiv b0))) 1 then some (encA (byF (mnI (IntKind.i64.wrap (a0.tdiv b0)) (IntKind.i64.wrap (a1.tdiv b0))) (mxI (IntKind.i64.wrap (a0.tdiv b0)) (IntKind.i64.wrap (a1.tdiv b0))) 1 k)) else none else none else none else none else none else bif decide (a0 < 0) then bif okV a0 then bif okV a1 then bif !valB (IntKind.i64.wrap (0 - mxI (absI a0) (absI a1))) then some (encA (allF k)) else bif !valB (mxI (absI a0) (absI a1)) then some (encA (allF k)) else bif okBy (IntKind.i64.wrap (0 - mxI (absI a0) (absI a1))) (mxI (absI a0) (absI a1)) 1 then some (encA (byF (IntKind.i64.wrap (0 - mxI (absI a0) (absI a1))) (mxI (absI a0) (absI a1)) 1 k)) else none else none else none else bif decide (b0 < 0) then bif okV a0 then bif okV a1 then bif !valB (IntKind.i64.wrap (0 - mxI (absI a0) (absI a1))) then some (encA (allF k)) else bif !valB (mxI (absI a0) (absI a1)) then some (encA (allF k)) else bif okBy (IntKind.i64.wrap (0 - mxI (absI a0) (absI a1))) (mxI (absI a0) (absI a1)) 1 then some (encA (byF (IntKind.i64.wrap (0 - mxI (absI a0) (absI a1))) (mxI (absI a0) (absI a1)) 1 k)) else none else none else none else bif !valB a1 then some (encA (allF k)) else bif okBy 0 a1 1 then some (encA (byF 0 a1 1 k)) else none else bif decide (a0 < 0) then bif okV a0 then bif okV a1 then bif !valB (IntKind.i64.wrap (0 - mxI (absI a0) (absI a1))) then some (encA (allF k)) else bif !valB (mxI (absI a0) (absI a1)) then some (encA (allF k)) else bif okBy (IntKind.i64.wrap (0 - mxI (absI a0) (absI a1))) (mxI (absI a0) (absI a1)) 1 then some (encA (byF (IntKind.i64.wrap (0 - mxI (absI a0) (absI a1))) (mxI (absI a0) (absI a1)) 1 k)) else none else none else none else bif decide (b0 < 0) then bif okV a0 then bif okV a1 then bif !valB (IntKind.i64.wrap (0 - mxI (absI a0) (absI a1))) then some (encA (allF k)) else bif !valB (mxI (absI a0) (absI a1)) then some (encA (allF k)) else bif okBy (IntKind.i64.wrap (0 - mxI (absI a0) (absI a1))) (mxI (absI a0) (absI a1)) 1 then some (encA (byF (IntKind.i64.wrap (0 - mxI (absI a0) (absI a1))) (mxI (absI a0) (absI a1)) 1 k)) else none else none else none else bif !valB a1 then some (encA (allF k)) else bif okBy 0 a1 1 then some (encA (byF 0 a1 1 k)) else none := by
  kernel_rfl
theorem rem_ev (a0 a1 a2 a3 a4 b0 b1 b2 b3 b4 k : Int) : evFn Itp Try.prog (fromList L4) (fun _ => []) noLoops Try.f77 [.agg [.int .i64 a0, .int .i64 a1, .int .i64 a2, .int .i64 a3, .int .i64 a4, .int .i64 b0, .int .i64 b1, .int .i64 b2, .int .i64 b3, .int .i64 b4, .int .i64 k]] some =
    bif okV b0 then bif stepF { lo := b0, hi := b1, m := b2, r := b3, mask := b4 } != 0 then bif okBy (mnI a0 0) (mxI a1 0) 1 then some (encA (byF (mnI a0 0) (mxI a1 0) 1 k)) else none else bif absI b0 == 0 then some (AV.agg [AV.int IntKind.i64 a0, AV.int IntKind.i64 a1, AV.int IntKind.i64 a2, AV.int IntKind.i64 a3, AV.int IntKind.i64 k]) else bif decide (a0 ≥ 0) then bif decide (a1 < absI b0) then some (AV.agg [AV.int IntKind.i64 a0, AV.int IntKind.i64 a1, AV.int IntKind.i64 a2, AV.int IntKind.i64 a3, AV.int IntKind.i64 k]) else bif okV (stepF { lo := a0, hi := a1, m := a2, r := a3, mask := k }) && okL [absI b0] then bif okLike a0 (gcdL (stepF { lo := a0, hi := a1, m := a2, r := a3, mask := k }) [absI b0]) (mxI (mnI a0 0) (IntKind.i64.wrap (1 - absI b0))) (mnI (mxI a1 0) (IntKind.i64.wrap (absI b0 - 1))) then some (encA (likeF a0 (gcdL (stepF { lo := a0, hi := a1, m := a2, r := a3, mask := k }) [absI b0]) (mxI (mnI a0 0) (IntKind.i64.wrap (1 - absI b0))) (mnI (mxI a1 0) (IntKind.i64.wrap (absI b0 - 1))) k)) else none else none else bif okV (stepF { lo := a0, hi := a1, m := a2, r := a3, mask := k }) && okL [absI b0] then bif okLike a0 (gcdL (stepF { lo := a0, hi := a1, m := a2, r := a3, mask := k }) [absI b0]) (mxI (mnI a0 0) (IntKind.i64.wrap (1 - absI b0))) (mnI (mxI a1 0) (IntKind.i64.wrap (absI b0 - 1))) then some (encA (likeF a0 (gcdL (stepF { lo := a0, hi := a1, m := a2, r := a3, mask := k }) [absI b0]) (mxI (mnI a0 0) (IntKind.i64.wrap (1 - absI b0))) (mnI (mxI a1 0) (IntKind.i64.wrap (absI b0 - 1))) k)) else none else none else none := by
  kernel_rfl
theorem lesser_ev (a0 a1 a2 a3 a4 b0 b1 b2 b3 b4 k : Int) : evFn Itp Try.prog (fromList L4) (fun _ => []) noLoops Try.f78 [.agg [.int .i64 a0, .int .i64 a1, .int .i64 a2, .int .i64 a3, .int .i64 a4, .int .i64 b0, .int .i64 b1, .int .i64 b2, .int .i64 b3, .int .i64 b4, .int .i64 k]] some =
    bif validF { lo := a0, hi := a1, m := a2, r := a3, mask := a4 } && validF { lo := b0, hi := b1, m := b2, r := b3, mask := b4 } then bif okBy (mnI a0 b0) (mnI a1 b1) (apartF { lo := a0, hi := a1, m := a2, r := a3, mask := a4 } { lo := b0, hi := b1, m := b2, r := b3, mask := b4 }) then some (encA (byF (mnI a0 b0) (mnI a1 b1) (apartF { lo := a0, hi := a1, m := a2, r := a3, mask := a4 } { lo := b0, hi := b1, m := b2, r := b3, mask := b4 }) k)) else none else none := by
  kernel_rfl
theorem greater_ev (a0 a1 a2 a3 a4 b0 b1 b2 b3 b4 k : Int) : evFn Itp Try.prog (fromList L4) (fun _ => []) noLoops Try.f79 [.agg [.int .i64 a0, .int .i64 a1, .int .i64 a2, .int .i64 a3, .int .i64 a4, .int .i64 b0, .int .i64 b1, .int .i64 b2, .int .i64 b3, .int .i64 b4, .int .i64 k]] some =
    bif validF { lo := a0, hi := a1, m := a2, r := a3, mask := a4 } && validF { lo := b0, hi := b1, m := b2, r := b3, mask := b4 } then bif okBy (mxI a0 b0) (mxI a1 b1) (apartF { lo := a0, hi := a1, m := a2, r := a3, mask := a4 } { lo := b0, hi := b1, m := b2, r := b3, mask := b4 }) then some (encA (byF (mxI a0 b0) (mxI a1 b1) (apartF { lo := a0, hi := a1, m := a2, r := a3, mask := a4 } { lo := b0, hi := b1, m := b2, r := b3, mask := b4 }) k)) else none else none := by
  kernel_rfl
theorem mul_le {a b : Int} (ha : -2147483648 ≤ a ∧ a ≤ 2147483648) (hb : -4294967296 ≤ b ∧ b ≤ 4294967296) : -9223372036854775808 ≤ a * b ∧ a * b ≤ 9223372036854775808 := by
  have h : (a * b).natAbs ≤ 2147483648 * 4294967296 := by rw [Int.natAbs_mul]; exact Nat.mul_le_mul (by omega) (by omega)
  omega
theorem mul_le' {a b : Int} (ha : 0 ≤ a ∧ a ≤ 2147483648) (hb : 0 ≤ b ∧ b ≤ 4294967295) : 0 ≤ a * b ∧ a * b ≤ 9223372034707292160 := by
  have h : (a * b).natAbs ≤ 2147483648 * 4294967295 := by rw [Int.natAbs_mul]; exact Nat.mul_le_mul (by omega) (by omega)
  have h0 : 0 ≤ a * b := Int.mul_nonneg ha.1 hb.1
  omega
theorem mul_le32 {a b : Int} (ha : -2147483648 ≤ a ∧ a ≤ 2147483648) (hb : -2147483648 ≤ b ∧ b ≤ 2147483648) : -4611686018427387904 ≤ a * b ∧ a * b ≤ 4611686018427387904 := by
  have h : (a * b).natAbs ≤ 2147483648 * 2147483648 := by rw [Int.natAbs_mul]; exact Nat.mul_le_mul (by omega) (by omega)
  omega
theorem steps_range {a b : Abs} (ha : VA a) (hb : VA b) : 0 ≤ gcdL (stepF a) [stepF b] ∧ gcdL (stepF a) [stepF b] ≤ 4294967295 ∧ (gcdL (stepF a) [stepF b] = 0 → a.lo = a.hi ∧ b.lo = b.hi) := by
  have sa := step_range ha
  have sb := step_range hb
  refine ⟨gcdL_nonneg _ _, gcdL_le (by omega) (by omega) (fun x hx => by simp only [List.mem_cons, List.mem_nil_iff, or_false] at hx; subst hx; omega), fun h => ?_⟩
  obtain ⟨h1, h2⟩ := gcdL_zero h
  exact ⟨(step_zero ha).1 h1, (step_zero hb).1 (h2 _ (by simp))⟩
theorem okL_one {x : Int} (hx : okV x = true) : okL [x] = true := by simp [okL, hx]
theorem ok_add : FnOk Itp Try.prog 73 spAdd := fnOk S4 hm Try.func73 spAdd fun args v hv => by
  unfold spAdd at hv
  split at hv
  · rename_i a0 a1 a2 a3 a4 b0 b1 b2 b3 b4 k
    obtain ⟨h, hv⟩ := has_br hv
    have hv := has_ret hv
    subst hv
    simp only [Bool.and_eq_true, validF_iff] at h
    obtain ⟨hA, hB⟩ := h
    have sA := step_range hA
    have sB := step_range hB
    have hg := steps_range hA hB
    obtain ⟨p1, p2, p3, p4, p5, -⟩ := hA
    obtain ⟨q1, q2, q3, q4, q5, -⟩ := hB
    simp only at p1 p2 p3 p4 p5 q1 q2 q3 q4 q5 hg
    refine (add_ev a0 a1 a2 a3 a4 b0 b1 b2 b3 b4 k).trans ?_
    have e1 : IntKind.i64.wrap (a0 + b0) = a0 + b0 := wrap_of (by omega) (by omega)
    have e2 : IntKind.i64.wrap (a1 + b1) = a1 + b1 := wrap_of (by omega) (by omega)
    have e3 : okV (stepF ⟨a0, a1, a2, a3, a4⟩) = true := okV_iff.2 (by omega)
    have e4 : okL [stepF ⟨b0, b1, b2, b3, b4⟩] = true := okL_one (okV_iff.2 (by omega))
    have e5 : okBnd (a0 + b0) (a1 + b1) (gcdL (stepF ⟨a0, a1, a2, a3, a4⟩) [stepF ⟨b0, b1, b2, b3, b4⟩]) = true := okBnd_iff.2 ⟨by omega, by omega, by omega, by omega, by omega, by omega⟩
    simp only [e1, e2, e3, e4, e5, Bool.and_self, cond_true]
    rfl
  · exact hv.elim
theorem ok_sub : FnOk Itp Try.prog 74 spSub := fnOk S4 hm Try.func74 spSub fun args v hv => by
  unfold spSub at hv
  split at hv
  · rename_i a0 a1 a2 a3 a4 b0 b1 b2 b3 b4 k
    obtain ⟨h, hv⟩ := has_br hv
    have hv := has_ret hv
    subst hv
    simp only [Bool.and_eq_true, validF_iff] at h
    obtain ⟨hA, hB⟩ := h
    have sA := step_range hA
    have sB := step_range hB
    have hg := steps_range hA hB
    obtain ⟨p1, p2, p3, p4, p5, -⟩ := hA
    obtain ⟨q1, q2, q3, q4, q5, -⟩ := hB
    simp only at p1 p2 p3 p4 p5 q1 q2 q3 q4 q5 hg
    refine (sub_ev a0 a1 a2 a3 a4 b0 b1 b2 b3 b4 k).trans ?_
    have e1 : IntKind.i64.wrap (a0 - b1) = a0 - b1 := wrap_of (by omega) (by omega)
    have e2 : IntKind.i64.wrap (a1 - b0) = a1 - b0 := wrap_of (by omega) (by omega)
    have e3 : okV (stepF ⟨a0, a1, a2, a3, a4⟩) = true := okV_iff.2 (by omega)
    have e4 : okL [stepF ⟨b0, b1, b2, b3, b4⟩] = true := okL_one (okV_iff.2 (by omega))
    have e5 : okBnd (a0 - b1) (a1 - b0) (gcdL (stepF ⟨a0, a1, a2, a3, a4⟩) [stepF ⟨b0, b1, b2, b3, b4⟩]) = true := okBnd_iff.2 ⟨by omega, by omega, by omega, by omega, by omega, by omega⟩
    simp only [e1, e2, e3, e4, e5, Bool.and_self, cond_true]
    rfl
  · exact hv.elim
theorem ok_mul : FnOk Itp Try.prog 75 spMul := fnOk S4 hm Try.func75 spMul fun args v hv => by
  unfold spMul at hv
  split at hv
  · rename_i a0 a1 a2 a3 a4 b0 b1 b2 b3 b4 k
    obtain ⟨h, hv⟩ := has_br hv
    have hv := has_ret hv
    subst hv
    simp only [Bool.and_eq_true, validF_iff, okMul, okW_iff] at h
    obtain ⟨hA, hB, hM⟩ := h
    have sA := step_range hA
    have sB := step_range hB
    have zA := step_zero hA
    have zB := step_zero hB
    obtain ⟨p1, p2, p3, p4, p5, -⟩ := hA
    obtain ⟨q1, q2, q3, q4, q5, -⟩ := hB
    simp only at p1 p2 p3 p4 p5 q1 q2 q3 q4 q5 zA zB
    refine (mul_ev a0 a1 a2 a3 a4 b0 b1 b2 b3 b4 k).trans ?_
    have hst : 0 ≤ stepF ⟨a0, a1, a2, a3, a4⟩ * stepF ⟨b0, b1, b2, b3, b4⟩ := Int.mul_nonneg sA.1 sB.1
    rw [show mulF ⟨a0, a1, a2, a3, a4⟩ ⟨b0, b1, b2, b3, b4⟩ k = boundF k (min (min (min (a0 * b0) (a0 * b1)) (a1 * b0)) (a1 * b1)) (max (max (max (a0 * b0) (a0 * b1)) (a1 * b0)) (a1 * b1)) (gcdL (absI a0 * stepF ⟨b0, b1, b2, b3, b4⟩) [absI b0 * stepF ⟨a0, a1, a2, a3, a4⟩, stepF ⟨a0, a1, a2, a3, a4⟩ * stepF ⟨b0, b1, b2, b3, b4⟩]) from rfl]
    generalize hsA : stepF ⟨a0, a1, a2, a3, a4⟩ = s at *
    generalize hsB : stepF ⟨b0, b1, b2, b3, b4⟩ = t at *
    have m1 := mul_le32 (a := a0) (b := b0) (by omega) (by omega)
    have m2 := mul_le32 (a := a0) (b := b1) (by omega) (by omega)
    have m3 := mul_le32 (a := a1) (b := b0) (by omega) (by omega)
    have m4 := mul_le32 (a := a1) (b := b1) (by omega) (by omega)
    have m5 := mul_le' (a := absI a0) (b := t) (by unfold absI; omega) (by omega)
    have m6 := mul_le' (a := absI b0) (b := s) (by unfold absI; omega) (by omega)
    have e1 : IntKind.i64.wrap (a0 * b0) = a0 * b0 := wrap_of (by omega) (by omega)
    have e2 : IntKind.i64.wrap (a0 * b1) = a0 * b1 := wrap_of (by omega) (by omega)
    have e3 : IntKind.i64.wrap (a1 * b0) = a1 * b0 := wrap_of (by omega) (by omega)
    have e4 : IntKind.i64.wrap (a1 * b1) = a1 * b1 := wrap_of (by omega) (by omega)
    have e5 : IntKind.i64.wrap (absI a0 * t) = absI a0 * t := wrap_of (by omega) (by omega)
    have e6 : IntKind.i64.wrap (absI b0 * s) = absI b0 * s := wrap_of (by omega) (by omega)
    have e7 : IntKind.i64.wrap (s * t) = s * t := wrap_of (by omega) (by omega)
    have e8 : okV a0 = true := okV_iff.2 (by omega)
    have e9 : okV b0 = true := okV_iff.2 (by omega)
    have e10 : okV (absI a0 * t) = true := okV_iff.2 (by omega)
    have e11 : okL [absI b0 * s, s * t] = true := okL_two (okV_iff.2 (by omega)) (okV_iff.2 (by omega))
    have hg0 := gcdL_nonneg (absI a0 * t) [absI b0 * s, s * t]
    have hg1 : gcdL (absI a0 * t) [absI b0 * s, s * t] ≤ 9223372034707292160 := gcdL_le (by omega) (by omega) (fun x hx => by
      simp only [List.mem_cons, List.mem_nil_iff, or_false] at hx
      rcases hx with rfl | rfl <;> omega)
    have hz : gcdL (absI a0 * t) [absI b0 * s, s * t] = 0 → min (min (min (a0 * b0) (a0 * b1)) (a1 * b0)) (a1 * b1) = max (max (max (a0 * b0) (a0 * b1)) (a1 * b0)) (a1 * b1) := fun h0 => by
      obtain ⟨h1, h2⟩ := gcdL_zero h0
      have h3 := h2 (absI b0 * s) (by simp)
      have h4 := h2 (s * t) (by simp)
      have hb : b0 = b1 ∨ a0 = 0 := by
        rcases Int.mul_eq_zero.1 h1 with h | h
        · right; unfold absI at h; omega
        · left; exact zB.1 h
      have ha : a0 = a1 ∨ b0 = 0 := by
        rcases Int.mul_eq_zero.1 h3 with h | h
        · right; unfold absI at h; omega
        · left; exact zA.1 h
      have hab : a0 = a1 ∨ b0 = b1 := by
        rcases Int.mul_eq_zero.1 h4 with h | h
        · left; exact zA.1 h
        · right; exact zB.1 h
      rcases hab with hh | hh
      · rcases hb with h | h
        · subst hh h; omega
        · subst hh; subst h; simp
      · rcases ha with h | h
        · subst hh h; omega
        · subst hh; subst h; simp
    simp only [e1, e2, e3, e4, e5, e6, e7, e8, e9, e10, e11, mnI_eq, mxI_eq, Bool.and_self, cond_true]
    generalize gcdL (absI a0 * t) [absI b0 * s, s * t] = g at *
    have e12 : okBnd (min (min (min (a0 * b0) (a0 * b1)) (a1 * b0)) (a1 * b1)) (max (max (max (a0 * b0) (a0 * b1)) (a1 * b0)) (a1 * b1)) g = true := okBnd_iff.2 ⟨by omega, by omega, by omega, by omega, by omega, hz⟩
    rw [e12]; rfl
  · exact hv.elim
theorem bne_int {a b : Int} : (a != b) = !decide (a = b) := by rw [bne, beq_int]
theorem div_fin {x y : Int} (k : Int) (hxy : x ≤ y) : (bif !valB x then some (encA (allF k)) else bif !valB y then some (encA (allF k)) else bif okBy x y 1 then some (encA (byF x y 1 k)) else none) = some (encA (if valB x && valB y then byF x y 1 k else allF k)) := by
  cases c1 : valB x with
  | false => simp
  | true =>
    cases c2 : valB y with
    | false => simp
    | true =>
      rw [valB_iff] at c1 c2
      rw [show okBy x y 1 = true from okBy_iff.2 ⟨by omega, by omega, by omega, by omega, by omega, by omega⟩]
      simp
theorem tdiv_range (x y : Int) (hx : -2147483648 ≤ x ∧ x ≤ 2147483647) : -2147483648 ≤ Int.tdiv x y ∧ Int.tdiv x y ≤ 2147483648 := by
  have h : (Int.tdiv x y).natAbs ≤ 2147483648 := by rw [Int.natAbs_tdiv]; exact Nat.le_trans (Nat.div_le_self _ _) (by omega)
  omega
theorem ok_div : FnOk Itp Try.prog 76 spDiv := fnOk S4 hm Try.func76 spDiv fun args v hv => by
  unfold spDiv at hv
  split at hv
  · rename_i a0 a1 a2 a3 a4 b0 b1 b2 b3 b4 k
    obtain ⟨h, hv⟩ := has_br hv
    have hv := has_ret hv
    subst hv
    simp only [Bool.and_eq_true, validF_iff] at h
    obtain ⟨hA, hB⟩ := h
    obtain ⟨p1, p2, p3, p4, p5, -⟩ := hA
    obtain ⟨q1, q2, q3, q4, q5, -⟩ := hB
    simp only at p1 p2 p3 p4 p5 q1 q2 q3 q4 q5
    refine (div_ev a0 a1 a2 a3 a4 b0 b1 b2 b3 b4 k).trans ?_
    have d0 := tdiv_range a0 b0 ⟨by omega, by omega⟩
    have d1 := tdiv_range a1 b0 ⟨by omega, by omega⟩
    have e1 : IntKind.i64.wrap (a0.tdiv b0) = a0.tdiv b0 := wrap_of (by omega) (by omega)
    have e2 : IntKind.i64.wrap (a1.tdiv b0) = a1.tdiv b0 := wrap_of (by omega) (by omega)
    have e3 : okV a0 = true := okV_iff.2 (by omega)
    have e4 : okV a1 = true := okV_iff.2 (by omega)
    have e5 : IntKind.i64.wrap (0 - max (absI a0) (absI a1)) = - max (absI a0) (absI a1) := by rw [wrap_of (by unfold absI; omega) (by unfold absI; omega)]; omega
    have e6 : valB 0 = true := by decide
    have f1 := div_fin (x := min (a0.tdiv b0) (a1.tdiv b0)) (y := max (a0.tdiv b0) (a1.tdiv b0)) k (by omega)
    have f2 := div_fin (x := - max (absI a0) (absI a1)) (y := max (absI a0) (absI a1)) k (by unfold absI; omega)
    simp only [beq_int, bne_int, mnI_eq, mxI_eq, e1, e2, e3, e4, e5, cond_true, f1, f2]
    by_cases c1 : stepF ⟨b0, b1, b2, b3, b4⟩ = 0
    · by_cases c2 : b0 = 0
      · subst c2
        by_cases c3 : a0 < 0
        · simp [c1, c3, divF, divLo, divHi]
        · have f3 := div_fin (x := 0) (y := a1) k (by omega)
          rw [e6] at f3
          simp only [Bool.not_true, cond_false] at f3
          simp [c1, c3, divF, divLo, divHi, f3, e6]
      · simp [c1, c2, divF, divLo, divHi]
    · by_cases c3 : a0 < 0
      · simp [c1, c3, divF, divLo, divHi]
      · by_cases c4 : b0 < 0
        · simp [c1, c3, c4, divF, divLo, divHi]
        · have f3 := div_fin (x := 0) (y := a1) k (by omega)
          rw [e6] at f3
          simp only [Bool.not_true, cond_false] at f3
          simp [c1, c3, c4, divF, divLo, divHi, f3, e6]
  · exact hv.elim
theorem ok_rem : FnOk Itp Try.prog 77 spRem := fnOk S4 hm Try.func77 spRem fun args v hv => by
  unfold spRem at hv
  split at hv
  · rename_i a0 a1 a2 a3 a4 b0 b1 b2 b3 b4 k
    obtain ⟨h, hv⟩ := has_br hv
    have hv := has_ret hv
    subst hv
    simp only [Bool.and_eq_true, validF_iff] at h
    obtain ⟨hA, hB⟩ := h
    have sA := step_range hA
    have zA := step_zero hA
    obtain ⟨p1, p2, p3, p4, p5, -⟩ := hA
    obtain ⟨q1, q2, q3, q4, q5, -⟩ := hB
    simp only at p1 p2 p3 p4 p5 q1 q2 q3 q4 q5 zA
    refine (rem_ev a0 a1 a2 a3 a4 b0 b1 b2 b3 b4 k).trans ?_
    have e1 : okV b0 = true := okV_iff.2 (by omega)
    have hn : 0 ≤ absI b0 ∧ absI b0 ≤ 2147483648 := by unfold absI; omega
    have hs : stepF ⟨a0, a1, a2, a3, k⟩ = stepF ⟨a0, a1, a2, a3, a4⟩ := rfl
    simp only [hs, beq_int, bne_int, mnI_eq, mxI_eq, e1, cond_true]
    generalize hsA : stepF ⟨a0, a1, a2, a3, a4⟩ = s at *
    generalize hnn : absI b0 = n at *
    by_cases c1 : stepF ⟨b0, b1, b2, b3, b4⟩ = 0
    · by_cases c2 : n = 0
      · simp [c1, c2, remF, hnn, encA]
      · by_cases c3 : 0 ≤ a0 ∧ a1 < n
        · simp [c1, c2, c3.1, c3.2, remF, hnn, encA]
        · have hg0 := gcdL_nonneg s [n]
          have hg1 : gcdL s [n] ≠ 0 := fun h0 => by have := (gcdL_zero h0).2 n (by simp); omega
          have hg2 : gcdL s [n] ≤ n := Int.le_of_dvd (by omega) ((gcdL_self (a := s) (l := [n])).2 n (by simp))
          have e2 : IntKind.i64.wrap (1 - n) = 1 - n := wrap_of (by omega) (by omega)
          have e3 : IntKind.i64.wrap (n - 1) = n - 1 := wrap_of (by omega) (by omega)
          have e4 : okV s = true := okV_iff.2 (by omega)
          have e5 : okL [n] = true := okL_one (okV_iff.2 (by omega))
          have hr0 := fun x : Int => Int.emod_nonneg x hg1
          have hr1 := fun x : Int => Int.emod_lt_of_pos x (show 0 < gcdL s [n] by omega)
          have r0 := hr0 (a0 - max (min a0 0) (1 - n))
          have r1 := hr1 (a0 - max (min a0 0) (1 - n))
          have hfit : max (min a0 0) (1 - n) + (a0 - max (min a0 0) (1 - n)) % gcdL s [n] ≤ min (max a1 0) (n - 1) := by
            by_cases c4 : 0 ≤ a0
            · have : max (min a0 0) (1 - n) = 0 := by omega
              rw [this] at r0 r1 ⊢; omega
            · by_cases c5 : a0 < 1 - n
              · have : max (min a0 0) (1 - n) = 1 - n := by omega
                rw [this] at r0 r1 ⊢; omega
              · have : max (min a0 0) (1 - n) = a0 := by omega
                rw [this, Int.sub_self, Int.zero_emod]; omega
          have e6 : okLike a0 (gcdL s [n]) (max (min a0 0) (1 - n)) (min (max a1 0) (n - 1)) = true := okLike_iff.2 ⟨by omega, by omega, by omega, by omega, by omega, hfit⟩
          have e7 : remF ⟨a0, a1, a2, a3, a4⟩ ⟨b0, b1, b2, b3, b4⟩ k = likeF a0 (gcdL s [n]) (max (min a0 0) (1 - n)) (min (max a1 0) (n - 1)) k := by
            unfold remF
            simp only [c1, hnn, hsA, ne_eq, not_true, if_false, c2, c3, or_self]
          rw [e7]
          simp only [e2, e3, e4, e5, e6, c1, c2, decide_true, decide_false, Bool.not_true, cond_false, Bool.and_self, cond_true]
          by_cases c4 : 0 ≤ a0
          · have c6 : ¬ a1 < n := fun h => c3 ⟨c4, h⟩
            simp [c4, c6]
          · simp [c4]
    · have e2 : okBy (min a0 0) (max a1 0) 1 = true := okBy_iff.2 ⟨by omega, by omega, by omega, by omega, by omega, by omega⟩
      simp [c1, remF, e2]
  · exact hv.elim
theorem ok_lesser : FnOk Itp Try.prog 78 spLesser := fnOk S4 hm Try.func78 spLesser fun args v hv => by
  unfold spLesser at hv
  split at hv
  · rename_i a0 a1 a2 a3 a4 b0 b1 b2 b3 b4 k
    obtain ⟨h, hv⟩ := has_br hv
    have hv := has_ret hv
    subst hv
    have h' := h
    simp only [Bool.and_eq_true, validF_iff] at h'
    obtain ⟨hA, hB⟩ := h'
    have hr := apart_range hA hB
    have hz := apart_zero hA hB
    obtain ⟨p1, p2, p3, p4, p5, -⟩ := hA
    obtain ⟨q1, q2, q3, q4, q5, -⟩ := hB
    simp only at p1 p2 p3 p4 p5 q1 q2 q3 q4 q5
    refine (lesser_ev a0 a1 a2 a3 a4 b0 b1 b2 b3 b4 k).trans ?_
    rw [h, mnI_eq, mnI_eq, show okBy (min a0 b0) (min a1 b1) (apartF ⟨a0, a1, a2, a3, a4⟩ ⟨b0, b1, b2, b3, b4⟩) = true from okBy_iff.2 ⟨by omega, by omega, by omega, by omega, by omega, fun h0 => by have := hz h0; simp only at this; omega⟩]
    rfl
  · exact hv.elim
theorem ok_greater : FnOk Itp Try.prog 79 spGreater := fnOk S4 hm Try.func79 spGreater fun args v hv => by
  unfold spGreater at hv
  split at hv
  · rename_i a0 a1 a2 a3 a4 b0 b1 b2 b3 b4 k
    obtain ⟨h, hv⟩ := has_br hv
    have hv := has_ret hv
    subst hv
    have h' := h
    simp only [Bool.and_eq_true, validF_iff] at h'
    obtain ⟨hA, hB⟩ := h'
    have hr := apart_range hA hB
    have hz := apart_zero hA hB
    obtain ⟨p1, p2, p3, p4, p5, -⟩ := hA
    obtain ⟨q1, q2, q3, q4, q5, -⟩ := hB
    simp only at p1 p2 p3 p4 p5 q1 q2 q3 q4 q5
    refine (greater_ev a0 a1 a2 a3 a4 b0 b1 b2 b3 b4 k).trans ?_
    rw [h, mxI_eq, mxI_eq, show okBy (max a0 b0) (max a1 b1) (apartF ⟨a0, a1, a2, a3, a4⟩ ⟨b0, b1, b2, b3, b4⟩) = true from okBy_iff.2 ⟨by omega, by omega, by omega, by omega, by omega, fun h0 => by have := hz h0; simp only at this; omega⟩]
    rfl
  · exact hv.elim
end Go.Proofs.Ytamfgbenceoleaa.Span
