import Derived.Test.YtamfgbenceoleaaSpanC1
/-! Contracts: by, within, gcd. -/
namespace Go.Proofs.Ytamfgbenceoleaa.Span
set_option linter.unusedVariables false
set_option linter.unusedSimpArgs false
set_option linter.unusedSectionVars false
set_option linter.unnecessarySimpa false
open Go.Proofs.Ytamfgbenceoleaa.Ev Go.RowKit
set_option maxRecDepth 100000
theorem okBy_iff {lo hi m : Int} : okBy lo hi m = true ↔ (-1099511627776 ≤ lo ∧ lo ≤ 1099511627776) ∧ (-1099511627776 ≤ hi ∧ hi ≤ 1099511627776) ∧ (-9223372036854775807 ≤ m ∧ m ≤ 9223372036854775807) ∧ lo ≤ hi ∧ 0 ≤ m ∧ (m = 0 → lo = hi) := by
  simp only [okBy, Bool.and_eq_true, okN_iff, okV_iff, decide_eq_true_eq]
theorem okMod_iff {m : Int} : okMod m = true ↔ 0 < m ∧ (-4611686018427387904 ≤ m ∧ m ≤ 4611686018427387904) := by
  simp only [okMod, Bool.and_eq_true, okW_iff, decide_eq_true_eq]
/-- A step that is used is no greater than the range. -/
theorem okMod_by {lo hi m : Int} (hm : m > 0) (h : lo ≤ hi) (hl : -1099511627776 ≤ lo) (hh : hi ≤ 1099511627776) (hne : ¬ lo = hi - (hi - lo) % m) : okMod m = true := by
  refine okMod_iff.2 ⟨hm, by omega, ?_⟩
  by_cases hc : hi - lo < m
  · exfalso; apply hne
    rw [Int.emod_eq_of_lt (by omega) hc]; omega
  · omega
theorem beq_int {a b : Int} : (a == b) = decide (a = b) := by
  by_cases h : a = b
  · subst h; simp
  · simp [h]
theorem by_ev (lo hi m k : Int) : evFn Itp Try.prog (fromList L1) (fun _ => []) noLoops Try.f45 [iA lo, iA hi, iA m, iA k] some =
    bif decide (m > 0) then bif !decide (m = 0) then bif lo == IntKind.i64.wrap (hi - (IntKind.i64.wrap (hi - lo)).tmod m) then some (AV.agg [AV.int IntKind.i64 lo, AV.int IntKind.i64 lo, AV.int IntKind.i64 1, AV.int IntKind.i64 0, AV.int IntKind.i64 k]) else bif okMod m then some (AV.agg [AV.int IntKind.i64 lo, AV.int IntKind.i64 (IntKind.i64.wrap (hi - (IntKind.i64.wrap (hi - lo)).tmod m)), AV.int IntKind.i64 m, AV.int IntKind.i64 (lo % m), AV.int IntKind.i64 k]) else none else none else bif lo == hi then some (AV.agg [AV.int IntKind.i64 lo, AV.int IntKind.i64 lo, AV.int IntKind.i64 1, AV.int IntKind.i64 0, AV.int IntKind.i64 k]) else bif okMod m then some (AV.agg [AV.int IntKind.i64 lo, AV.int IntKind.i64 hi, AV.int IntKind.i64 m, AV.int IntKind.i64 (lo % m), AV.int IntKind.i64 k]) else none := by
  kernel_rfl
theorem ok_by : FnOk Itp Try.prog 45 spBy := fnOk S1 hm Try.func45 spBy fun args v hv => by
  unfold spBy at hv
  split at hv
  · rename_i lo hi m k
    obtain ⟨h, hv⟩ := has_br hv
    cases hv
    obtain ⟨h1, h2, h3, h4, h5, h6⟩ := okBy_iff.1 h
    refine (by_ev lo hi m k).trans ?_
    by_cases hm0 : m > 0
    · have hr := Int.emod_nonneg (hi - lo) (show m ≠ 0 by omega)
      have hl := Int.emod_lt_of_pos (hi - lo) hm0
      have hle : (hi - lo) % m ≤ hi - lo := emod_le (by omega) hm0
      have e1 : IntKind.i64.wrap (hi - lo) = hi - lo := wrap_of (by omega) (by omega)
      have e2 : (hi - lo).tmod m = (hi - lo) % m := Int.tmod_eq_emod_of_nonneg (by omega)
      have e3 : IntKind.i64.wrap (hi - (hi - lo) % m) = hi - (hi - lo) % m := wrap_of (by omega) (by omega)
      have e5 : topF lo hi m = hi - (hi - lo) % m := if_pos hm0
      simp only [e1, e2, e3, beq_int, hm0, decide_true, cond_true, show ¬ m = 0 by omega, decide_false, Bool.not_false, Bool.cond_decide, byF, e5]
      split
      · rfl
      · rename_i hne
        rw [okMod_by hm0 h4 h1.1 h2.2 hne]; rfl
    · have e0 : m = 0 := by omega
      have e1 := h6 e0
      subst e0 e1
      simp [byF, topF, encA]
  · exact hv.elim
theorem rby_ev (lo hi m k : Int) : evFn Itp Try.prog (fromList L1) (fun _ => []) noLoops Try.f52 [iA lo, iA hi, iA m, iA k] some =
    bif decide (m > 0) then bif !decide (m = 0) then bif lo == IntKind.i64.wrap (lo + IntKind.i64.wrap (IntKind.i64.wrap ((IntKind.i64.wrap (hi - lo)).tdiv m) * m)) then some (AV.agg [AV.int IntKind.i64 lo, AV.int IntKind.i64 lo, AV.int IntKind.i64 1, AV.int IntKind.i64 0, AV.int IntKind.i64 k]) else bif okMod m then some (AV.agg [AV.int IntKind.i64 lo, AV.int IntKind.i64 (IntKind.i64.wrap (lo + IntKind.i64.wrap (IntKind.i64.wrap ((IntKind.i64.wrap (hi - lo)).tdiv m) * m))), AV.int IntKind.i64 m, AV.int IntKind.i64 (lo % m), AV.int IntKind.i64 k]) else none else none else bif lo == hi then some (AV.agg [AV.int IntKind.i64 lo, AV.int IntKind.i64 lo, AV.int IntKind.i64 1, AV.int IntKind.i64 0, AV.int IntKind.i64 k]) else bif okMod m then some (AV.agg [AV.int IntKind.i64 lo, AV.int IntKind.i64 hi, AV.int IntKind.i64 m, AV.int IntKind.i64 (lo % m), AV.int IntKind.i64 k]) else none := by
  kernel_rfl
theorem ok_rby : FnOk Itp Try.prog 52 spBy := fnOk S1 hm Try.func52 spBy fun args v hv => by
  unfold spBy at hv
  split at hv
  · rename_i lo hi m k
    obtain ⟨h, hv⟩ := has_br hv
    cases hv
    obtain ⟨h1, h2, h3, h4, h5, h6⟩ := okBy_iff.1 h
    refine (rby_ev lo hi m k).trans ?_
    by_cases hm0 : m > 0
    · have hr := Int.emod_nonneg (hi - lo) (show m ≠ 0 by omega)
      have hl := Int.emod_lt_of_pos (hi - lo) hm0
      have hle : (hi - lo) % m ≤ hi - lo := emod_le (by omega) hm0
      have e1 : IntKind.i64.wrap (hi - lo) = hi - lo := wrap_of (by omega) (by omega)
      have e2 : (hi - lo).tdiv m = (hi - lo) / m := Int.tdiv_eq_ediv_of_nonneg (by omega)
      have hd0 : 0 ≤ (hi - lo) / m := Int.ediv_nonneg (by omega) (by omega)
      have hd1 : (hi - lo) / m ≤ hi - lo := Int.ediv_le_self _ (by omega)
      have hmul : (hi - lo) / m * m = (hi - lo) - (hi - lo) % m := by have := Int.ediv_mul_add_emod (hi - lo) m; omega
      have e3 : IntKind.i64.wrap ((hi - lo) / m) = (hi - lo) / m := wrap_of (by omega) (by omega)
      have e4 : IntKind.i64.wrap ((hi - lo) - (hi - lo) % m) = (hi - lo) - (hi - lo) % m := wrap_of (by omega) (by omega)
      have e4' : IntKind.i64.wrap (lo + ((hi - lo) - (hi - lo) % m)) = hi - (hi - lo) % m := by rw [wrap_of (by omega) (by omega)]; omega
      have e6 : topF lo hi m = hi - (hi - lo) % m := if_pos hm0
      simp only [e1, e2, e3, hmul, e4, e4', beq_int, hm0, decide_true, cond_true, show ¬ m = 0 by omega, decide_false, Bool.not_false, Bool.cond_decide, byF, e6]
      split
      · rfl
      · rename_i hne
        rw [okMod_by hm0 h4 h1.1 h2.2 hne]; rfl
    · have e0 : m = 0 := by omega
      have e1 := h6 e0
      subst e0 e1
      simp [byF, topF, encA]
  · exact hv.elim
theorem validF_iff {a : Abs} : validF a = true ↔ VA a := by simp [validF]
theorem within_ev (a0 a1 a2 a3 a4 v : Int) : evFn Itp Try.prog (fromList L1) (fun _ => []) noLoops Try.f42 [.agg [.int .i64 a0, .int .i64 a1, .int .i64 a2, .int .i64 a3, .int .i64 a4], iA v] some =
    bif decide (v ≥ a0) then bif decide (v ≤ a1) then bif !decide (a2 = 0) then some (AV.bool ((IntKind.i64.wrap (v - a0)).tmod a2 == 0)) else none else some (AV.bool false) else some (AV.bool false) := by
  kernel_rfl
theorem ok_within : FnOk Itp Try.prog 42 spWithin := fnOk S1 hm Try.func42 spWithin fun args v hv => by
  unfold spWithin at hv
  split at hv
  · rename_i a0 a1 a2 a3 a4 x
    obtain ⟨h, hv⟩ := has_br hv
    cases hv
    simp only [Bool.and_eq_true, validF_iff, okN_iff] at h
    obtain ⟨⟨h1, h2, h3, h4, h5, h6, h7, h8⟩, h9⟩ := h
    simp only at h1 h2 h3 h4 h5 h6
    refine (within_ev a0 a1 a2 a3 a4 x).trans ?_
    simp only [withinF]
    by_cases c1 : a0 ≤ x
    · by_cases c2 : x ≤ a1
      · have e1 : IntKind.i64.wrap (x - a0) = x - a0 := wrap_of (by omega) (by omega)
        have e2 : (x - a0).tmod a2 = (x - a0) % a2 := Int.tmod_eq_emod_of_nonneg (by omega)
        simp only [e1, e2, beq_int]
        simp [c1, c2, show ¬ a2 = 0 by omega]
      · simp [c1, c2]
    · simp [c1]
  · exact hv.elim
end Go.Proofs.Ytamfgbenceoleaa.Span
