import Derived.Test.YtamfgbenceoleaaSpanC3
/-! Contracts of the fourth stage. -/
namespace Go.Proofs.Ytamfgbenceoleaa.Span
set_option linter.unusedVariables false
set_option linter.unusedSimpArgs false
set_option linter.unusedSectionVars false
set_option linter.unnecessarySimpa false
open Go.Proofs.Ytamfgbenceoleaa.Ev Go.RowKit
set_option maxRecDepth 100000
theorem bnd_ev (a0 a1 a2 a3 a4 b0 b1 b2 b3 b4 k lo hi m : Int) : evFn Itp Try.prog (fromList L3) (fun _ => []) noLoops Try.f99 [.agg [.int .i64 a0, .int .i64 a1, .int .i64 a2, .int .i64 a3, .int .i64 a4, .int .i64 b0, .int .i64 b1, .int .i64 b2, .int .i64 b3, .int .i64 b4, .int .i64 k], iA lo, iA hi, iA m] some =
    bif valB lo then bif valB hi then bif okBy lo hi m then some (encA (byF lo hi m k)) else none else bif okL [m] then bif okLike lo (gcdL 4294967296 [m]) (-2147483648) 2147483647 then some (encA (likeF lo (gcdL 4294967296 [m]) (-2147483648) 2147483647 k)) else none else none else bif okL [m] then bif okLike lo (gcdL 4294967296 [m]) (-2147483648) 2147483647 then some (encA (likeF lo (gcdL 4294967296 [m]) (-2147483648) 2147483647 k)) else none else none := by
  kernel_rfl
theorem leq_ev (a0 a1 a2 a3 a4 b0 b1 b2 b3 b4 : Int) : evFn Itp Try.prog (fromList L3) (fun _ => []) noLoops Try.f17 [.agg [.int .i64 a0, .int .i64 a1, .int .i64 a2, .int .i64 a3, .int .i64 a4], .agg [.int .i64 b0, .int .i64 b1, .int .i64 b2, .int .i64 b3, .int .i64 b4]] some =
    bif validF { lo := a0, hi := a1, m := a2, r := a3, mask := a4 } && validF { lo := b0, hi := b1, m := b2, r := b3, mask := b4 } then some (AV.bool ((joinF { lo := a0, hi := a1, m := a2, r := a3, mask := a4 } { lo := b0, hi := b1, m := b2, r := b3, mask := b4 }).lo == b0 && ((joinF { lo := a0, hi := a1, m := a2, r := a3, mask := a4 } { lo := b0, hi := b1, m := b2, r := b3, mask := b4 }).hi == b1 && ((joinF { lo := a0, hi := a1, m := a2, r := a3, mask := a4 } { lo := b0, hi := b1, m := b2, r := b3, mask := b4 }).m == b2 && ((joinF { lo := a0, hi := a1, m := a2, r := a3, mask := a4 } { lo := b0, hi := b1, m := b2, r := b3, mask := b4 }).r == b3 && ((joinF { lo := a0, hi := a1, m := a2, r := a3, mask := a4 } { lo := b0, hi := b1, m := b2, r := b3, mask := b4 }).mask == b4 && true)))))) else none := by
  kernel_rfl
theorem lmade_ev (lo n m k : Int) : evFn Itp Try.prog (fromList L3) (fun _ => []) noLoops Try.f10 [.agg [iA lo, iA n, iA m, iA k]] some =
    some (encA (madeF lo n m k)) := by
  kernel_rfl
theorem okBnd_iff {lo hi m : Int} : okBnd lo hi m = true ↔ (-4611686018427387904 ≤ lo ∧ lo ≤ 4611686018427387904) ∧ (-4611686018427387904 ≤ hi ∧ hi ≤ 4611686018427387904) ∧ (-9223372036854775807 ≤ m ∧ m ≤ 9223372036854775807) ∧ lo ≤ hi ∧ 0 ≤ m ∧ (m = 0 → lo = hi) := by
  simp only [okBnd, Bool.and_eq_true, okW_iff, okV_iff, decide_eq_true_eq]
theorem gcd32 (m : Int) : 0 < gcdL 4294967296 [m] ∧ gcdL 4294967296 [m] ≤ 4294967296 := by
  have h0 := gcdL_nonneg 4294967296 [m]
  have h1 : gcdL 4294967296 [m] ≠ 0 := fun h => by have := (gcdL_zero h).1; omega
  have h2 := Int.le_of_dvd (by omega) (gcdL_self (a := 4294967296) (l := [m])).1
  omega
theorem valB_iff {a : Int} : valB a = true ↔ -2147483648 ≤ a ∧ a ≤ 2147483647 := by simp [valB]
theorem ok_bnd : FnOk Itp Try.prog 99 spBnd := fnOk S3 hm Try.func99 spBnd fun args v hv => by
  unfold spBnd at hv
  split at hv
  · rename_i a0 a1 a2 a3 a4 b0 b1 b2 b3 b4 k lo hi m
    obtain ⟨h, hv⟩ := has_br hv
    have hv := has_ret hv
    subst hv
    obtain ⟨h1, h2, h3, h4, h5, h6⟩ := okBnd_iff.1 h
    refine (bnd_ev a0 a1 a2 a3 a4 b0 b1 b2 b3 b4 k lo hi m).trans ?_
    have hg := gcd32 m
    have hr0 := Int.emod_nonneg (lo - -2147483648) (show gcdL 4294967296 [m] ≠ 0 by omega)
    have hr1 := Int.emod_lt_of_pos (lo - -2147483648) hg.1
    have e1 : okL [m] = true := by simp [okL]; exact okV_iff.2 h3
    have e2 : okLike lo (gcdL 4294967296 [m]) (-2147483648) 2147483647 = true := okLike_iff.2 ⟨by omega, by omega, by omega, by omega, by omega, by omega⟩
    rw [e1, e2]
    unfold boundF
    cases c1 : valB lo with
    | false => simp [c1]
    | true =>
      cases c2 : valB hi with
      | false => simp [c1, c2]
      | true =>
        rw [valB_iff] at c1 c2
        rw [show okBy lo hi m = true from okBy_iff.2 ⟨by omega, by omega, by omega, by omega, by omega, h6⟩]
        simp
  · exact hv.elim
theorem abs_ext {a b : Abs} : a = b ↔ a.lo = b.lo ∧ a.hi = b.hi ∧ a.m = b.m ∧ a.r = b.r ∧ a.mask = b.mask := by
  cases a; cases b; simp
theorem ok_leq : FnOk Itp Try.prog 17 spLeq := fnOk S3 hm Try.func17 spLeq fun args v hv => by
  unfold spLeq at hv
  split at hv
  · rename_i a0 a1 a2 a3 a4 b0 b1 b2 b3 b4
    obtain ⟨h, hv⟩ := has_br hv
    have hv := has_ret hv
    subst hv
    refine (leq_ev a0 a1 a2 a3 a4 b0 b1 b2 b3 b4).trans ?_
    rw [h]
    simp only [cond_true, leqF]
    congr 2
    rw [Bool.eq_iff_iff]
    simp only [Bool.and_eq_true, beq_iff_eq, and_true, decide_eq_true_eq, abs_ext]
  · exact hv.elim
theorem ok_lmade : FnOk Itp Try.prog 10 spMade := fnOk S3 hm Try.func10 spMade fun args v hv => by
  unfold spMade at hv
  split at hv
  · rename_i lo n m k
    have hv := has_ret hv
    subst hv
    exact lmade_ev lo n m k
  · exact hv.elim
theorem S4 : SpecOk Itp Try.prog (fromList L4) :=
  specOk_cons (en _ _ Try.func99) ok_bnd <| specOk_cons (en _ _ Try.func17) ok_leq <| specOk_cons (en _ _ Try.func10) ok_lmade S3
end Go.Proofs.Ytamfgbenceoleaa.Span
