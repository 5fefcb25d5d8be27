import Derived.Test.YtamfgbenceoleaaSpanC6
/-! The examples of the laws of package span. -/
namespace Go.Proofs.Ytamfgbenceoleaa.Span
set_option linter.unusedVariables false
set_option linter.unusedSimpArgs false
set_option linter.unusedSectionVars false
set_option linter.unnecessarySimpa false
open Go.Proofs.Ytamfgbenceoleaa.Ev Go.RowKit
set_option maxRecDepth 100000
theorem set_ev (lo hi m : Int) : evFn Itp Try.prog (fromList L6) (fun _ => []) noLoops Try.f39 [iA lo, iA hi, iA m] some =
    bif lo == hi then some (AV.agg [AV.int IntKind.i64 lo, AV.int IntKind.i64 lo, AV.int IntKind.i64 1, AV.int IntKind.i64 0, AV.int IntKind.i64 0]) else bif !decide (m = 0) then bif !decide (m = 0) then some (AV.agg [AV.int IntKind.i64 lo, AV.int IntKind.i64 hi, AV.int IntKind.i64 m, AV.int IntKind.i64 ((IntKind.i64.wrap (lo.tmod m + m)).tmod m), AV.int IntKind.i64 0]) else none else none := by
  kernel_rfl
theorem ok_set : FnOk Itp Try.prog 39 spSet := fnOk S6 hm Try.func39 spSet fun args v hv => by
  unfold spSet at hv
  split at hv
  · rename_i lo hi m
    obtain ⟨h, hv⟩ := has_br hv
    have hv := has_ret hv
    subst hv
    obtain ⟨h1, h2⟩ := okMod_iff.1 h
    have ht := tmod_lt lo m h1
    refine (set_ev lo hi m).trans ?_
    rw [wrap_of (by omega) (by omega), mod_go lo m h1]
    simp only [beq_int, setF, show ¬ m = 0 by omega, decide_false, Bool.not_false, cond_true]
    by_cases c : lo = hi
    · simp [c, encA]
    · simp [c, encA]
  · exact hv.elim
theorem S7 : SpecOk Itp Try.prog (fromList L7) := specOk_cons (en _ _ Try.func39) ok_set S6
theorem one_ev (v : Int) : evFn Itp Try.prog (fromList L7) (fun _ => []) noLoops Try.f38 [iA v] some =
    some (encA (setF v v 1)) := by
  kernel_rfl
theorem ok_one : FnOk Itp Try.prog 38 spOne := fnOk S7 hm Try.func38 spOne fun args v hv => by
  unfold spOne at hv
  split at hv
  · rename_i v
    have hv := has_ret hv
    subst hv
    exact one_ev v
  · exact hv.elim
theorem S8 : SpecOk Itp Try.prog (fromList L8) := specOk_cons (en _ _ Try.func38) ok_one S7
theorem ex_ev  : evFn Itp Try.prog (fromList L8) (fun _ => []) noLoops Try.f9 [] some =
    some (AV.bool true) := by
  kernel_rfl
theorem ok_ex : FnOk Itp Try.prog 9 spTrue := fnOk S8 hm Try.func9 spTrue fun args v hv => by
  unfold spTrue at hv
  split at hv
  · have hv := has_ret hv
    subst hv
    exact ex_ev
  · exact hv.elim
theorem S9 : SpecOk Itp Try.prog (fromList L9) := specOk_cons (en _ _ Try.func9) ok_ex S8
end Go.Proofs.Ytamfgbenceoleaa.Span
