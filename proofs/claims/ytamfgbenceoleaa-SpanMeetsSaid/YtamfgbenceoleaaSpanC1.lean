import Derived.Test.YtamfgbenceoleaaSpanS
/-! Contracts of the small functions of package span. -/
namespace Go.Proofs.Ytamfgbenceoleaa.Span
set_option linter.unusedVariables false
set_option linter.unusedSimpArgs false
set_option linter.unusedSectionVars false
set_option linter.unnecessarySimpa false
open Go.Proofs.Ytamfgbenceoleaa.Ev Go.RowKit
set_option maxRecDepth 100000
theorem en (f : FuncId) (fn : Func) (hf : Try.prog.funcs[f]? = some fn) (hb : fn.body.isNone = false := by kernel_rfl) (hn : (fn.name == "runtime.NumGoroutine") = false := by kernel_rfl) : Enterable Try.prog f := enterable hf hb hn
theorem S0 : SpecOk Itp Try.prog (fromList []) := specOk_nil
theorem ok_numOp : FnOk Itp Try.prog 15 spOp := by
  intro args v hv w M vs hM hargs
  unfold spOp at hv
  split at hv
  · rename_i op a b
    cases hv
    match vs, hargs with
    | ⟨[x, y, z]⟩, hargs =>
      have h0 := (hargs.2 0 _ x rfl rfl).int_inv
      have h1 := (hargs.2 1 _ y rfl rfl).int_inv
      have h2 := (hargs.2 2 _ z rfl rfl).int_inv
      subst h0 h1 h2
      exact (NumOp.num_Op.calls op a b _ w rfl).mono fun e w' ⟨he, hb⟩ => ⟨_, he, hb, (by rw [show wrap32 (NumOp.opI op (wrap32 a) (wrap32 b)) = opG op a b from (by unfold opG opJ w32 wrap32 NumOp.opI; rfl)]; exact .int _ _)⟩
    | ⟨[]⟩, hargs => simp [RepL] at hargs
    | ⟨[_]⟩, hargs => simp [RepL] at hargs
    | ⟨[_, _]⟩, hargs => simp [RepL] at hargs
    | ⟨_ :: _ :: _ :: _ :: _⟩, hargs => simp [RepL] at hargs
  · exact hv.elim
theorem mod_go (a m : Int) (h : 0 < m) : (a.tmod m + m).tmod m = a % m := by
  rcases Int.le_total 0 a with h0 | h0
  · rw [Int.tmod_eq_emod_of_nonneg h0]
    have h1 := Int.emod_nonneg a (show m ≠ 0 by omega)
    rw [Int.tmod_eq_emod_of_nonneg (by omega), Int.add_emod_right, Int.emod_emod]
  · have h1 : -m < a.tmod m := by have := Int.tmod_lt_of_pos (-a) h; rw [Int.neg_tmod] at this; omega
    rw [Int.tmod_eq_emod_of_nonneg (by omega), Int.add_emod_right]
    have h2 : a.tmod m = a - m * a.tdiv m := by have := Int.mul_tdiv_add_tmod a m; omega
    rw [h2, Int.sub_emod, Int.mul_emod_right, Int.sub_zero, Int.emod_emod]
theorem tmod_lt (a m : Int) (h : 0 < m) : -m < a.tmod m ∧ a.tmod m < m := ⟨by have := Int.tmod_lt_of_pos (-a) h; rw [Int.neg_tmod] at this; omega, Int.tmod_lt_of_pos a h⟩
theorem mod_ev (a m : Int) : evFn Itp Try.prog (fromList []) (fun _ => []) noLoops Try.f80 [iA a, iA m] some =
    bif !decide (m = 0) then bif !decide (m = 0) then some (AV.int IntKind.i64 ((IntKind.i64.wrap (a.tmod m + m)).tmod m)) else none else none := by
  kernel_rfl
theorem rmod_ev (a m : Int) : evFn Itp Try.prog (fromList []) (fun _ => []) noLoops Try.f41 [iA a, iA m] some =
    bif !decide (m = 0) then bif !decide (m = 0) then some (AV.int IntKind.i64 ((IntKind.i64.wrap (a.tmod m + m)).tmod m)) else none else none := by
  kernel_rfl
theorem ok_mod : FnOk Itp Try.prog 80 spMod := fnOk S0 hm Try.func80 spMod fun args v hv => by
  unfold spMod at hv
  split at hv
  · rename_i a m
    obtain ⟨h, hv⟩ := has_br hv
    cases hv
    simp only [okMod, Bool.and_eq_true, decide_eq_true_eq, okW_iff] at h
    have ht := tmod_lt a m h.1
    rw [show evFn Itp Try.prog (fromList []) (fun _ => []) noLoops Try.f80 [AV.int .i64 a, AV.int .i64 m] some = _ from mod_ev a m, wrap_of (by omega) (by omega), mod_go a m h.1]
    simp [show ¬ m = 0 by omega]
  · exact hv.elim
theorem ok_rmod : FnOk Itp Try.prog 41 spMod := fnOk S0 hm Try.func41 spMod fun args v hv => by
  unfold spMod at hv
  split at hv
  · rename_i a m
    obtain ⟨h, hv⟩ := has_br hv
    cases hv
    simp only [okMod, Bool.and_eq_true, decide_eq_true_eq, okW_iff] at h
    have ht := tmod_lt a m h.1
    rw [show evFn Itp Try.prog (fromList []) (fun _ => []) noLoops Try.f41 [AV.int .i64 a, AV.int .i64 m] some = _ from rmod_ev a m, wrap_of (by omega) (by omega), mod_go a m h.1]
    simp [show ¬ m = 0 by omega]
  · exact hv.elim
theorem abs_ev (a : Int) : evFn Itp Try.prog (fromList []) (fun _ => []) noLoops Try.f49 [iA a] some =
    some (AV.int IntKind.i64 (mxI a (IntKind.i64.wrap (0 - a)))) := by
  kernel_rfl
theorem ok_abs : FnOk Itp Try.prog 49 spAbs := fnOk S0 hm Try.func49 spAbs fun args v hv => by
  unfold spAbs at hv
  split at hv
  · rename_i a
    obtain ⟨h, hv⟩ := has_br hv
    cases hv
    rw [okV_iff] at h
    refine (abs_ev a).trans ?_
    rw [wrap_of (by omega) (by omega), mxI_eq]
    simp only [iA, absI]
    congr 2; omega
  · exact hv.elim
theorem val_ev (a : Int) : evFn Itp Try.prog (fromList []) (fun _ => []) noLoops Try.f100 [iA a] some =
    bif decide (a ≥ -2147483648) then some (AV.bool (decide (a ≤ 2147483647))) else some (AV.bool false) := by
  kernel_rfl
theorem ok_val : FnOk Itp Try.prog 100 spVal := fnOk S0 hm Try.func100 spVal fun args v hv => by
  unfold spVal at hv
  split at hv
  · rename_i a
    cases hv
    refine (val_ev a).trans ?_
    simp only [valB]
    by_cases h : -2147483648 ≤ a
    · simp [h]
    · simp [h]
  · exact hv.elim
theorem step_ev (a0 a1 a2 a3 a4 : Int) : evFn Itp Try.prog (fromList []) (fun _ => []) noLoops Try.f43 [.agg [.int .i64 a0, .int .i64 a1, .int .i64 a2, .int .i64 a3, .int .i64 a4]] some =
    bif a0 == a1 then some (AV.int IntKind.i64 0) else some (AV.int IntKind.i64 a2) := by
  kernel_rfl
theorem ok_step : FnOk Itp Try.prog 43 spStep := fnOk S0 hm Try.func43 spStep fun args v hv => by
  unfold spStep at hv
  split at hv
  · rename_i a0 a1 a2 a3 a4
    cases hv
    refine (step_ev a0 a1 a2 a3 a4).trans ?_
    simp only [stepF]
    by_cases h : a0 = a1
    · simp [h]
    · simp [h, beq_eq_false_iff_ne.mpr h]
  · exact hv.elim
theorem wrap_ev (a : Int) : evFn Itp Try.prog (fromList []) (fun _ => []) noLoops Try.f19 [iA a] some =
    bif decide (a.tmod 4294967296 < -2147483648) then some (AV.int IntKind.i64 (IntKind.i64.wrap (a.tmod 4294967296 + 4294967296))) else bif decide (a.tmod 4294967296 > 2147483647) then some (AV.int IntKind.i64 (IntKind.i64.wrap (a.tmod 4294967296 - 4294967296))) else some (AV.int IntKind.i64 (a.tmod 4294967296)) := by
  kernel_rfl
theorem ok_wrap : FnOk Itp Try.prog 19 spWrap := fnOk S0 hm Try.func19 spWrap fun args v hv => by
  unfold spWrap at hv
  split at hv
  · rename_i a
    cases hv
    refine (wrap_ev a).trans ?_
    have h := tmod_lt a 4294967296 (by omega)
    have he : a.tmod 4294967296 % 4294967296 = a % 4294967296 := by
      have := Int.mul_tdiv_add_tmod a 4294967296
      omega
    unfold w32
    simp only [Bool.cond_decide, iA]
    split
    · rw [wrap_of (by omega) (by omega)]; congr 2; omega
    · split
      · rw [wrap_of (by omega) (by omega)]; congr 2; omega
      · congr 2; omega
  · exact hv.elim
theorem opers_ev  : evFn Itp Try.prog (fromList []) (fun _ => []) noLoops Try.f44 [] some =
    some (AV.agg [AV.fn (Fn.func 73) [] [], AV.fn (Fn.func 74) [] [], AV.fn (Fn.func 75) [] [], AV.fn (Fn.func 76) [] [], AV.fn (Fn.func 77) [] [], AV.fn (Fn.func 78) [] [], AV.fn (Fn.func 79) [] []]) := by
  kernel_rfl
theorem ok_opers : FnOk Itp Try.prog 44 spOpers := fnOk S0 hm Try.func44 spOpers fun args v hv => by
  unfold spOpers at hv
  split at hv
  · cases hv; exact opers_ev
  · exact hv.elim
theorem S1 : SpecOk Itp Try.prog (fromList L1) :=
  specOk_cons (en _ _ Try.func15) ok_numOp <| specOk_cons (en _ _ Try.func80) ok_mod <| specOk_cons (en _ _ Try.func41) ok_rmod <| specOk_cons (en _ _ Try.func49) ok_abs <|
  specOk_cons (en _ _ Try.func100) ok_val <| specOk_cons (en _ _ Try.func43) ok_step <| specOk_cons (en _ _ Try.func19) ok_wrap <| specOk_cons (en _ _ Try.func44) ok_opers specOk_nil
end Go.Proofs.Ytamfgbenceoleaa.Span
