/- The law SpanRefines of parole/parolelaw10.SpanRefines holds for every argument: the call returns true, and each argument reads afterwards as it read before. Conditions: none beside the row's own. -/
import Derived.Test.YtamfgbenceoleaaRows
import Derived.Test.YtamfgbenceoleaaBunSr
import Derived.WalkKit
import Derived.ProofKit
import Derived.OpenShut
import Derived.ChangeOld
import Derived.Below
import Derived.SizedLaws
import Derived.Carry
import Derived.WideShapes
namespace Go.Proofs.Ytamfgbenceoleaa.spanRefines
open Go.ChangeShapes Go.WideShapes Go.ChangeAt Go.RowKit Go.Proofs.Ytamfgbenceoleaa.Opn Go.Proofs.Ytamfgbenceoleaa.Ev Go.Proofs.Ytamfgbenceoleaa.Span
set_option linter.unusedVariables false
set_option linter.unusedSimpArgs false
theorem own : ownKnob Try.prog.godebug = none := by kernel_rfl
theorem laidOut : laidOutB Try.prog = true := by kernel_rfl
set_option maxHeartbeats 2000000 in
set_option maxRecDepth 100000 in
theorem contract {H : Type} (enc : TypeId × Value → H) (W : World) (base : Nat) (args : Array Value) (ds gs : List (DataW H)) (before : List MemPlace)
    (hval0 : ∀ (j : Nat) t v, Try.f8.params[j]? = some t → args[j]? = some v → Value.okWide Try.checked.prog W .any base t v)
    (hW : DataW.Whole enc Try.checked.prog Try.f8.params.toList Rows.spanRefinesSpec.vars false W args.toList ds gs before)
    : Calls Try.checked.prog 8 args W fun e W' => ∃ v, e = .returned v ∧ Rows.spanRefinesSpec.post enc Try.checked.prog Try.f8 false true false false W args v W' := by
  have hval : ∀ (j : Nat) t v, Try.f8.params[j]? = some t → args[j]? = some v → Value.okWide Try.prog W .any base t v := hval0
  have hW' := hW
  obtain ⟨p, q, hA0, hV, rfl, hfz, hnd⟩ := hW
  have hA : DataW.TrodAll enc Try.prog W 0 (fun _ => true) true Try.f8.params.toList args.toList ds p := hA0
  rw [Try.params8] at hA hval
  obtain ⟨v0, vs0, d0, ds0, p0, q0, hargs, rfl, rfl, h0, r0⟩ := trodAll_cons hA
  obtain ⟨v1, vs1, d1, ds1, p1, q1, rfl, rfl, rfl, h1, r1⟩ := trodAll_cons r0
  obtain ⟨v2, vs2, d2, ds2, p2, q2, rfl, rfl, rfl, h2, r2⟩ := trodAll_cons r1
  obtain ⟨rfl, rfl, rfl⟩ := trodAll_nil r2
  obtain rfl : args = #[v0, v1, v2] := by cases args; simp_all
  obtain ⟨rfl, rfl⟩ := trodVars_none hV
  have lt0 : ∀ x ∈ p0, x.block < W.heap.size := by obtain ⟨m, hm⟩ := h0; exact DataW.trod_lt m _ _ _ hm
  have K0 := opens_arg (enc := enc) (W := W) (opens_all fun m => opens_struct Try.underlying23 (by kernel_rfl) (row_cons ((fun m => opens_int Try.underlying3) m) (row_cons ((fun m => opens_int Try.underlying3) m) (row_cons ((fun m => opens_int Try.underlying3) m) (row_cons ((fun m => opens_int Try.underlying3) m) row_nil))))) h0
  obtain ⟨cs0, rfl⟩ := okWide_agg (.inl ⟨_, Try.underlying23⟩) (hval 0 23 v0 rfl rfl)
  obtain ⟨_, _, hcs0, ⟨a0_0, rfl, wa0_0⟩, ⟨_, _, rfl, ⟨a0_1, rfl, wa0_1⟩, ⟨_, _, rfl, ⟨a0_2, rfl, wa0_2⟩, ⟨_, _, rfl, ⟨a0_3, rfl, wa0_3⟩, rfl⟩⟩⟩⟩ := K0
  obtain rfl : cs0 = #[.int .i64 a0_0, .int .i64 a0_1, .int .i64 a0_2, .int .i64 a0_3] := by have := congrArg List.toArray hcs0; simpa [Value.cells] using this
  have lt1 : ∀ x ∈ p1, x.block < W.heap.size := by obtain ⟨m, hm⟩ := h1; exact DataW.trod_lt m _ _ _ hm
  have K1 := opens_arg (enc := enc) (W := W) (opens_all fun m => opens_struct Try.underlying23 (by kernel_rfl) (row_cons ((fun m => opens_int Try.underlying3) m) (row_cons ((fun m => opens_int Try.underlying3) m) (row_cons ((fun m => opens_int Try.underlying3) m) (row_cons ((fun m => opens_int Try.underlying3) m) row_nil))))) h1
  obtain ⟨cs1, rfl⟩ := okWide_agg (.inl ⟨_, Try.underlying23⟩) (hval 1 23 v1 rfl rfl)
  obtain ⟨_, _, hcs1, ⟨a1_0, rfl, wa1_0⟩, ⟨_, _, rfl, ⟨a1_1, rfl, wa1_1⟩, ⟨_, _, rfl, ⟨a1_2, rfl, wa1_2⟩, ⟨_, _, rfl, ⟨a1_3, rfl, wa1_3⟩, rfl⟩⟩⟩⟩ := K1
  obtain rfl : cs1 = #[.int .i64 a1_0, .int .i64 a1_1, .int .i64 a1_2, .int .i64 a1_3] := by have := congrArg List.toArray hcs1; simpa [Value.cells] using this
  have lt2 : ∀ x ∈ p2, x.block < W.heap.size := by obtain ⟨m, hm⟩ := h2; exact DataW.trod_lt m _ _ _ hm
  have K2 := opens_arg (enc := enc) (W := W) (opens_all fun m => opens_array Try.underlying24 (by kernel_rfl) (row_cons ((fun m => opens_int Try.underlying3) m) (row_cons ((fun m => opens_int Try.underlying3) m) (row_cons ((fun m => opens_int Try.underlying3) m) (row_cons ((fun m => opens_int Try.underlying3) m) row_nil))))) h2
  obtain ⟨cs2, rfl⟩ := okWide_agg (.inr ⟨_, _, Try.underlying24⟩) (hval 2 24 v2 rfl rfl)
  obtain ⟨_, _, hcs2, ⟨a2_0, rfl, wa2_0⟩, ⟨_, _, rfl, ⟨a2_1, rfl, wa2_1⟩, ⟨_, _, rfl, ⟨a2_2, rfl, wa2_2⟩, ⟨_, _, rfl, ⟨a2_3, rfl, wa2_3⟩, rfl⟩⟩⟩⟩ := K2
  obtain rfl : cs2 = #[.int .i64 a2_0, .int .i64 a2_1, .int .i64 a2_2, .int .i64 a2_3] := by have := congrArg List.toArray hcs2; simpa [Value.cells] using this
  clear hA0 hval0
  refine (refines_calls a0_0 a0_1 a0_2 a0_3 a1_0 a1_1 a1_2 a1_3 a2_0 a2_1 a2_2 a2_3 W (fun _ => False) #[.agg #[.int .i64 a0_0, .int .i64 a0_1, .int .i64 a0_2, .int .i64 a0_3], .agg #[.int .i64 a1_0, .int .i64 a1_1, .int .i64 a1_2, .int .i64 a1_3], .agg #[.int .i64 a2_0, .int .i64 a2_1, .int .i64 a2_2, .int .i64 a2_3]] (fun _ h => h.elim) (RepL.cons (repAgg (RepL.cons (.int _ _) (RepL.cons (.int _ _) (RepL.cons (.int _ _) (RepL.cons (.int _ _) RepL.nil))))) (RepL.cons (repAgg (RepL.cons (.int _ _) (RepL.cons (.int _ _) (RepL.cons (.int _ _) (RepL.cons (.int _ _) RepL.nil))))) (RepL.cons (repAgg (RepL.cons (.int _ _) (RepL.cons (.int _ _) (RepL.cons (.int _ _) (RepL.cons (.int _ _) RepL.nil))))) RepL.nil)))).mono fun e W' ⟨u, he, bel, hu⟩ => ?_
  obtain ⟨⟩ := hu
  subst he
  exact ⟨_, rfl, _, _, _, [], _, [], hW', trodAll_mk1 (shut_bool Try.underlying4 _), (trodAll_cons_mk (Below.trod laidOut (by kernel_rfl) (of_decide_eq_true (by kernel_rfl)) h0 bel lt0) (trodAll_cons_mk (Below.trod laidOut (by kernel_rfl) (of_decide_eq_true (by kernel_rfl)) h1 bel lt1) (trodAll_cons_mk (Below.trod laidOut (by kernel_rfl) (of_decide_eq_true (by kernel_rfl)) h2 bel lt2) trodAll_mk0))), rfl, bel.frame _, fun h => by cases h⟩
set_option maxRecDepth 100000 in
theorem lifted (os : Os) (started : os.Started) (H : Type) (enc : TypeId × Value → H) :
    ReturnsInHanded {} Try.checked os 8 .any (Rows.spanRefinesSpec.pre6 enc Try.prog Try.f8 Rows.spanRefinesRow.domain false) (Rows.spanRefinesSpec.post enc Try.prog Try.f8 false true false false) := by
  refine returnsInHanded_of_change_sized (C := Try.checked) own started (by kernel_rfl) Try.func8
    (ChangeSpec.witness6 (enc := enc) (C := Try.checked) false ⟨#[], #[.agg #[.int .i64 0, .int .i64 0, .int .i64 0, .int .i64 0], .agg #[.int .i64 0, .int .i64 0, .int .i64 0, .int .i64 0], .agg #[.int .i64 0, .int .i64 0, .int .i64 0, .int .i64 0]], []⟩ 8 (by kernel_rfl) (by kernel_rfl) (by kernel_rfl) (by kernel_rfl)) ?_
  intro W base args ds gs before hval0 hW hcnd hsz0 _
  exact contract enc W base args ds gs before hval0 hW
theorem over : Rows.spanRefinesRow.holds Try.pinned (OpenSpec.ofChange Rows.spanRefinesSpec) :=
  OpenClaim.holds_of_wide 8 Try.f8 rfl rfl rfl rfl rfl rfl rfl ⟨rfl, rfl, rfl, rfl, rfl⟩ rfl rfl rfl rfl rfl (by kernel_rfl) Try.func8 (by kernel_rfl)
    (of_decide_eq_true (by kernel_rfl)) (by unfold Func.isWrapper; first | (rw [if_pos (by decide +kernel)]; kernel_rfl) | (rw [if_neg (by decide +kernel)]; exact ⟨rfl, rfl⟩))
    (fun os started H enc _ => lifted os started H enc)
theorem proved : Rows.SpanRefinesSaid := over
#print axioms proved
end Go.Proofs.Ytamfgbenceoleaa.spanRefines
namespace Go.Proofs.Ytamfgbenceoleaa
/-- The row, under a short name, for the claim. -/
theorem spanRefines_holds : Rows.SpanRefinesSaid := spanRefines.proved
end Go.Proofs.Ytamfgbenceoleaa
