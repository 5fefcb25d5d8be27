/- The law NumSubstitutes of parole/parolelaw01.NumSubstitutes holds for every argument: the call returns true, and each argument reads afterwards as it read before. Conditions: none beside the row's own. -/
import Derived.Test.YtbbnefpjnjjibaaRows
import Derived.Test.YtbbnefpjnjjibaaXSstNumSubstitutes
import Derived.Test.YtbbnefpjnjjibaaPureNumSubstitutes
import Derived.Test.YtbbnefpjnjjibaaXOpen
import Derived.WalkKit
import Derived.ProofKit
import Derived.OpenShut
import Derived.ShutString
import Derived.ChangeOld
import Derived.Below
import Derived.SizedLaws
import Derived.Carry
import Derived.WideShapes
namespace Go.Proofs.Ytbbnefpjnjjibaa.numSubstitutes
open Go.ChangeShapes Go.WideShapes Go.ChangeAt Go.RowKit Go.Proofs.Ytbbnefpjnjjibaa.Opn Go.Proofs.Ytbbnefpjnjjibaa.XS Go.Proofs.YtbbnefpjnjjibaaW.PrintWords
open Go.ChangeMaps (open_string shut_string)
set_option linter.unusedVariables false
set_option linter.unusedSimpArgs false
theorem own : ownKnob Try.prog.godebug = none := by kernel_rfl
theorem laidOut : laidOutB Try.prog = true := by kernel_rfl
set_option maxHeartbeats 2000000 in
set_option maxRecDepth 100000 in
theorem contract {H : Type} (enc : TypeId × Value → H) (W : World) (base : Nat) (args : Array Value) (ds gs : List (DataW H)) (before : List MemPlace)
    (hval0 : ∀ (j : Nat) t v, Try.f6.params[j]? = some t → args[j]? = some v → Value.okWide Try.checked.prog W .any base t v)
    (hW : DataW.Whole enc Try.checked.prog Try.f6.params.toList Rows.numSubstitutesSpec.vars false W args.toList ds gs before)
    (hsz0 : (DataW.weightsEach Try.checked.prog (Try.f6.params.toList ++ Rows.numSubstitutesSpec.plain.varTypes Try.checked.prog) (ds ++ gs)).all (· ≤ reachBytes) = true)
    : Calls Try.checked.prog 6 args W fun e W' => ∃ v, e = .returned v ∧ Rows.numSubstitutesSpec.post enc Try.checked.prog Try.f6 false true false false W args v W' := by
  have hsz : (DataW.weightsEach Try.prog (Try.f6.params.toList ++ Rows.numSubstitutesSpec.plain.varTypes Try.prog) (ds ++ gs)).all (· ≤ reachBytes) = true := hsz0
  have hval : ∀ (j : Nat) t v, Try.f6.params[j]? = some t → args[j]? = some v → Value.okWide Try.prog W .any base t v := hval0
  have hW' := hW
  obtain ⟨p, q, hA0, hV, rfl, hfz, hnd⟩ := hW
  have hA : DataW.TrodAll enc Try.prog W 0 (fun _ => true) true Try.f6.params.toList args.toList ds p := hA0
  rw [Try.params6] at hA hval hsz
  obtain ⟨v0, vs0, d0, ds0, p0, q0, hargs, rfl, rfl, h0, r0⟩ := trodAll_cons hA
  obtain ⟨v1, vs1, d1, ds1, p1, q1, rfl, rfl, rfl, h1, r1⟩ := trodAll_cons r0
  obtain ⟨v2, vs2, d2, ds2, p2, q2, rfl, rfl, rfl, h2, r2⟩ := trodAll_cons r1
  obtain ⟨rfl, rfl, rfl⟩ := trodAll_nil r2
  obtain rfl : args = #[v0, v1, v2] := by cases args; simp_all
  obtain ⟨rfl, rfl⟩ := trodVars_none hV
  have k0 := h0
  have lt0 : ∀ x ∈ p0, x.block < W.heap.size := by obtain ⟨m, hm⟩ := k0; exact DataW.trod_lt m _ _ _ hm
  obtain ⟨x0, K0, g0, z0⟩ := opens_arg (enc := enc) (W := W) (opens_all fun m => opens_array Try.underlying35 (by kernel_rfl) (row_cons (OpnS.opens_expr m) (row_one (OpnS.opens_expr m)))) h0 (fun n hn => by have := List.all_eq_true.1 hsz _ (DataW.weights_mem_each (j := 0) rfl rfl n hn); simpa using this)
  obtain ⟨cs0, rfl⟩ := okWide_agg (.inr ⟨_, _, Try.underlying35⟩) (hval 0 35 v0 rfl rfl)
  obtain ⟨⟨a0_0, a0_1, a0_2, l0_3⟩, ⟨a0_4, a0_5, a0_6, l0_7⟩⟩ := x0
  obtain ⟨_, _, hcs0, hk0, hk1⟩ := K0
  obtain ⟨A0_3, c0_3, rfl, hc0_3, hr0_3⟩ := k29_open hk0
  obtain ⟨A0_7, c0_7, rfl, hc0_7, hr0_7⟩ := k29_open hk1
  obtain rfl : cs0 = #[.int .i64 a0_0, .int .i64 a0_1, .int .i64 a0_2, .slice A0_3 l0_3.length c0_3, .int .i64 a0_4, .int .i64 a0_5, .int .i64 a0_6, .slice A0_7 l0_7.length c0_7] := by have := congrArg List.toArray hcs0; simpa [Value.cells] using this
  obtain ⟨gt0, gt1⟩ := g0
  have k1 := h1
  have lt1 : ∀ x ∈ p1, x.block < W.heap.size := by obtain ⟨m, hm⟩ := k1; exact DataW.trod_lt m _ _ _ hm
  obtain ⟨x1, K1, g1, z1⟩ := opens_arg (enc := enc) (W := W) (fun m => opens_int Try.underlying5) h1 (fun n hn => by have := List.all_eq_true.1 hsz _ (DataW.weights_mem_each (j := 1) rfl rfl n hn); simpa using this)
  obtain ⟨n1, rfl⟩ := Go.WideShapes.okWide_int Try.underlying5 (hval 1 5 v1 rfl rfl)
  have hcs1 : [Value.int .u8 n1] = [Value.int .u8 x1] := K1
  simp only [List.cons.injEq, Value.int.injEq, and_true, true_and] at hcs1
  subst hcs1
  have k2 := h2
  have lt2 : ∀ x ∈ p2, x.block < W.heap.size := by obtain ⟨m, hm⟩ := k2; exact DataW.trod_lt m _ _ _ hm
  obtain ⟨x2, K2, g2, z2⟩ := opens_arg (enc := enc) (W := W) (opens_all fun m => opens_slice Try.underlying36 (by kernel_rfl) ((fun m => opens_int Try.underlying3) m)) h2 (fun n hn => by have := List.all_eq_true.1 hsz _ (DataW.weights_mem_each (j := 2) rfl rfl n hn); simpa using this)
  obtain ⟨A2, n2, c2, rfl⟩ := Go.WideShapes.okWide_slice Try.underlying36 (hval 2 36 v2 rfl rfl)
  obtain ⟨_, _, hcs2, hc2, hr2⟩ := K2
  simp only [Value.cells, List.cons.injEq, Value.slice.injEq, and_true] at hcs2
  obtain ⟨rfl, rfl, rfl⟩ := hcs2
  clear hA0 hval0 hsz0 hsz
  obtain ⟨k, hp⟩ := Pure.NumSubstitutes a0_0 a0_1 a0_2 l0_3 a0_4 a0_5 a0_6 l0_7 n1 x2 g1 g2 gt0 gt1
  refine (XS.parolelaw01_NumSubstitutes.calls k a0_0 a0_1 a0_2 A0_3 c0_3 l0_3 a0_4 a0_5 a0_6 A0_7 c0_7 l0_7 n1 _ _ x2 true W hr0_3 hc0_3 hr0_7 hc0_7 hr2 hc2 hp).mono fun e W' ⟨he, bel⟩ => ?_
  subst he
  exact ⟨_, rfl, _, _, _, [], _, [], hW', trodAll_mk1 (shut_bool Try.underlying4 _), (trodAll_cons_mk (Below.trod laidOut (by kernel_rfl) (of_decide_eq_true (by kernel_rfl)) k0 bel lt0) (trodAll_cons_mk (Below.trod laidOut (by kernel_rfl) (of_decide_eq_true (by kernel_rfl)) k1 bel lt1) (trodAll_cons_mk (Below.trod laidOut (by kernel_rfl) (of_decide_eq_true (by kernel_rfl)) k2 bel lt2) trodAll_mk0))), rfl, bel.frame _, fun h => by cases h⟩
set_option maxRecDepth 100000 in
theorem lifted (os : Os) (started : os.Started) (H : Type) (enc : TypeId × Value → H) :
    ReturnsInHanded {} Try.checked os 6 .any (Rows.numSubstitutesSpec.pre6 enc Try.prog Try.f6 Rows.numSubstitutesRow.domain false) (Rows.numSubstitutesSpec.post enc Try.prog Try.f6 false true false false) := by
  refine returnsInHanded_of_change_sized (C := Try.checked) own started (by kernel_rfl) Try.func6
    (ChangeSpec.witness6 (enc := enc) (C := Try.checked) false ⟨#[], #[.agg #[.int .i64 0, .int .i64 0, .int .i64 0, .slice none 0 0, .int .i64 0, .int .i64 0, .int .i64 0, .slice none 0 0], .int .u8 0, .slice none 0 0], []⟩ 8 (by kernel_rfl) (by kernel_rfl) (by kernel_rfl) (by kernel_rfl)) ?_
  intro W base args ds gs before hval0 hW hcnd hsz0 _
  exact contract enc W base args ds gs before hval0 hW hsz0
theorem over : Rows.numSubstitutesRow.holds Try.pinned (OpenSpec.ofChange Rows.numSubstitutesSpec) :=
  OpenClaim.holds_of_wide 6 Try.f6 rfl rfl rfl rfl rfl rfl rfl ⟨rfl, rfl, rfl, rfl, rfl⟩ rfl rfl rfl rfl rfl (by kernel_rfl) Try.func6 (by kernel_rfl)
    (of_decide_eq_true (by kernel_rfl)) (by unfold Func.isWrapper; first | (rw [if_pos (by decide +kernel)]; kernel_rfl) | (rw [if_neg (by decide +kernel)]; exact ⟨rfl, rfl⟩))
    (fun os started H enc _ => lifted os started H enc)
theorem proved : Rows.NumSubstitutesSaid := over
#print axioms proved
end Go.Proofs.Ytbbnefpjnjjibaa.numSubstitutes
namespace Go.Proofs.Ytbbnefpjnjjibaa
/-- The row, under a short name, for the claim. -/
theorem numSubstitutes_holds : Rows.NumSubstitutesSaid := numSubstitutes.proved
end Go.Proofs.Ytbbnefpjnjjibaa
