/- The law NumConditions of parole/parolelaw01.NumConditions holds for every argument of bulk at most 1048576: the call returns true, and each argument reads afterwards as it read before. Conditions: none beside the row's own. -/
import Derived.Test.YtbbnefpjnjjibaaRows
import Derived.Test.YtbbnefpjnjjibaaBunNc
import Derived.WalkKit
import Derived.ProofKit
import Derived.OpenShut
import Derived.ChangeOld
import Derived.Below
import Derived.SizedLaws
import Derived.Carry
import Derived.WideShapes
import Derived.JoinedCond
namespace Go.Proofs.Ytbbnefpjnjjibaa.numConditions
set_option linter.unusedVariables false
set_option linter.unusedSimpArgs false
set_option linter.unusedSectionVars false
set_option linter.unnecessarySimpa false
open Go.ChangeShapes Go.WideShapes Go.ChangeAt Go.RowKit Go.Proofs.Ytbbnefpjnjjibaa.Tree Go.Proofs.Ytbbnefpjnjjibaa.Ev Go.Proofs.Ytbbnefpjnjjibaa.Num
set_option linter.unusedVariables false
set_option linter.unusedSimpArgs false
theorem own : ownKnob Try.prog.godebug = none := by kernel_rfl
theorem laidOut : laidOutB Try.prog = true := by kernel_rfl
set_option maxHeartbeats 2000000 in
set_option maxRecDepth 100000 in
theorem contract {H : Type} (enc : TypeId × Value → H) (W : World) (base : Nat) (args : Array Value) (ds gs : List (DataW H)) (before : List MemPlace)
    (hval0 : ∀ (j : Nat) t v, Try.f7.params[j]? = some t → args[j]? = some v → Value.okWide Try.checked.prog W .any base t v)
    (hW : DataW.Whole enc Try.checked.prog Try.f7.params.toList Rows.numConditionsSpec.vars false W args.toList ds gs before)
    (hk : Rows.uptoSmall H (ds ++ gs) = true)
    : Calls Try.checked.prog 7 args W fun e W' => ∃ v, e = .returned v ∧ Rows.numConditionsSpec.post enc Try.checked.prog Try.f7 false true false false W args v W' := by
  have hval : ∀ (j : Nat) t v, Try.f7.params[j]? = some t → args[j]? = some v → Value.okWide Try.prog W .any base t v := hval0
  have hW' := hW
  obtain ⟨p, q, hA0, hV, rfl, hfz, hnd⟩ := hW
  have hA : DataW.TrodAll enc Try.prog W 0 (fun _ => true) true Try.f7.params.toList args.toList ds p := hA0
  rw [Try.params7] at hA hval
  obtain ⟨v0, vs0, d0, ds0, p0, q0, hargs, rfl, rfl, h0, r0⟩ := trodAll_cons hA
  obtain ⟨v1, vs1, d1, ds1, p1, q1, rfl, rfl, rfl, h1, r1⟩ := trodAll_cons r0
  obtain ⟨v2, vs2, d2, ds2, p2, q2, rfl, rfl, rfl, h2, r2⟩ := trodAll_cons r1
  obtain ⟨rfl, rfl, rfl⟩ := trodAll_nil r2
  obtain rfl : args = #[v0, v1, v2] := by cases args; simp_all
  obtain ⟨rfl, rfl⟩ := trodVars_none hV
  have hb := bulk_small hk
  have b0 : Rows.uptoBulk d0 ≤ 1048576 := Nat.le_trans (bulk_part (by simp)) hb
  have b1 : Rows.uptoBulk d1 ≤ 1048576 := Nat.le_trans (bulk_part (by simp)) hb
  have lt0 : ∀ x ∈ p0, x.block < W.heap.size := by obtain ⟨m, hm⟩ := h0; exact DataW.trod_lt m _ _ _ hm
  have lt1 : ∀ x ∈ p1, x.block < W.heap.size := by obtain ⟨m, hm⟩ := h1; exact DataW.trod_lt m _ _ _ hm
  have lt2 : ∀ x ∈ p2, x.block < W.heap.size := by obtain ⟨m, hm⟩ := h2; exact DataW.trod_lt m _ _ _ hm
  obtain ⟨⟨o1, a1, c1⟩, K0, z0⟩ := opens_arg (enc := enc) (W := W) opens_cond h0
  obtain ⟨cs0, rfl⟩ := okWide_agg (.inl ⟨_, Try.underlying34⟩) (hval 0 34 v0 rfl rfl)
  obtain ⟨⟨o2, a2, c2⟩, K1, z1⟩ := opens_arg (enc := enc) (W := W) opens_cond h1
  obtain ⟨cs1, rfl⟩ := okWide_agg (.inl ⟨_, Try.underlying34⟩) (hval 1 34 v1 rfl rfl)
  obtain ⟨vs, K2, z2⟩ := opens_arg (enc := enc) (W := W) opens_ints h2
  obtain ⟨A2, n2, c2', rfl⟩ := Go.WideShapes.okWide_slice Try.underlying36 (hval 2 36 v2 rfl rfl)
  have R2 : Rep Itp W (fun _ => False) (fun _ => none) (.slc false (.ints vs)) (.slice A2 n2 c2') := K2.2 0 _ _ rfl rfl
  have R0 := repAgg K0
  have R1 := repAgg K1
  simp only [Value.cells] at R0 R1
  clear hA0 hval0
  refine (cond_calls o1 o2 a1 a2 c1 c2 vs (by omega) (by omega) W (fun _ => False) #[.agg cs0, .agg cs1, .slice A2 n2 c2'] (fun _ h => h.elim) (RepL.cons (by simpa using (show Rep Itp W (fun _ => False) (fun _ => none) (.agg [AV.int IntKind.i64 o1, AV.slc false (Tok.es a1), AV.slc false (Tok.cs c1)]) _ from R0)) (RepL.cons (by simpa using (show Rep Itp W (fun _ => False) (fun _ => none) (.agg [AV.int IntKind.i64 o2, AV.slc false (Tok.es a2), AV.slc false (Tok.cs c2)]) _ from R1)) (RepL.cons R2 RepL.nil)))).mono fun e W' ⟨u, he, bel, hu⟩ => ?_
  obtain ⟨⟩ := hu
  subst he
  exact ⟨_, rfl, _, _, _, [], _, [], hW', trodAll_mk1 (shut_bool Try.underlying4 _), (trodAll_cons_mk (Below.trod laidOut (by kernel_rfl) (of_decide_eq_true (by kernel_rfl)) h0 bel lt0) (trodAll_cons_mk (Below.trod laidOut (by kernel_rfl) (of_decide_eq_true (by kernel_rfl)) h1 bel lt1) (trodAll_cons_mk (Below.trod laidOut (by kernel_rfl) (of_decide_eq_true (by kernel_rfl)) h2 bel lt2) trodAll_mk0))), rfl, bel.frame _, fun h => by cases h⟩
set_option maxRecDepth 100000 in
theorem lifted (os : Os) (started : os.Started) (H : Type) (enc : TypeId × Value → H) (F : Stop.Interp) :
    ReturnsInHanded {} Try.checked os 7 .any ((Rows.OpenSpec.upto Rows.numConditionsSpec).pre6 enc Try.prog Try.f7 Rows.numConditionsUptoRow.domain false) (((Rows.OpenSpec.upto Rows.numConditionsSpec).at F).post enc Try.prog Try.f7 false true false false) := by
  refine returnsInHanded_of_cond (C := Try.checked) (s := Rows.OpenSpec.upto Rows.numConditionsSpec) (k := Rows.uptoSmall) rfl own started (by kernel_rfl) Try.func7
    (OpenSpec.witness (enc := enc) (C := Try.checked) (s := Rows.OpenSpec.upto Rows.numConditionsSpec) (k := Rows.uptoSmall) rfl false ⟨#[], #[.agg #[.int .i64 0, .slice none 0 0, .slice none 0 0], .agg #[.int .i64 0, .slice none 0 0, .slice none 0 0], .slice none 0 0], []⟩ 8 (by kernel_rfl) (by kernel_rfl) (by kernel_rfl)
      (x := ([.agg [.lit (.int .i64 0), .nil, .nil], .agg [.lit (.int .i64 0), .nil, .nil], .nil], [], [])) (by kernel_rfl) rfl (by kernel_rfl)) ?_
  intro W base args ds gs before hval hW _ hk _
  exact contract enc W base args ds gs before hval hW hk
theorem over : Rows.numConditionsUptoRow.holds Try.pinned (Rows.OpenSpec.upto Rows.numConditionsSpec) :=
  OpenClaim.holds_of_cond 7 Try.f7 rfl rfl rfl rfl rfl rfl rfl ⟨rfl, rfl, rfl, rfl, rfl⟩ rfl rfl rfl rfl rfl (by kernel_rfl) Try.func7 (by kernel_rfl)
    (of_decide_eq_true (by kernel_rfl)) (by unfold Func.isWrapper; first | (rw [if_pos (by decide +kernel)]; kernel_rfl) | (rw [if_neg (by decide +kernel)]; exact ⟨rfl, rfl⟩))
    (fun os started H enc _ F => lifted os started H enc F)
theorem proved : Rows.NumConditionsUptoSaid := over
#print axioms proved
end Go.Proofs.Ytbbnefpjnjjibaa.numConditions
namespace Go.Proofs.Ytbbnefpjnjjibaa
/-- The row, under a short name, for the claim. -/
theorem numConditions_holds : Rows.NumConditionsUptoSaid := numConditions.proved
end Go.Proofs.Ytbbnefpjnjjibaa
