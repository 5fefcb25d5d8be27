import Derived.Test.YtamfgbenceoleaaSpanO4
/-! All operators together keep the order. -/
namespace Go.Proofs.Ytamfgbenceoleaa.Span
set_option linter.unusedVariables false
set_option linter.unusedSimpArgs false
set_option linter.unusedSectionVars false
set_option linter.unnecessarySimpa false
open Go.Proofs.Ytamfgbenceoleaa.Ev Go.RowKit
variable {a a' c : Abs} {op : Int}
theorem bound_mask (k lo hi m : Int) : (boundF k lo hi m).mask = k := by unfold boundF; split; exact by_mask _ _ _ _; exact like_mask _ _ _ _ _
theorem op_mask (ho : op = 4 ∨ op = 5 ∨ op = 6 ∨ op = 9 ∨ op = 10) : (opA op a c).mask = orM a.mask c.mask := by
  unfold opA
  rcases ho with h | h | h | h | h <;> subst h <;> (split; rfl)
  · rw [if_pos rfl]; exact bound_mask _ _ _ _
  · rw [if_neg (by decide), if_pos rfl]; exact bound_mask _ _ _ _
  · rw [if_neg (by decide), if_neg (by decide), if_pos rfl]; exact bound_mask _ _ _ _
  · rw [if_neg (by decide), if_neg (by decide), if_neg (by decide), if_neg (by decide), if_neg (by decide), if_pos rfl]; exact by_mask _ _ _ _
  · rw [if_neg (by decide), if_neg (by decide), if_neg (by decide), if_neg (by decide), if_neg (by decide), if_neg (by decide)]; exact by_mask _ _ _ _
theorem op_VA (ho : 4 ≤ op ∧ op ≤ 10) (hA : VA a) (hC : VA c) : VA (opA op a c) :=
  (op_sound ho hA hC (hasF_iff.2 ⟨lo_in hA, subB_refl _⟩) (hasF_iff.2 ⟨lo_in hC, subB_refl _⟩)).1
theorem op_in (ho : 4 ≤ op ∧ op ≤ 10) (hA : VA a) (hC : VA c) {v w : Int} (hv : withinF a v = true) (hw : withinF c w = true) : withinF (opA op a c) (opG op v w) = true :=
  (hasF_iff.1 (op_sound ho hA hC (hasF_iff.2 ⟨hv, subB_refl _⟩) (hasF_iff.2 ⟨hw, subB_refl _⟩)).2).1
theorem single_down (hA : VA a) (hA' : VA a') (h : leqF a a' = true) (hz : stepF a' = 0) : stepF a = 0 := by
  have := ((leq_iff hA hA').1 h).2.2.1
  rwa [hz, Int.zero_dvd] at this
theorem op_keeps (ho : op = 4 ∨ op = 5 ∨ op = 6 ∨ op = 9) (hA : VA a) (hA' : VA a') (hC : VA c) (h : leqF a a' = true) : leqF (opA op a c) (opA op a' c) = true := by
  have ho4 : 4 ≤ op ∧ op ≤ 10 := by omega
  refine (leq_sem (op_VA ho4 hA hC) (op_VA ho4 hA' hC)).2 ⟨fun v hv => ?_, ?_⟩
  · by_cases c1 : (stepF a = 0 ∧ stepF c = 0) ∨ op < 4 ∨ 10 < op
    · have e : opA op a c = ofF (opG op a.lo c.lo) (orM a.mask c.mask) := by unfold opA; rw [if_pos c1]
      rw [e] at hv
      obtain ⟨v1, v2, _⟩ := withinF_iff.1 hv
      obtain rfl : v = opG op a.lo c.lo := Int.le_antisymm v2 v1
      exact op_in ho4 hA' hC (leq_in hA hA' h (lo_in hA)) (lo_in hC)
    · have c2 : ¬ ((stepF a' = 0 ∧ stepF c = 0) ∨ op < 4 ∨ 10 < op) := fun k => c1 (k.imp (fun k => ⟨single_down hA hA' h k.1, k.2⟩) id)
      unfold opA at hv ⊢
      rw [if_neg c1] at hv
      rw [if_neg c2]
      rcases ho with k | k | k | k <;> subst k
      · rw [if_pos rfl] at hv ⊢; exact add_keeps hA hA' hC h hv
      · rw [if_neg (by decide), if_pos rfl] at hv ⊢; exact sub_keeps hA hA' hC h hv
      · rw [if_neg (by decide), if_neg (by decide), if_pos rfl] at hv ⊢; exact mul_keeps hA hA' hC h hv
      · rw [if_neg (by decide), if_neg (by decide), if_neg (by decide), if_neg (by decide), if_neg (by decide), if_pos rfl] at hv ⊢; exact lesser_keeps hA hA' hC h hv
  · rw [op_mask (by omega), op_mask (by omega)]
    exact subB_mono ((leq_iff hA hA').1 h).2.2.2.2 (subB_refl _)
theorem max_keeps (hA : VA a) (hA' : VA a') (hC : VA c) (h : leqF a a' = true) : leqF (opA 10 c a) (opA 10 c a') = true := by
  have ho4 : (4 : Int) ≤ 10 ∧ (10 : Int) ≤ 10 := by omega
  refine (leq_sem (op_VA ho4 hC hA) (op_VA ho4 hC hA')).2 ⟨fun v hv => ?_, ?_⟩
  · by_cases c1 : (stepF c = 0 ∧ stepF a = 0) ∨ (10 : Int) < 4 ∨ (10 : Int) < 10
    · have e : opA 10 c a = ofF (opG 10 c.lo a.lo) (orM c.mask a.mask) := by unfold opA; rw [if_pos c1]
      rw [e] at hv
      obtain ⟨v1, v2, _⟩ := withinF_iff.1 hv
      obtain rfl : v = opG 10 c.lo a.lo := Int.le_antisymm v2 v1
      exact op_in ho4 hC hA' (lo_in hC) (leq_in hA hA' h (lo_in hA))
    · have c2 : ¬ ((stepF c = 0 ∧ stepF a' = 0) ∨ (10 : Int) < 4 ∨ (10 : Int) < 10) := fun k => c1 (k.imp (fun k => ⟨k.1, single_down hA hA' h k.2⟩) id)
      unfold opA at hv ⊢
      rw [if_neg c1] at hv
      rw [if_neg c2]
      rw [if_neg (by decide), if_neg (by decide), if_neg (by decide), if_neg (by decide), if_neg (by decide), if_neg (by decide)] at hv ⊢
      exact greater_keeps hA hA' hC h hv
  · rw [op_mask (by omega), op_mask (by omega)]
    exact subB_mono (subB_refl _) ((leq_iff hA hA').1 h).2.2.2.2
end Go.Proofs.Ytamfgbenceoleaa.Span
