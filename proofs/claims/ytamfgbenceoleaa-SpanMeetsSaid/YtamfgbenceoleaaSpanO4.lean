import Derived.Test.YtamfgbenceoleaaSpanO3
/-! The product, and all operators together, keep the order. -/
namespace Go.Proofs.Ytamfgbenceoleaa.Span
set_option linter.unusedVariables false
set_option linter.unusedSimpArgs false
set_option linter.unusedSectionVars false
set_option linter.unnecessarySimpa false
open Go.Proofs.Ytamfgbenceoleaa.Ev Go.RowKit
variable {a a' c : Abs} {k k' v w : Int}
def pLo (a b : Abs) : Int := min (min (min (a.lo * b.lo) (a.lo * b.hi)) (a.hi * b.lo)) (a.hi * b.hi)
def pHi (a b : Abs) : Int := max (max (max (a.lo * b.lo) (a.lo * b.hi)) (a.hi * b.lo)) (a.hi * b.hi)
def pM (a b : Abs) : Int := gcdL (absI a.lo * stepF b) [absI b.lo * stepF a, stepF a * stepF b]
theorem mul_eq (a b : Abs) (k : Int) : mulF a b k = boundF k (pLo a b) (pHi a b) (pM a b) := rfl
theorem prod_box (hA : VA a) (hC : VA c) (hv : withinF a v = true) (hw : withinF c w = true) : pLo a c ≤ v * w ∧ v * w ≤ pHi a c := by
  have hr := range_of hA hv
  have hs := range_of hC hw
  have e1 := mul_ends (y := w) hr.2.2.1 hr.2.2.2.1
  have e2 := mul_ends' (x := a.lo) hs.2.2.1 hs.2.2.2.1
  have e3 := mul_ends' (x := a.hi) hs.2.2.1 hs.2.2.2.1
  unfold pLo pHi
  omega
theorem pLo_one (a b : Abs) : pLo a b = a.lo * b.lo ∨ pLo a b = a.lo * b.hi ∨ pLo a b = a.hi * b.lo ∨ pLo a b = a.hi * b.hi := by unfold pLo; omega
theorem pHi_one (a b : Abs) : pHi a b = a.lo * b.lo ∨ pHi a b = a.lo * b.hi ∨ pHi a b = a.hi * b.lo ∨ pHi a b = a.hi * b.hi := by unfold pHi; omega
theorem prod_like (hA : VA a) (hC : VA c) (hv : withinF a v = true) (hw : withinF c w = true) : pM a c ∣ v * w - a.lo * c.lo :=
  mul_like ((in_iff hA).1 hv).2.2 ((in_iff hC).1 hw).2.2
theorem pLo_in (hA : VA a) (hC : VA c) : ∃ x y, withinF a x = true ∧ withinF c y = true ∧ pLo a c = x * y := by
  rcases pLo_one a c with h | h | h | h
  · exact ⟨_, _, lo_in hA, lo_in hC, h⟩
  · exact ⟨_, _, lo_in hA, hi_in hC, h⟩
  · exact ⟨_, _, hi_in hA, lo_in hC, h⟩
  · exact ⟨_, _, hi_in hA, hi_in hC, h⟩
theorem pHi_in (hA : VA a) (hC : VA c) : ∃ x y, withinF a x = true ∧ withinF c y = true ∧ pHi a c = x * y := by
  rcases pHi_one a c with h | h | h | h
  · exact ⟨_, _, lo_in hA, lo_in hC, h⟩
  · exact ⟨_, _, lo_in hA, hi_in hC, h⟩
  · exact ⟨_, _, hi_in hA, lo_in hC, h⟩
  · exact ⟨_, _, hi_in hA, hi_in hC, h⟩
theorem prod_ends (hA : VA a) (hC : VA c) : pLo a c ≤ pHi a c := by
  have := prod_box hA hC (lo_in hA) (lo_in hC); omega
theorem prod_zero (hA : VA a) (hC : VA c) (h : pM a c = 0) : pLo a c = pHi a c := by
  obtain ⟨x, y, hx, hy, e⟩ := pLo_in hA hC
  obtain ⟨x', y', hx', hy', e'⟩ := pHi_in hA hC
  have h1 := prod_like hA hC hx hy
  have h2 := prod_like hA hC hx' hy'
  rw [h, Int.zero_dvd] at h1 h2
  omega
theorem absI_step {d x y s : Int} (h : d ∣ absI x * s) (k : d ∣ (y - x) * s) : d ∣ absI y * s := by
  have h1 := absI_dvd h
  have h2 := Int.dvd_add h1 k
  rw [← Int.add_mul, show x + (y - x) = y by omega] at h2
  have h3 : absI y = y ∨ absI y = -y := by unfold absI; omega
  rcases h3 with e | e
  · rw [e]; exact h2
  · rw [e, Int.neg_mul]; exact Int.dvd_neg.2 h2
theorem gcd_three {x y z d : Int} : d ∣ gcdL x [y, z] ↔ d ∣ x ∧ d ∣ y ∧ d ∣ z := by
  rw [gcdL_dvd]; simp
theorem mul_keeps (hA : VA a) (hA' : VA a') (hC : VA c) (h : leqF a a' = true) (hv : withinF (mulF a c k) v = true) : withinF (mulF a' c k') v = true := by
  obtain ⟨h1, h2, h3, h4, _⟩ := (leq_iff hA hA').1 h
  rw [mul_eq] at hv ⊢
  obtain ⟨x, y, hx, hy, e⟩ := pLo_in hA hC
  obtain ⟨x', y', hx', hy', e'⟩ := pHi_in hA hC
  obtain ⟨x2, y2, hx2, hy2, e2⟩ := pLo_in hA' hC
  have k1 := prod_box hA' hC (leq_in hA hA' h hx) hy
  have k2 := prod_box hA' hC (leq_in hA hA' h hx') hy'
  have m1 := prod_like hA' hC (leq_in hA hA' h hx) hy
  have m2 := prod_like hA' hC hx2 hy2
  rw [← e] at k1 m1
  rw [← e'] at k2
  rw [← e2] at m2
  obtain ⟨g1, g2, g3⟩ := gcd_three.1 (Int.dvd_refl (gcdL (absI a'.lo * stepF c) [absI c.lo * stepF a', stepF a' * stepF c]))
  refine bound_mono (prod_ends hA hC) (gcdL_nonneg _ _) (prod_zero hA hC) (prod_ends hA' hC) (gcdL_nonneg _ _) (prod_zero hA' hC) k1.1 k2.2 ?_ (dvd_add3 m1 (dvd_flip m2)) hv
  refine gcd_three.2 ⟨absI_step g1 ?_, ?_, ?_⟩
  · exact Int.dvd_trans g3 (Int.mul_dvd_mul h4 (Int.dvd_refl _))
  · exact Int.dvd_trans g2 (Int.mul_dvd_mul (Int.dvd_refl _) h3)
  · exact Int.dvd_trans g3 (Int.mul_dvd_mul h3 (Int.dvd_refl _))
end Go.Proofs.Ytamfgbenceoleaa.Span
