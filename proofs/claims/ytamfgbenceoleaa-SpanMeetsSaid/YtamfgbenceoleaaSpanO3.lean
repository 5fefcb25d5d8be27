import Derived.Test.YtamfgbenceoleaaSpanO2
/-! Each operator keeps the order. -/
namespace Go.Proofs.Ytamfgbenceoleaa.Span
set_option linter.unusedVariables false
set_option linter.unusedSimpArgs false
set_option linter.unusedSectionVars false
set_option linter.unnecessarySimpa false
open Go.Proofs.Ytamfgbenceoleaa.Ev Go.RowKit
variable {a a' c : Abs} {k k' v : Int}
theorem add_keeps (hA : VA a) (hA' : VA a') (hC : VA c) (h : leqF a a' = true) (hv : withinF (addF a c k) v = true) : withinF (addF a' c k') v = true := by
  obtain ⟨h1, h2, h3, h4, _⟩ := (leq_iff hA hA').1 h
  have o1 := hA.2.1; have o2 := hA'.2.1; have o3 := hC.2.1
  refine bound_mono (by omega) (gcdL_nonneg _ _) (fun e => ?_) (by omega) (gcdL_nonneg _ _) (fun e => ?_) (by omega) (by omega) ?_ ?_ hv
  · have := gz e; rw [step_zero hA, step_zero hC] at this; omega
  · have := gz e; rw [step_zero hA', step_zero hC] at this; omega
  · obtain ⟨g1, g2⟩ := gcd_two.1 (Int.dvd_refl (gcdL (stepF a') [stepF c]))
    exact gcd_two.2 ⟨Int.dvd_trans g1 h3, g2⟩
  · obtain ⟨g1, g2⟩ := gcd_two.1 (Int.dvd_refl (gcdL (stepF a') [stepF c]))
    rw [show a.lo + c.lo - (a'.lo + c.lo) = a.lo - a'.lo by omega]
    exact Int.dvd_trans g1 h4
theorem sub_keeps (hA : VA a) (hA' : VA a') (hC : VA c) (h : leqF a a' = true) (hv : withinF (subF a c k) v = true) : withinF (subF a' c k') v = true := by
  obtain ⟨h1, h2, h3, h4, _⟩ := (leq_iff hA hA').1 h
  have o1 := hA.2.1; have o2 := hA'.2.1; have o3 := hC.2.1
  refine bound_mono (by omega) (gcdL_nonneg _ _) (fun e => ?_) (by omega) (gcdL_nonneg _ _) (fun e => ?_) (by omega) (by omega) ?_ ?_ hv
  · have := gz e; rw [step_zero hA, step_zero hC] at this; omega
  · have := gz e; rw [step_zero hA', step_zero hC] at this; omega
  · obtain ⟨g1, g2⟩ := gcd_two.1 (Int.dvd_refl (gcdL (stepF a') [stepF c]))
    exact gcd_two.2 ⟨Int.dvd_trans g1 h3, g2⟩
  · obtain ⟨g1, g2⟩ := gcd_two.1 (Int.dvd_refl (gcdL (stepF a') [stepF c]))
    rw [show a.lo - c.hi - (a'.lo - c.hi) = a.lo - a'.lo by omega]
    exact Int.dvd_trans g1 h4
theorem apart_mono (hA : VA a) (hA' : VA a') (h : leqF a a' = true) : apartF a' c ∣ apartF a c := by
  obtain ⟨h1, h2, h3, h4, _⟩ := (leq_iff hA hA').1 h
  obtain ⟨g1, g2, g3⟩ := apart_iff.1 (Int.dvd_refl (apartF a' c))
  exact apart_iff.2 ⟨Int.dvd_trans g1 h3, g2, dvd_add3 (Int.dvd_trans g1 h4) g3⟩
theorem apart_comm (a c : Abs) : apartF a c = apartF c a := by
  refine nonneg_ext (apart_nonneg _ _) (apart_nonneg _ _) fun d => ?_
  rw [apart_iff, apart_iff]
  exact ⟨fun ⟨x, y, z⟩ => ⟨y, x, dvd_flip z⟩, fun ⟨x, y, z⟩ => ⟨y, x, dvd_flip z⟩⟩
theorem min_dvd {d x y x' : Int} (h : d ∣ x - x') (k : d ∣ x' - y) : d ∣ min x y - min x' y := by
  have e := dvd_add3 h k
  rcases Int.le_total x y with c | c <;> rcases Int.le_total x' y with c' | c'
  · rw [Int.min_eq_left c, Int.min_eq_left c']; exact h
  · rw [Int.min_eq_left c, Int.min_eq_right c']; exact e
  · rw [Int.min_eq_right c, Int.min_eq_left c']; exact dvd_flip k
  · rw [Int.min_eq_right c, Int.min_eq_right c', Int.sub_self]; exact Int.dvd_zero _
theorem max_dvd {d x y x' : Int} (h : d ∣ x - x') (k : d ∣ x' - y) : d ∣ max x y - max x' y := by
  have e := dvd_add3 h k
  rcases Int.le_total x y with c | c <;> rcases Int.le_total x' y with c' | c'
  · rw [Int.max_eq_right c, Int.max_eq_right c', Int.sub_self]; exact Int.dvd_zero _
  · rw [Int.max_eq_right c, Int.max_eq_left c']; exact dvd_flip k
  · rw [Int.max_eq_left c, Int.max_eq_right c']; exact e
  · rw [Int.max_eq_left c, Int.max_eq_left c']; exact h
theorem lesser_keeps (hA : VA a) (hA' : VA a') (hC : VA c) (h : leqF a a' = true) (hv : withinF (lesserF a c k) v = true) : withinF (lesserF a' c k') v = true := by
  have hm := apart_mono (c := c) hA hA' h
  obtain ⟨h1, h2, h3, h4, _⟩ := (leq_iff hA hA').1 h
  obtain ⟨g1, g2, g3⟩ := apart_iff.1 (Int.dvd_refl (apartF a' c))
  have o1 := hA.2.1; have o2 := hA'.2.1; have o3 := hC.2.1
  unfold lesserF at hv ⊢
  obtain ⟨v1, v2, v3⟩ := (by_in (by omega) (apart_nonneg _ _) (fun e => by have := apart_zero hA hC e; omega)).1 hv
  refine (by_in (by omega) (apart_nonneg _ _) (fun e => by have := apart_zero hA' hC e; omega)).2 ⟨by omega, by omega, ?_⟩
  exact dvd_add3 (Int.dvd_trans hm v3) (min_dvd (Int.dvd_trans g1 h4) g3)
theorem greater_keeps (hA : VA a) (hA' : VA a') (hC : VA c) (h : leqF a a' = true) (hv : withinF (greaterF c a k) v = true) : withinF (greaterF c a' k') v = true := by
  have hm := apart_mono (c := c) hA hA' h
  rw [apart_comm a' c, apart_comm a c] at hm
  obtain ⟨h1, h2, h3, h4, _⟩ := (leq_iff hA hA').1 h
  obtain ⟨g1, g2, g3⟩ := apart_iff.1 (Int.dvd_refl (apartF c a'))
  have o1 := hA.2.1; have o2 := hA'.2.1; have o3 := hC.2.1
  unfold greaterF at hv ⊢
  obtain ⟨v1, v2, v3⟩ := (by_in (by omega) (apart_nonneg _ _) (fun e => by have := apart_zero hC hA e; omega)).1 hv
  refine (by_in (by omega) (apart_nonneg _ _) (fun e => by have := apart_zero hC hA' e; omega)).2 ⟨by omega, by omega, ?_⟩
  have := max_dvd (y := c.lo) (Int.dvd_trans g2 h4) (dvd_flip g3)
  rw [Int.max_comm a.lo, Int.max_comm a'.lo] at this
  exact dvd_add3 (Int.dvd_trans hm v3) this
end Go.Proofs.Ytamfgbenceoleaa.Span
