import Derived.Test.YtamfgbenceoleaaSpanJ
import Derived.Test.YtamfgbenceoleaaSpanQ
/-! The order of sets: by their ends and steps, and by their values. -/
namespace Go.Proofs.Ytamfgbenceoleaa.Span
set_option linter.unusedVariables false
set_option linter.unusedSimpArgs false
set_option linter.unusedSectionVars false
set_option linter.unnecessarySimpa false
open Go.Proofs.Ytamfgbenceoleaa.Ev Go.RowKit
theorem leq_iff {a b : Abs} (ha : VA a) (hb : VA b) : leqF a b = true ↔ b.lo ≤ a.lo ∧ a.hi ≤ b.hi ∧ stepF b ∣ stepF a ∧ stepF b ∣ a.lo - b.lo ∧ subB a.mask b.mask = true := by
  rw [leq_join]
  constructor
  · intro h
    have h1 := join_lo (a := a) (b := b); have h2 := join_hi ha hb; have h3 := join_step ha hb; have h4 := join_mask (a := a) (b := b)
    rw [h] at h1 h2 h3 h4
    obtain ⟨k1, k2, k3⟩ := apart_iff.1 (show stepF b ∣ apartF a b by rw [h3]; exact Int.dvd_refl _)
    exact ⟨by omega, by omega, k1, k3, (orM_eq_iff hb.2.2.2.1).1 h4.symm⟩
  · rintro ⟨h1, h2, h3, h4, h5⟩
    refine set_ext (join_VA ha hb) hb ?_ ?_ ?_ ?_
    · rw [join_lo]; omega
    · rw [join_hi ha hb]; omega
    · rw [join_step ha hb]
      refine nonneg_ext (apart_nonneg _ _) (step_range hb).1 fun d => ?_
      rw [apart_iff]
      exact ⟨fun ⟨_, x, _⟩ => x, fun x => ⟨Int.dvd_trans x h3, x, Int.dvd_trans x h4⟩⟩
    · rw [join_mask]; exact (orM_eq_iff hb.2.2.2.1).2 h5
theorem second_in {a : Abs} (ha : VA a) : withinF a (a.lo + stepF a) = true := by
  refine (in_iff ha).2 ⟨?_, ?_, by rw [show a.lo + stepF a - a.lo = stepF a by omega]; exact Int.dvd_refl _⟩
  · have := (step_range ha).1; omega
  · unfold stepF
    split
    · have := ha.2.1; omega
    · rename_i c
      have := (ha.2.2.2.2.2.2.2 c).1
      omega
theorem leq_of {a b : Abs} (ha : VA a) (hb : VA b) (h1 : withinF b a.lo = true) (h2 : withinF b (a.lo + stepF a) = true) (h3 : withinF b a.hi = true) (hm : subB a.mask b.mask = true) : leqF a b = true := by
  obtain ⟨p1, p2, p3⟩ := (in_iff hb).1 h1
  obtain ⟨q1, q2, q3⟩ := (in_iff hb).1 h2
  obtain ⟨r1, r2, r3⟩ := (in_iff hb).1 h3
  refine (leq_iff ha hb).2 ⟨p1, r2, ?_, p3, hm⟩
  have := Int.dvd_sub q3 p3
  rwa [show a.lo + stepF a - b.lo - (a.lo - b.lo) = stepF a by omega] at this
theorem leq_in {a b : Abs} (ha : VA a) (hb : VA b) (h : leqF a b = true) {v : Int} (hv : withinF a v = true) : withinF b v = true := by
  obtain ⟨h1, h2, h3, h4, _⟩ := (leq_iff ha hb).1 h
  obtain ⟨p1, p2, p3⟩ := (in_iff ha).1 hv
  exact (in_iff hb).2 ⟨by omega, by omega, dvd_add3 (Int.dvd_trans h3 p3) h4⟩
theorem leq_sem {a b : Abs} (ha : VA a) (hb : VA b) : leqF a b = true ↔ (∀ v, withinF a v = true → withinF b v = true) ∧ subB a.mask b.mask = true :=
  ⟨fun h => ⟨fun v hv => leq_in ha hb h hv, ((leq_iff ha hb).1 h).2.2.2.2⟩, fun ⟨h, k⟩ => leq_of ha hb (h _ (lo_in ha)) (h _ (second_in ha)) (h _ (hi_in ha)) k⟩
theorem at_first (a : Abs) : atV a 0 = a.lo := by simp [atV]
theorem at_second {a : Abs} (ha : VA a) : atV a 1 = a.lo + stepF a := by
  unfold atV stepF
  by_cases c : a.lo = a.hi
  · rw [if_pos c, show a.hi - a.lo = 0 by omega]; simp
  · rw [if_neg c]
    obtain ⟨k1, k2, _⟩ := ha.2.2.2.2.2.2.2 c
    have hm := ha.2.2.2.2.2.1
    have : 1 ≤ (a.hi - a.lo) / a.m := by rw [Int.le_ediv_iff_mul_le (by omega)]; omega
    rw [Int.emod_eq_of_lt (by omega) (by omega), Int.one_mul]
theorem at_last {a : Abs} (ha : VA a) : atV a (-1) = a.hi := by
  unfold atV
  have hm := ha.2.2.2.2.2.1
  have hd : a.m ∣ a.hi - a.lo := by
    by_cases c : a.lo = a.hi
    · rw [show a.hi - a.lo = 0 by omega]; exact Int.dvd_zero _
    · exact Int.dvd_of_emod_eq_zero (ha.2.2.2.2.2.2.2 c).2.1
  have hn : 0 ≤ (a.hi - a.lo) / a.m := Int.ediv_nonneg (by have := ha.2.1; omega) (by omega)
  have e : (-1 : Int) % ((a.hi - a.lo) / a.m + 1) = (a.hi - a.lo) / a.m := by
    generalize (a.hi - a.lo) / a.m = q at *
    rw [show (-1 : Int) = q + (q + 1) * (-1) by omega, Int.add_mul_emod_self_left, Int.emod_eq_of_lt hn (by omega)]
  rw [e, Int.ediv_mul_cancel hd]
  omega
theorem order_words {a b : Abs} (ha : VA a) (hb : VA b) : leqF a b = (withinF b (atV a 0) && (withinF b (atV a 1) && withinF b (atV a (-1))) && subB a.mask b.mask) := by
  rw [at_first, at_second ha, at_last ha, Bool.eq_iff_iff]
  simp only [Bool.and_eq_true]
  exact ⟨fun h => ⟨⟨leq_in ha hb h (lo_in ha), leq_in ha hb h (second_in ha), leq_in ha hb h (hi_in ha)⟩, ((leq_sem ha hb).1 h).2⟩, fun ⟨⟨x, y, z⟩, k⟩ => leq_of ha hb x y z k⟩
end Go.Proofs.Ytamfgbenceoleaa.Span
