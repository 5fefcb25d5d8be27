import Derived.Test.YtamfgbenceoleaaSpanO
/-! The operators but division and remainder keep the order. -/
namespace Go.Proofs.Ytamfgbenceoleaa.Span
set_option linter.unusedVariables false
set_option linter.unusedSimpArgs false
set_option linter.unusedSectionVars false
set_option linter.unnecessarySimpa false
open Go.Proofs.Ytamfgbenceoleaa.Ev Go.RowKit
theorem g32 (m : Int) : 0 < gcdL 4294967296 [m] ∧ gcdL 4294967296 [m] ≤ 4294967296 := by
  have h := gcdL_nonneg 4294967296 [m]
  have hd := (gcdL_self (a := 4294967296) (l := [m])).1
  have h0 : gcdL 4294967296 [m] ≠ 0 := fun e => by have := (gcdL_zero e).1; omega
  exact ⟨by omega, Int.le_of_dvd (by decide) hd⟩
theorem bound_in {k lo hi m v : Int} (h : lo ≤ hi) (hm : 0 ≤ m) (hz : m = 0 → lo = hi) :
    withinF (boundF k lo hi m) v = true ↔ (if (valB lo && valB hi) = true then lo ≤ v ∧ v ≤ hi ∧ m ∣ v - lo else -2147483648 ≤ v ∧ v ≤ 2147483647 ∧ gcdL 4294967296 [m] ∣ v - lo) := by
  unfold boundF
  by_cases c : (valB lo && valB hi) = true
  · rw [if_pos c, if_pos c]; exact by_in h hm hz
  · rw [if_neg c, if_neg c]
    have hg := g32 m
    refine like_in hg.1 ?_
    have := Int.emod_lt_of_pos (lo - (-2147483648)) hg.1
    omega
theorem val_iff {x : Int} : valB x = true ↔ -2147483648 ≤ x ∧ x ≤ 2147483647 := by simp [valB]
theorem gcd_two {x y d : Int} : d ∣ gcdL x [y] ↔ d ∣ x ∧ d ∣ y := by
  rw [gcdL_dvd]; simp
theorem bound_mono {k k' lo hi m lo' hi' m' v : Int} (h : lo ≤ hi) (hm : 0 ≤ m) (hz : m = 0 → lo = hi) (h' : lo' ≤ hi') (hm' : 0 ≤ m') (hz' : m' = 0 → lo' = hi')
    (l1 : lo' ≤ lo) (l2 : hi ≤ hi') (d1 : m' ∣ m) (d2 : m' ∣ lo - lo') (hv : withinF (boundF k lo hi m) v = true) : withinF (boundF k' lo' hi' m') v = true := by
  rw [bound_in h hm hz] at hv
  rw [bound_in h' hm' hz']
  have e1 : gcdL 4294967296 [m'] ∣ m' := (gcd_two.1 (Int.dvd_refl _)).2
  have e2 : gcdL 4294967296 [m'] ∣ 4294967296 := (gcd_two.1 (Int.dvd_refl _)).1
  have e3 := Int.dvd_trans e1 d2
  by_cases c : (valB lo && valB hi) = true
  · rw [if_pos c] at hv
    obtain ⟨v1, v2, v3⟩ := hv
    simp only [Bool.and_eq_true, val_iff] at c
    have e4 := dvd_add3 (Int.dvd_trans d1 v3) d2
    split
    · exact ⟨by omega, by omega, e4⟩
    · exact ⟨by omega, by omega, Int.dvd_trans e1 e4⟩
  · rw [if_neg c] at hv
    obtain ⟨v1, v2, v3⟩ := hv
    have e5 : gcdL 4294967296 [m'] ∣ gcdL 4294967296 [m] := gcd_two.2 ⟨e2, Int.dvd_trans e1 d1⟩
    have e6 := dvd_add3 (Int.dvd_trans e5 v3) e3
    split
    · rename_i c'
      simp only [Bool.and_eq_true, val_iff] at c c'
      omega
    · exact ⟨v1, v2, e6⟩
end Go.Proofs.Ytamfgbenceoleaa.Span
