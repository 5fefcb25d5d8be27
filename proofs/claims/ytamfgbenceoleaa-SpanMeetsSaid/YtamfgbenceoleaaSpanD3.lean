import Derived.Test.YtamfgbenceoleaaSpanD2
/-! The contract of Meet. -/
namespace Go.Proofs.Ytamfgbenceoleaa.Span
set_option linter.unusedVariables false
set_option linter.unusedSimpArgs false
set_option linter.unusedSectionVars false
set_option linter.unnecessarySimpa false
open Go.Proofs.Ytamfgbenceoleaa.Ev Go.RowKit
set_option maxRecDepth 100000
set_option maxHeartbeats 4000000
theorem many_small {a : Abs} (ha : VA a) (h : ¬ countF a ≤ 64) : a.lo ≠ a.hi ∧ 1 ≤ a.m ∧ a.m ≤ 67108864 := by
  have p1 := ha.1; have p2 := ha.2.1; have p3 := ha.2.2.1; have p4 := ha.2.2.2.2.2.1
  unfold countF at h
  have h1 : 64 ≤ (a.hi - a.lo) / a.m := by omega
  rw [Int.le_ediv_iff_mul_le (by omega)] at h1
  exact ⟨fun e => by omega, p4, by omega⟩
theorem meet_many' {a b : Abs} (ha : VA a) (hb : VA b) (h1 : a.lo ≠ a.hi) (h2 : b.lo ≠ b.hi) (h : gcdT a.m b.m ∣ b.lo - a.lo) {k : Int} (hk : 0 ≤ k ∧ k ≤ 255) :
    (firstF a b > min a.hi b.hi → meetB a b = false) ∧ (¬ firstF a b > min a.hi b.hi → meetB a b = true ∧ meetK a b k = byF (firstF a b) (min a.hi b.hi) (a.m * (b.m / gcdT a.m b.m)) k) := by
  have := meet_many ha hb h1 h2 h hk
  split at this
  · rename_i c; exact ⟨fun _ => this, fun h => absurd c h⟩
  · rename_i c; exact ⟨fun h => absurd h c, fun _ => this⟩
theorem ok_meet : FnOk Itp Try.prog 50 spMeet := fnOk S11 hm Try.func50 spMeet fun args v hv => by
  unfold spMeet at hv
  split at hv
  · rename_i a0 a1 a2 a3 a4 b0 b1 b2 b3 b4
    obtain ⟨h, hv⟩ := has_br hv
    have hv := has_ret hv
    subst hv
    simp only [Bool.and_eq_true, validF_iff] at h
    obtain ⟨hA, hB⟩ := h
    refine (meet_ev a0 a1 a2 a3 a4 b0 b1 b2 b3 b4).trans ?_
    have em : bitI .and .i64 a4 b4 = andM a4 b4 := bitI_and hA.2.2.2.1 hA.2.2.2.2.1 hB.2.2.2.1 hB.2.2.2.2.1
    have hk : 0 ≤ andM a4 b4 ∧ andM a4 b4 ≤ 255 := andM_range hA.2.2.2.1 hA.2.2.2.2.1 hB.2.2.2.1 hB.2.2.2.2.1
    have f1 : validF ⟨a0, a1, a2, a3, a4⟩ = true := validF_iff.2 hA
    have f2 : validF ⟨b0, b1, b2, b3, b4⟩ = true := validF_iff.2 hB
    have f3 : okM (andM a4 b4) = true := okM_iff.2 hk
    have eA : meetA ⟨a0, a1, a2, a3, a4⟩ ⟨b0, b1, b2, b3, b4⟩ = meetK ⟨a0, a1, a2, a3, a4⟩ ⟨b0, b1, b2, b3, b4⟩ (andM a4 b4) := rfl
    rw [em]
    simp only [f1, f2, f3, Bool.and_self, cond_true]
    by_cases c1 : countF ⟨a0, a1, a2, a3, a4⟩ ≤ 64
    · simp only [c1, decide_true, cond_true, eA]
    simp only [c1, decide_false, cond_false]
    by_cases c2 : countF ⟨b0, b1, b2, b3, b4⟩ ≤ 64
    · simp only [c2, decide_true, cond_true, eA, meetK_comm hB hA hk, meetB_comm hB hA]
    simp only [c2, decide_false, cond_false]
    obtain ⟨nA, mA, mA'⟩ := many_small hA c1
    obtain ⟨nB, mB, mB'⟩ := many_small hB c2
    clear c1 c2
    simp only at nA mA mA' nB mB mB'
    have hg := gcdT_pos (s := a2) (t := b2) (by omega)
    obtain ⟨g1, g2⟩ := gcdT_dvd (s := a2) (t := b2)
    have hn := n_pos (s := a2) (t := b2) (by omega) (by omega)
    have hcop := gcdT_cop (s := a2) (t := b2) (by omega)
    have hap := meet_apart hA hB nA nB
    have hmany := fun h => meet_many' hA hB nA nB h hk
    simp only [firstF, crtK] at hmany
    simp only at hap hmany
    have p1 := hA.1; have p2 := hA.2.1; have p3 := hA.2.2.1
    have q1 := hB.1; have q2 := hB.2.1; have q3 := hB.2.2.1
    simp only at p1 p2 p3 q1 q2 q3
    have eg : gcdL a2 [b2] = gcdT a2 b2 := rfl
    rw [eg]
    have hgl := Int.le_of_dvd (show 0 < b2 by omega) g2
    have hgl1 := Int.le_of_dvd (show 0 < a2 by omega) g1
    have ed : IntKind.i64.wrap (b0 - a0) = b0 - a0 := wrap_of (by omega) (by omega)
    have en : b2.tdiv (gcdT a2 b2) = b2 / gcdT a2 b2 := Int.tdiv_eq_ediv_of_nonneg (by omega)
    have es : a2.tdiv (gcdT a2 b2) = a2 / gcdT a2 b2 := Int.tdiv_eq_ediv_of_nonneg (by omega)
    have hnl : b2 / gcdT a2 b2 ≤ b2 := Int.ediv_le_self _ (by omega)
    have hsl : a2 / gcdT a2 b2 ≤ a2 := Int.ediv_le_self _ (by omega)
    have hs0 : 0 ≤ a2 / gcdT a2 b2 := Int.ediv_nonneg (by omega) (by omega)
    have k1 : okV a2 = true := okV_iff.2 (by omega)
    have k2 : okL [b2] = true := by simp [okL, okV]; omega
    have k3 : ¬ gcdT a2 b2 = 0 := by omega
    rw [ed, en, es, wrap_of (n := b2 / gcdT a2 b2) (by omega) (by omega), wrap_of (n := a2 / gcdT a2 b2) (by omega) (by omega)]
    simp only [k1, k2, k3, Bool.and_self, decide_false, Bool.not_false, cond_true]
    by_cases c : gcdT a2 b2 ∣ b0 - a0
    · have e0 : ((b0 - a0).tmod (gcdT a2 b2) != 0) = false := by
        rw [Int.tmod_eq_zero_of_dvd c]; rfl
      have hmany := hmany c
      have et : (b0 - a0).tdiv (gcdT a2 b2) = (b0 - a0) / gcdT a2 b2 := Int.tdiv_eq_ediv_of_dvd c
      obtain ⟨i0, i1, _⟩ := cop_inv hn hcop
      have hb1 : -4294967295 ≤ (b0 - a0) / gcdT a2 b2 ∧ (b0 - a0) / gcdT a2 b2 ≤ 4294967295 := by
        obtain ⟨e, he⟩ := c
        rw [he, Int.mul_ediv_cancel_left _ (by omega)]
        have h1 : (gcdT a2 b2 * e).natAbs = (gcdT a2 b2).natAbs * e.natAbs := Int.natAbs_mul _ _
        have h2 : 1 * e.natAbs ≤ (gcdT a2 b2).natAbs * e.natAbs := Nat.mul_le_mul_right _ (by omega)
        omega
      have ew : IntKind.i64.wrap ((b0 - a0) / gcdT a2 b2) = (b0 - a0) / gcdT a2 b2 := wrap_of (by omega) (by omega)
      have j0 := Int.emod_nonneg ((b0 - a0) / gcdT a2 b2) (show b2 / gcdT a2 b2 ≠ 0 by omega)
      have j1 := Int.emod_lt_of_pos ((b0 - a0) / gcdT a2 b2) hn
      rw [et, ew]
      simp only [e0, cond_false]
      generalize hG : gcdT a2 b2 = G at *
      generalize hN : b2 / G = n at *
      generalize hS : a2 / G = s at *
      generalize hI : invF s n = i at *
      generalize (b0 - a0) / G % n = u at *
      have hui : 0 ≤ u * i := Int.mul_nonneg j0 i0
      have hui' : u * i ≤ 67108864 * 67108864 := Int.mul_le_mul (by omega) (by omega) (by omega) (by omega)
      have w1 : IntKind.i64.wrap (u * i) = u * i := wrap_of (by omega) (by omega)
      have u0 := Int.emod_nonneg (u * i) (show n ≠ 0 by omega)
      have u1 := Int.emod_lt_of_pos (u * i) hn
      rw [w1]
      generalize u * i % n = t at *
      have hat : 0 ≤ a2 * t := Int.mul_nonneg (by omega) u0
      have hat' : a2 * t ≤ 67108864 * 67108864 := Int.mul_le_mul (by omega) (by omega) (by omega) (by omega)
      have hL0 : 0 < a2 * n := Int.mul_pos (by omega) hn
      have hL1 : a2 * n ≤ 67108864 * 67108864 := Int.mul_le_mul (by omega) (by omega) (by omega) (by omega)
      have w2 : IntKind.i64.wrap (a2 * t) = a2 * t := wrap_of (by omega) (by omega)
      have w3 : IntKind.i64.wrap (a0 + a2 * t) = a0 + a2 * t := wrap_of (by omega) (by omega)
      have w4 : IntKind.i64.wrap (a2 * n) = a2 * n := wrap_of (by omega) (by omega)
      rw [w2, w3, w4, mxI_eq, mnI_eq]
      generalize a2 * t = y at *
      generalize a2 * n = l at *
      have w5 : IntKind.i64.wrap (a0 + y - max a0 b0) = a0 + y - max a0 b0 := wrap_of (by omega) (by omega)
      rw [w5]
      have m0 := Int.emod_nonneg (a0 + y - max a0 b0) (show l ≠ 0 by omega)
      have m1 := Int.emod_lt_of_pos (a0 + y - max a0 b0) hL0
      generalize (a0 + y - max a0 b0) % l = z at *
      have w6 : IntKind.i64.wrap (max a0 b0 + z) = max a0 b0 + z := wrap_of (by omega) (by omega)
      have k4 : okMod n = true := okMod_iff.2 ⟨hn, by omega⟩
      have k5 : okInv s n = true := okInv_iff.2 ⟨hs0, hn, by omega, hcop⟩
      have k6 : okMod l = true := okMod_iff.2 ⟨hL0, by omega⟩
      rw [w6]
      simp only [k4, k5, k6, cond_true]
      by_cases c3 : max a0 b0 + z > min a1 b1
      · have hmany := hmany.1 c3
        simp only [c3, decide_true, cond_true, eA, hmany, meet_none hmany]
        rfl
      · have hmany := hmany.2 c3
        have k7 : okBy (max a0 b0 + z) (min a1 b1) l = true := okBy_iff.2 ⟨by omega, by omega, by omega, by omega, by omega, by omega⟩
        simp only [c3, decide_false, cond_false, k7, cond_true, eA, hmany.1, hmany.2]
    · have e0 : ((b0 - a0).tmod (gcdT a2 b2) != 0) = true := by
        rw [bne_iff_ne]; exact fun h => c (Int.dvd_of_tmod_eq_zero h)
      have hn := hap c
      simp only [e0, cond_true, eA, hn, meet_none hn]
      rfl
  · exact hv.elim
theorem S12 : SpecOk Itp Try.prog (fromList L12) := specOk_cons (en _ _ Try.func50) ok_meet S11
theorem ok_met : FnOk Itp Try.prog 18 spMet := fnOk S12 hm Try.func18 spMet fun args v hv => by
  unfold spMet at hv
  split at hv
  · rename_i a0 a1 a2 a3 a4 b0 b1 b2 b3 b4
    obtain ⟨h, hv⟩ := has_br hv
    have hv := has_ret hv
    subst hv
    refine (met_ev a0 a1 a2 a3 a4 b0 b1 b2 b3 b4).trans ?_
    rw [h]; rfl
  · exact hv.elim
theorem S13 : SpecOk Itp Try.prog (fromList L13) := specOk_cons (en _ _ Try.func18) ok_met S12
end Go.Proofs.Ytamfgbenceoleaa.Span
