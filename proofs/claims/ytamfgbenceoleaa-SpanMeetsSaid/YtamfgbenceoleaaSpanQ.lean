import Derived.Test.YtamfgbenceoleaaSpanP
/-! Sets of values: the operators are sound. -/
namespace Go.Proofs.Ytamfgbenceoleaa.Span
set_option linter.unusedVariables false
set_option linter.unusedSimpArgs false
set_option linter.unusedSectionVars false
set_option linter.unnecessarySimpa false
open Go.Proofs.Ytamfgbenceoleaa.Ev
theorem gcdL_pair {s t : Int} : gcdL s [t] ∣ s ∧ gcdL s [t] ∣ t := by
  have h := gcdL_self (a := s) (l := [t])
  exact ⟨h.1, h.2 t (by simp)⟩
/-- bounded: what is between, by the step, is in it when it is wrapped. -/
theorem bound_sound {k lo hi m x : Int} (h : lo ≤ hi) (hm : 0 ≤ m) (hz : m = 0 → lo = hi) (hk : 0 ≤ k ∧ k ≤ 255) (hx : lo ≤ x ∧ x ≤ hi) (hd : m ∣ x - lo) : VA (boundF k lo hi m) ∧ withinF (boundF k lo hi m) (w32 x) = true ∧ (boundF k lo hi m).mask = k := by
  unfold boundF
  by_cases c : (valB lo && valB hi) = true
  · rw [if_pos c]
    simp only [valB, Bool.and_eq_true, decide_eq_true_eq] at c
    refine ⟨by_VA h hm hz c.1.1 c.2.2 hk, ?_, by_mask _ _ _ _⟩
    rw [w32_of (by omega) (by omega)]
    exact (by_in h hm hz).2 ⟨hx.1, hx.2, hd⟩
  · rw [if_neg c]
    have hg0 := gcdL_nonneg 4294967296 [m]
    have hg1 : gcdL 4294967296 [m] ≠ 0 := fun h => by have := (gcdL_zero h).1; omega
    have hgs := gcdL_pair (s := 4294967296) (t := m)
    have hg2 := Int.le_of_dvd (by omega) hgs.1
    have hr0 := Int.emod_nonneg (lo - -2147483648) hg1
    have hr1 := Int.emod_lt_of_pos (lo - -2147483648) (show 0 < gcdL 4294967296 [m] by omega)
    refine ⟨like_VA (by omega) (by omega) (by omega) (by omega) hk, (like_in (by omega) (by omega)).2 ⟨(w32_mem x).1, (w32_mem x).2, ?_⟩, like_mask _ _ _ _ _⟩
    have h1 := Int.dvd_trans hgs.1 (w32_dvd x)
    have h2 := Int.dvd_trans hgs.2 hd
    have := Int.dvd_add h1 h2
    rwa [show w32 x - x + (x - lo) = w32 x - lo by omega] at this
section
variable {a b : Abs} {v w k : Int}
theorem range_of (h : VA a) (hv : withinF a v = true) : -2147483648 ≤ v ∧ v ≤ 2147483647 ∧ a.lo ≤ v ∧ v ≤ a.hi ∧ stepF a ∣ v - a.lo := by
  have := (in_iff h).1 hv
  obtain ⟨p1, p2, p3, -⟩ := h
  exact ⟨by omega, by omega, this.1, this.2.1, this.2.2⟩
theorem gz {s t : Int} (h : gcdL s [t] = 0) : s = 0 ∧ t = 0 := by
  have := gcdL_zero h
  exact ⟨this.1, this.2 t (by simp)⟩
theorem add_sound (hA : VA a) (hB : VA b) (hv : withinF a v = true) (hw : withinF b w = true) (hk : 0 ≤ k ∧ k ≤ 255) : VA (addF a b k) ∧ withinF (addF a b k) (w32 (v + w)) = true ∧ (addF a b k).mask = k := by
  have hr := range_of hA hv
  have hs := range_of hB hw
  have hg := gcdL_pair (s := stepF a) (t := stepF b)
  refine bound_sound (by have := hA.2.1; have := hB.2.1; omega) (gcdL_nonneg _ _) (fun h => ?_) hk ⟨by omega, by omega⟩ ?_
  · have := gz h
    have h1 := (step_zero hA).1 this.1
    have h2 := (step_zero hB).1 this.2
    omega
  · have := Int.dvd_add (Int.dvd_trans hg.1 hr.2.2.2.2) (Int.dvd_trans hg.2 hs.2.2.2.2)
    rwa [show v - a.lo + (w - b.lo) = v + w - (a.lo + b.lo) by omega] at this
theorem sub_sound (hA : VA a) (hB : VA b) (hv : withinF a v = true) (hw : withinF b w = true) (hk : 0 ≤ k ∧ k ≤ 255) : VA (subF a b k) ∧ withinF (subF a b k) (w32 (v - w)) = true ∧ (subF a b k).mask = k := by
  have hr := range_of hA hv
  have hs := range_of hB hw
  have hg := gcdL_pair (s := stepF a) (t := stepF b)
  refine bound_sound (by have := hA.2.1; have := hB.2.1; omega) (gcdL_nonneg _ _) (fun h => ?_) hk ⟨by omega, by omega⟩ ?_
  · have := gz h
    have h1 := (step_zero hA).1 this.1
    have h2 := (step_zero hB).1 this.2
    omega
  · have h1 := Int.dvd_sub (Int.dvd_trans hg.1 hr.2.2.2.2) (Int.dvd_trans hg.2 hs.2.2.2.2)
    have := Int.dvd_add h1 (Int.dvd_trans hg.2 (step_dvd hB))
    rwa [show v - a.lo - (w - b.lo) + (b.hi - b.lo) = v - w - (a.lo - b.hi) by omega] at this
/-- A product lies between the products of the ends. -/
theorem mul_ends {l h x y : Int} (h0 : l ≤ x) (h1 : x ≤ h) : min (l * y) (h * y) ≤ x * y ∧ x * y ≤ max (l * y) (h * y) := by
  rcases Int.le_total 0 y with hy | hy
  · have p := Int.mul_le_mul_of_nonneg_right h0 hy
    have q := Int.mul_le_mul_of_nonneg_right h1 hy
    omega
  · have p := Int.mul_le_mul_of_nonpos_right h0 hy
    have q := Int.mul_le_mul_of_nonpos_right h1 hy
    omega
theorem mul_ends' {l h x y : Int} (h0 : l ≤ y) (h1 : y ≤ h) : min (x * l) (x * h) ≤ x * y ∧ x * y ≤ max (x * l) (x * h) := by
  have := mul_ends (y := x) h0 h1
  rwa [Int.mul_comm l x, Int.mul_comm h x, Int.mul_comm y x] at this
theorem absI_dvd {d x y : Int} (h : d ∣ absI x * y) : d ∣ x * y := by
  rw [← Int.dvd_natAbs] at h ⊢
  rw [Int.natAbs_mul] at h ⊢
  rwa [show (absI x).natAbs = x.natAbs by unfold absI; omega] at h
/-- Two products of members differ by a multiple of the step. -/
theorem mul_like (hv : stepF a ∣ v - a.lo) (hw : stepF b ∣ w - b.lo) : gcdL (absI a.lo * stepF b) [absI b.lo * stepF a, stepF a * stepF b] ∣ v * w - a.lo * b.lo := by
  have hg := gcdL_self (a := absI a.lo * stepF b) (l := [absI b.lo * stepF a, stepF a * stepF b])
  have h1 := absI_dvd hg.1
  have h2 := absI_dvd (hg.2 (absI b.lo * stepF a) (by simp))
  have h3 := hg.2 (stepF a * stepF b) (by simp)
  generalize gcdL (absI a.lo * stepF b) [absI b.lo * stepF a, stepF a * stepF b] = g at *
  obtain ⟨i, hi⟩ := hv
  obtain ⟨j, hj⟩ := hw
  have e : v * w - a.lo * b.lo = a.lo * stepF b * j + (b.lo * stepF a * i + stepF a * stepF b * (i * j)) := by
    rw [show v = a.lo + stepF a * i by omega, show w = b.lo + stepF b * j by omega]
    simp only [Int.add_mul, Int.mul_add, Int.mul_assoc, Int.mul_comm, Int.mul_left_comm]
    omega
  rw [e]
  exact Int.dvd_add (Int.dvd_mul_of_dvd_left h1) (Int.dvd_add (Int.dvd_mul_of_dvd_left h2) (Int.dvd_mul_of_dvd_left h3))
theorem mul_sound (hA : VA a) (hB : VA b) (hv : withinF a v = true) (hw : withinF b w = true) (hk : 0 ≤ k ∧ k ≤ 255) : VA (mulF a b k) ∧ withinF (mulF a b k) (w32 (v * w)) = true ∧ (mulF a b k).mask = k := by
  have hr := range_of hA hv
  have hs := range_of hB hw
  have e1 := mul_ends (y := w) hr.2.2.1 hr.2.2.2.1
  have e2 := mul_ends' (x := a.lo) hs.2.2.1 hs.2.2.2.1
  have e3 := mul_ends' (x := a.hi) hs.2.2.1 hs.2.2.2.1
  have zA := step_zero hA
  have zB := step_zero hB
  have loA : stepF a ∣ a.lo - a.lo := by rw [Int.sub_self]; exact Int.dvd_zero _
  have loB : stepF b ∣ b.lo - b.lo := by rw [Int.sub_self]; exact Int.dvd_zero _
  have d0 := mul_like (a := a) (b := b) hr.2.2.2.2 hs.2.2.2.2
  have d1 := mul_like (a := a) (b := b) loA loB
  have d2 := mul_like (a := a) (b := b) loA (step_dvd hB)
  have d3 := mul_like (a := a) (b := b) (step_dvd hA) loB
  have d4 := mul_like (a := a) (b := b) (step_dvd hA) (step_dvd hB)
  have hz : gcdL (absI a.lo * stepF b) [absI b.lo * stepF a, stepF a * stepF b] = 0 → min (min (min (a.lo * b.lo) (a.lo * b.hi)) (a.hi * b.lo)) (a.hi * b.hi) = max (max (max (a.lo * b.lo) (a.lo * b.hi)) (a.hi * b.lo)) (a.hi * b.hi) := fun h0 => by
    rw [h0, Int.zero_dvd] at d2 d3 d4
    omega
  have hn := gcdL_nonneg (absI a.lo * stepF b) [absI b.lo * stepF a, stepF a * stepF b]
  unfold mulF
  generalize gcdL (absI a.lo * stepF b) [absI b.lo * stepF a, stepF a * stepF b] = g at *
  refine bound_sound (by omega) hn hz hk ⟨by omega, by omega⟩ ?_
  have key : ∀ c, g ∣ c - a.lo * b.lo → g ∣ v * w - c := fun c hc => by
    have := Int.dvd_sub d0 hc
    rwa [show v * w - a.lo * b.lo - (c - a.lo * b.lo) = v * w - c by omega] at this
  rcases (show min (min (min (a.lo * b.lo) (a.lo * b.hi)) (a.hi * b.lo)) (a.hi * b.hi) = a.lo * b.lo ∨ min (min (min (a.lo * b.lo) (a.lo * b.hi)) (a.hi * b.lo)) (a.hi * b.hi) = a.lo * b.hi ∨ min (min (min (a.lo * b.lo) (a.lo * b.hi)) (a.hi * b.lo)) (a.hi * b.hi) = a.hi * b.lo ∨ min (min (min (a.lo * b.lo) (a.lo * b.hi)) (a.hi * b.lo)) (a.hi * b.hi) = a.hi * b.hi by omega) with h | h | h | h
  all_goals rw [h]
  · exact key _ d1
  · exact key _ d2
  · exact key _ d3
  · exact key _ d4
/-- Quotients without fractions. -/
theorem tdiv_pos_mono {x y d : Int} (hd : 0 < d) (h : x ≤ y) : x.tdiv d ≤ y.tdiv d := by
  rcases Int.le_total 0 x with hx | hx
  · rw [Int.tdiv_eq_ediv_of_nonneg hx, Int.tdiv_eq_ediv_of_nonneg (by omega)]
    exact Int.ediv_le_ediv hd h
  · rcases Int.le_total 0 y with hy | hy
    · have h1 : 0 ≤ y.tdiv d := Int.tdiv_nonneg hy (by omega)
      have h2 : 0 ≤ (-x).tdiv d := Int.tdiv_nonneg (by omega) (by omega)
      rw [Int.neg_tdiv] at h2
      omega
    · have h1 : (-y).tdiv d ≤ (-x).tdiv d := by
        rw [Int.tdiv_eq_ediv_of_nonneg (by omega), Int.tdiv_eq_ediv_of_nonneg (by omega)]
        exact Int.ediv_le_ediv hd (by omega)
      rw [Int.neg_tdiv, Int.neg_tdiv] at h1
      omega
theorem tdiv_ends {l h x d : Int} (h0 : l ≤ x) (h1 : x ≤ h) : min (l.tdiv d) (h.tdiv d) ≤ x.tdiv d ∧ x.tdiv d ≤ max (l.tdiv d) (h.tdiv d) := by
  rcases Int.lt_trichotomy d 0 with hd | hd | hd
  · have p := tdiv_pos_mono (d := -d) (by omega) h0
    have q := tdiv_pos_mono (d := -d) (by omega) h1
    simp only [Int.tdiv_neg] at p q
    omega
  · subst hd; simp
  · have p := tdiv_pos_mono hd h0
    have q := tdiv_pos_mono hd h1
    omega
theorem tdiv_abs (x y : Int) : - absI x ≤ x.tdiv y ∧ x.tdiv y ≤ absI x := by
  have h : (Int.tdiv x y).natAbs ≤ x.natAbs := by rw [Int.natAbs_tdiv]; exact Nat.div_le_self _ _
  unfold absI; omega
def quo (v w : Int) : Int := if w = 0 then 0 else v.tdiv w
theorem div_sound (hA : VA a) (hB : VA b) (hv : withinF a v = true) (hw : withinF b w = true) (hk : 0 ≤ k ∧ k ≤ 255) : VA (divF a b k) ∧ withinF (divF a b k) (w32 (quo v w)) = true ∧ (divF a b k).mask = k := by
  have hr := range_of hA hv
  have hs := range_of hB hw
  have pA := hA.2.1
  have key : divLo a b ≤ divHi a b ∧ divLo a b ≤ quo v w ∧ quo v w ≤ divHi a b := by
    unfold divLo divHi quo
    by_cases c1 : stepF b = 0 ∧ b.lo ≠ 0
    · rw [if_pos c1, if_pos c1]
      have hwb : w = b.lo := by have h1 := (step_zero hB).1 c1.1; omega
      rw [if_neg (by omega), hwb]
      have := tdiv_ends (d := b.lo) hr.2.2.1 hr.2.2.2.1
      exact ⟨by omega, this.1, this.2⟩
    · rw [if_neg c1, if_neg c1]
      by_cases c2 : a.lo < 0 ∨ b.lo < 0
      · rw [if_pos c2, if_pos c2]
        have := tdiv_abs v w
        split
        · unfold absI; omega
        · unfold absI at *; omega
      · rw [if_neg c2, if_neg c2]
        split
        · omega
        · rename_i hw0
          have h1 : 0 ≤ v.tdiv w := Int.tdiv_nonneg (by omega) (by omega)
          have h2 := tdiv_abs v w
          unfold absI at h2
          omega
  unfold divF
  by_cases c : (valB (divLo a b) && valB (divHi a b)) = true
  · rw [if_pos c]
    simp only [valB, Bool.and_eq_true, decide_eq_true_eq] at c
    refine ⟨by_VA key.1 (by omega) (by omega) c.1.1 c.2.2 hk, ?_, by_mask _ _ _ _⟩
    rw [w32_of (by omega) (by omega)]
    exact (by_in key.1 (by omega) (by omega)).2 ⟨key.2.1, key.2.2, Int.one_dvd _⟩
  · rw [if_neg c]
    exact ⟨all_VA hk, all_in (w32_mem _).1 (w32_mem _).2, rfl⟩
def rmd (v w : Int) : Int := if w = 0 then v else v.tmod w
theorem tmod_facts (x y : Int) (h : y ≠ 0) : (0 ≤ x → 0 ≤ x.tmod y ∧ x.tmod y ≤ x ∧ x.tmod y < absI y) ∧ (x ≤ 0 → x.tmod y ≤ 0 ∧ x ≤ x.tmod y ∧ - absI y < x.tmod y) ∧ y ∣ x.tmod y - x := by
  have hn : (x.tmod y).natAbs = x.natAbs % y.natAbs := Int.natAbs_tmod x y
  have h1 : x.natAbs % y.natAbs < y.natAbs := Nat.mod_lt _ (by omega)
  have h2 : x.natAbs % y.natAbs ≤ x.natAbs := Nat.mod_le _ _
  refine ⟨fun hx => ?_, fun hx => ?_, ?_⟩
  · have := Int.tmod_nonneg y hx
    unfold absI; omega
  · have := Int.tmod_nonneg y (show 0 ≤ -x by omega)
    rw [Int.neg_tmod] at this
    unfold absI; omega
  · have := Int.mul_tdiv_add_tmod x y
    exact ⟨-(x.tdiv y), by rw [Int.mul_neg]; omega⟩
theorem rem_sound (hA : VA a) (hB : VA b) (hv : withinF a v = true) (hw : withinF b w = true) (hk : 0 ≤ k ∧ k ≤ 255) : VA (remF a b k) ∧ withinF (remF a b k) (w32 (rmd v w)) = true ∧ (remF a b k).mask = k := by
  have hr := range_of hA hv
  have hs := range_of hB hw
  have sA := step_range hA
  obtain ⟨p1, p2, p3, p4, p5, p6, p7, p8⟩ := hA
  have hmem : -2147483648 ≤ rmd v w ∧ rmd v w ≤ 2147483647 := by
    unfold rmd; split
    · omega
    · rename_i h0
      have := tmod_facts v w h0
      rcases Int.le_total 0 v with h | h
      · have := this.1 h; omega
      · have := this.2.1 h; omega
  rw [w32_of hmem.1 hmem.2]
  unfold remF
  by_cases c1 : stepF b ≠ 0
  · rw [if_pos c1]
    refine ⟨by_VA (by omega) (by omega) (by omega) (by omega) (by omega) hk, (by_in (by omega) (by omega) (by omega)).2 ⟨?_, ?_, Int.one_dvd _⟩, by_mask _ _ _ _⟩
    all_goals
      unfold rmd; split
      · omega
      · rename_i h0
        have := tmod_facts v w h0
        rcases Int.le_total 0 v with h | h
        · have := this.1 h; omega
        · have := this.2.1 h; omega
  · rw [if_neg c1]
    have hwb : w = b.lo := by have h1 := (step_zero hB).1 (by omega); omega
    by_cases c2 : absI b.lo = 0 ∨ (0 ≤ a.lo ∧ a.hi < absI b.lo)
    · rw [if_pos c2]
      have hrm : rmd v w = v := by
        unfold rmd
        rcases c2 with c2 | c2
        · rw [if_pos (by unfold absI at c2; omega)]
        · split
          · rfl
          · rename_i h0
            have hn : (v.tmod w).natAbs = v.natAbs % w.natAbs := Int.natAbs_tmod v w
            have hf := (tmod_facts v w h0).1 (by omega)
            have hlt : v.natAbs < w.natAbs := by rw [hwb]; have := c2.2; unfold absI at this; omega
            rw [Nat.mod_eq_of_lt hlt] at hn
            omega
      rw [hrm]
      exact ⟨⟨p1, p2, p3, hk.1, hk.2, p6, p7, p8⟩, hv, rfl⟩
    · rw [if_neg c2]
      have hw0 : w ≠ 0 := by intro h; apply c2; left; rw [← hwb, h]; rfl
      have hn : 0 < absI b.lo ∧ absI b.lo ≤ 2147483648 := by
        have q1 := hB.1
        have q2 := hB.2.1
        have q3 := hB.2.2.1
        unfold absI; omega
      have hnw : absI w = absI b.lo := by rw [hwb]
      have hf := tmod_facts v w hw0
      rw [hnw] at hf
      have hg := gcdL_pair (s := stepF a) (t := absI b.lo)
      have hg0 := gcdL_nonneg (stepF a) [absI b.lo]
      have hg1 : gcdL (stepF a) [absI b.lo] ≠ 0 := fun h => by have := (gz h).2; omega
      have hg2 := Int.le_of_dvd hn.1 hg.2
      have hrr : rmd v w = v.tmod w := if_neg hw0
      rw [hrr]
      have hdv : gcdL (stepF a) [absI b.lo] ∣ v.tmod w - a.lo := by
        have h1 : gcdL (stepF a) [absI b.lo] ∣ v.tmod w - v := by
          refine Int.dvd_trans ?_ hf.2.2
          refine Int.dvd_trans hg.2 ?_
          rw [← hnw]; unfold absI
          exact Int.natAbs_dvd.2 (Int.dvd_refl w)
        have := Int.dvd_add h1 (Int.dvd_trans hg.1 hr.2.2.2.2)
        rwa [show v.tmod w - v + (v - a.lo) = v.tmod w - a.lo by omega] at this
      generalize gcdL (stepF a) [absI b.lo] = g at *
      generalize absI b.lo = n at *
      have r0 := Int.emod_nonneg (a.lo - max (min a.lo 0) (1 - n)) hg1
      have r1 := Int.emod_lt_of_pos (a.lo - max (min a.lo 0) (1 - n)) (show 0 < g by omega)
      have hfit : max (min a.lo 0) (1 - n) + (a.lo - max (min a.lo 0) (1 - n)) % g ≤ min (max a.hi 0) (n - 1) := by
        by_cases c4 : 0 ≤ a.lo
        · have : max (min a.lo 0) (1 - n) = 0 := by omega
          rw [this] at r0 r1 ⊢
          have : n ≤ a.hi := by
            rcases Int.lt_or_le a.hi n with h | h
            · exact absurd (Or.inr ⟨c4, h⟩) c2
            · exact h
          omega
        · by_cases c5 : a.lo < 1 - n
          · have : max (min a.lo 0) (1 - n) = 1 - n := by omega
            rw [this] at r0 r1 ⊢; omega
          · have : max (min a.lo 0) (1 - n) = a.lo := by omega
            rw [this, Int.sub_self, Int.zero_emod]; omega
      refine ⟨like_VA (by omega) hfit (by omega) (by omega) hk, (like_in (by omega) hfit).2 ⟨?_, ?_, hdv⟩, like_mask _ _ _ _ _⟩
      all_goals
        rcases Int.le_total 0 v with h | h
        · have := hf.1 h; omega
        · have := hf.2.1 h; omega
theorem apart_dvd : apartF a b ∣ stepF a ∧ apartF a b ∣ stepF b ∧ apartF a b ∣ a.lo - b.lo := by
  have h := gcdL_self (a := stepF a) (l := [stepF b, absI (a.lo - b.lo)])
  refine ⟨h.1, h.2 _ (by simp), ?_⟩
  have := h.2 (absI (a.lo - b.lo)) (by simp)
  unfold absI at this
  exact Int.dvd_natAbs.1 this
theorem lesser_sound (hA : VA a) (hB : VA b) (hv : withinF a v = true) (hw : withinF b w = true) (hk : 0 ≤ k ∧ k ≤ 255) : VA (lesserF a b k) ∧ withinF (lesserF a b k) (if w < v then w else v) = true ∧ (lesserF a b k).mask = k := by
  have hr := range_of hA hv
  have hs := range_of hB hw
  have hd := apart_dvd (a := a) (b := b)
  have hz := apart_zero hA hB
  have h0 := (apart_range hA hB).1
  have e1 := Int.dvd_trans hd.1 hr.2.2.2.2
  have e2 := Int.dvd_trans hd.2.1 hs.2.2.2.2
  obtain ⟨p1, p2, p3, -⟩ := hA
  obtain ⟨q1, q2, q3, -⟩ := hB
  refine ⟨by_VA (by omega) h0 (fun h => by have := hz h; omega) (by omega) (by omega) hk, (by_in (by omega) h0 (fun h => by have := hz h; omega)).2 ⟨by split <;> omega, by split <;> omega, ?_⟩, by_mask _ _ _ _⟩
  have d1 : apartF a b ∣ v - b.lo := by have := Int.dvd_add e1 hd.2.2; rwa [show v - a.lo + (a.lo - b.lo) = v - b.lo by omega] at this
  have d2 : apartF a b ∣ w - a.lo := by have := Int.dvd_sub e2 hd.2.2; rwa [show w - b.lo - (a.lo - b.lo) = w - a.lo by omega] at this
  rcases (show min a.lo b.lo = a.lo ∨ min a.lo b.lo = b.lo by omega) with h | h <;> rw [h] <;> split <;> assumption
theorem greater_sound (hA : VA a) (hB : VA b) (hv : withinF a v = true) (hw : withinF b w = true) (hk : 0 ≤ k ∧ k ≤ 255) : VA (greaterF a b k) ∧ withinF (greaterF a b k) (if v < w then w else v) = true ∧ (greaterF a b k).mask = k := by
  have hr := range_of hA hv
  have hs := range_of hB hw
  have hd := apart_dvd (a := a) (b := b)
  have hz := apart_zero hA hB
  have h0 := (apart_range hA hB).1
  have e1 := Int.dvd_trans hd.1 hr.2.2.2.2
  have e2 := Int.dvd_trans hd.2.1 hs.2.2.2.2
  obtain ⟨p1, p2, p3, -⟩ := hA
  obtain ⟨q1, q2, q3, -⟩ := hB
  refine ⟨by_VA (by omega) h0 (fun h => by have := hz h; omega) (by omega) (by omega) hk, (by_in (by omega) h0 (fun h => by have := hz h; omega)).2 ⟨by split <;> omega, by split <;> omega, ?_⟩, by_mask _ _ _ _⟩
  have d1 : apartF a b ∣ v - b.lo := by have := Int.dvd_add e1 hd.2.2; rwa [show v - a.lo + (a.lo - b.lo) = v - b.lo by omega] at this
  have d2 : apartF a b ∣ w - a.lo := by have := Int.dvd_sub e2 hd.2.2; rwa [show w - b.lo - (a.lo - b.lo) = w - a.lo by omega] at this
  rcases (show max a.lo b.lo = a.lo ∨ max a.lo b.lo = b.lo by omega) with h | h <;> rw [h] <;> split <;> assumption
/-- **The operators are sound.** -/
theorem op_sound {op l m : Int} (ho : 4 ≤ op ∧ op ≤ 10) (hA : VA a) (hB : VA b) (hv : hasF a v l = true) (hw : hasF b w m = true) : VA (opA op a b) ∧ hasF (opA op a b) (opG op v w) (orM l m) = true := by
  rw [hasF_iff] at hv hw
  have hr := range_of hA hv.1
  have hs := range_of hB hw.1
  have hk := orM_range hA.2.2.2.1 hA.2.2.2.2.1 hB.2.2.2.1 hB.2.2.2.2.1
  have hmask := subB_mono hv.2 hw.2
  have eg : opG op v w = w32 (opJ op v w) := by unfold opG; rw [w32_of hr.1 hr.2.1, w32_of hs.1 hs.2.1]
  rw [eg]
  unfold opA
  by_cases c1 : (stepF a = 0 ∧ stepF b = 0) ∨ op < 4 ∨ 10 < op
  · rw [if_pos c1]
    have c2 : stepF a = 0 ∧ stepF b = 0 := by rcases c1 with h | h; exact h; omega
    have h1 := (step_zero hA).1 c2.1
    have h2 := (step_zero hB).1 c2.2
    have e1 : v = a.lo := by omega
    have e2 : w = b.lo := by omega
    have e3 : opG op a.lo b.lo = w32 (opJ op v w) := by rw [← eg, e1, e2]
    rw [e3]
    exact ⟨of_VA (w32_mem _).1 (w32_mem _).2 hk, hasF_iff.2 ⟨of_in _ _, hmask⟩⟩
  · rw [if_neg c1]
    have fin : ∀ {c : Abs} {x : Int}, VA c ∧ withinF c x = true ∧ c.mask = orM a.mask b.mask → VA c ∧ hasF c x (orM l m) = true := fun h => ⟨h.1, hasF_iff.2 ⟨h.2.1, by rw [h.2.2]; exact hmask⟩⟩
    have sm : ∀ x : Int, -2147483648 ≤ x ∧ x ≤ 2147483647 → w32 x = x := fun x h => w32_of h.1 h.2
    rcases (show op = 4 ∨ op = 5 ∨ op = 6 ∨ op = 7 ∨ op = 8 ∨ op = 9 ∨ op = 10 by omega) with rfl | rfl | rfl | rfl | rfl | rfl | rfl
    · exact fin (add_sound hA hB hv.1 hw.1 hk)
    · exact fin (sub_sound hA hB hv.1 hw.1 hk)
    · exact fin (mul_sound hA hB hv.1 hw.1 hk)
    · exact fin (div_sound hA hB hv.1 hw.1 hk)
    · exact fin (rem_sound hA hB hv.1 hw.1 hk)
    · have := lesser_sound hA hB hv.1 hw.1 hk
      rw [show opJ 9 v w = if w < v then w else v from rfl, sm _ (by split <;> omega)]
      exact fin this
    · have := greater_sound hA hB hv.1 hw.1 hk
      rw [show opJ 10 v w = if v < w then w else v from rfl, sm _ (by split <;> omega)]
      exact fin this
end
end Go.Proofs.Ytamfgbenceoleaa.Span
