import Derived.Test.YtamfgbenceoleaaSpanM
/-! Sets of values: what is in them. -/
namespace Go.Proofs.Ytamfgbenceoleaa.Span
set_option linter.unusedVariables false
set_option linter.unusedSimpArgs false
set_option linter.unusedSectionVars false
set_option linter.unnecessarySimpa false
open Go.Proofs.Ytamfgbenceoleaa.Ev
theorem w32_of {x : Int} (h0 : -2147483648 ≤ x) (h1 : x ≤ 2147483647) : w32 x = x := by unfold w32; omega
theorem w32_mem (x : Int) : -2147483648 ≤ w32 x ∧ w32 x ≤ 2147483647 := by unfold w32; omega
theorem w32_dvd (x : Int) : (4294967296 : Int) ∣ w32 x - x := by unfold w32; omega
theorem withinF_iff {a : Abs} {v : Int} : withinF a v = true ↔ a.lo ≤ v ∧ v ≤ a.hi ∧ a.m ∣ v - a.lo := by
  simp only [withinF, Bool.and_eq_true, decide_eq_true_eq, Int.dvd_iff_emod_eq_zero]
theorem hasF_iff {a : Abs} {v k : Int} : hasF a v k = true ↔ withinF a v = true ∧ subB k a.mask = true := by simp [hasF]
/-- In a valid set: from its least, by its step. -/
theorem in_iff {a : Abs} (h : VA a) {v : Int} : withinF a v = true ↔ a.lo ≤ v ∧ v ≤ a.hi ∧ stepF a ∣ v - a.lo := by
  rw [withinF_iff]
  obtain ⟨h1, h2, h3, h4, h5, h6, h7, h8⟩ := h
  unfold stepF
  split
  · rename_i he
    rw [(h7 he).1]
    constructor
    · intro ⟨p, q, _⟩; exact ⟨p, q, by rw [show v - a.lo = 0 by omega]; exact Int.dvd_refl 0⟩
    · intro ⟨p, q, _⟩; exact ⟨p, q, Int.one_dvd _⟩
  · rfl
theorem step_dvd {a : Abs} (h : VA a) : stepF a ∣ a.hi - a.lo := by
  obtain ⟨h1, h2, h3, h4, h5, h6, h7, h8⟩ := h
  unfold stepF
  split
  · rename_i he; rw [he, Int.sub_self]; exact Int.dvd_refl 0
  · rename_i hne; exact Int.dvd_iff_emod_eq_zero.2 (h8 hne).2.1
theorem lo_in {a : Abs} (h : VA a) : withinF a a.lo = true := (in_iff h).2 ⟨Int.le_refl _, h.2.1, by rw [Int.sub_self]; exact Int.dvd_zero _⟩
theorem hi_in {a : Abs} (h : VA a) : withinF a a.hi = true := (in_iff h).2 ⟨h.2.1, Int.le_refl _, step_dvd h⟩
theorem top_le {lo hi m : Int} (h : lo ≤ hi) (hm : 0 < m) : lo ≤ topF lo hi m ∧ topF lo hi m ≤ hi ∧ m ∣ topF lo hi m - lo ∧ topF lo hi m = hi - (hi - lo) % m := by
  have e : topF lo hi m = hi - (hi - lo) % m := if_pos hm
  have h0 := Int.emod_nonneg (hi - lo) (show m ≠ 0 by omega)
  have h1 := emod_le (x := hi - lo) (m := m) (by omega) hm
  refine ⟨by omega, by omega, ?_, e⟩
  rw [e, show hi - (hi - lo) % m - lo = (hi - lo) - (hi - lo) % m by omega]
  exact Int.dvd_self_sub_emod
theorem by_in {lo hi m k v : Int} (h : lo ≤ hi) (hm : 0 ≤ m) (hz : m = 0 → lo = hi) : withinF (byF lo hi m k) v = true ↔ lo ≤ v ∧ v ≤ hi ∧ m ∣ v - lo := by
  rw [withinF_iff]
  unfold byF
  by_cases h0 : m = 0
  · have he := hz h0
    subst h0 he
    have : topF lo lo 0 = lo := by unfold topF; simp
    rw [this, if_pos rfl]
    simp only
    constructor
    · intro ⟨p, q, _⟩; exact ⟨p, q, by rw [show v - lo = 0 by omega]; exact Int.dvd_refl 0⟩
    · intro ⟨p, q, _⟩; exact ⟨p, q, Int.one_dvd _⟩
  · obtain ⟨t1, t2, t3, t4⟩ := top_le h (show 0 < m by omega)
    have key : v ≤ hi → lo ≤ v → m ∣ v - lo → v ≤ topF lo hi m := by
      intro hv hl hd
      rw [t4]
      obtain ⟨q, hq⟩ := hd
      have e1 := Int.mul_ediv_add_emod (hi - lo) m
      have : q ≤ (hi - lo) / m := (Int.le_ediv_iff_mul_le (by omega)).2 (by rw [Int.mul_comm]; omega)
      have : m * q ≤ m * ((hi - lo) / m) := Int.mul_le_mul_of_nonneg_left this (by omega)
      omega
    split
    · rename_i he
      simp only
      constructor
      · intro ⟨p, q, _⟩
        have : v = lo := by omega
        subst this
        exact ⟨by omega, by omega, by rw [Int.sub_self]; exact Int.dvd_zero _⟩
      · intro ⟨p, q, r⟩
        have := key q p r
        exact ⟨p, by omega, Int.one_dvd _⟩
    · simp only
      constructor
      · intro ⟨p, q, r⟩; exact ⟨p, by omega, r⟩
      · intro ⟨p, q, r⟩; exact ⟨p, key q p r, r⟩
theorem by_VA {lo hi m k : Int} (h : lo ≤ hi) (hm : 0 ≤ m) (hz : m = 0 → lo = hi) (hl : -2147483648 ≤ lo) (hh : hi ≤ 2147483647) (hk : 0 ≤ k ∧ k ≤ 255) : VA (byF lo hi m k) := by
  unfold byF
  by_cases h0 : m = 0
  · have he := hz h0
    subst h0 he
    have : topF lo lo 0 = lo := by unfold topF; simp
    rw [this, if_pos rfl]
    exact ⟨hl, Int.le_refl _, hh, hk.1, hk.2, (by show (1 : Int) ≤ 1; decide), fun _ => ⟨rfl, rfl⟩, fun h => absurd rfl h⟩
  · obtain ⟨t1, t2, t3, t4⟩ := top_le h (show 0 < m by omega)
    split
    · exact ⟨hl, Int.le_refl _, by simp only; omega, hk.1, hk.2, (by show (1 : Int) ≤ 1; decide), fun _ => ⟨rfl, rfl⟩, fun h => absurd rfl h⟩
    · rename_i hne
      refine ⟨hl, t1, by simp only; omega, hk.1, hk.2, by simp only; omega, fun h => absurd h hne, fun _ => ⟨?_, Int.dvd_iff_emod_eq_zero.1 t3, rfl⟩⟩
      simp only
      exact Int.le_of_dvd (by omega) t3
theorem by_mask (lo hi m k : Int) : (byF lo hi m k).mask = k := by unfold byF; split <;> rfl
theorem like_in {r m lo hi k v : Int} (hm : 0 < m) (h : lo + (r - lo) % m ≤ hi) : withinF (likeF r m lo hi k) v = true ↔ lo ≤ v ∧ v ≤ hi ∧ m ∣ v - r := by
  unfold likeF
  rw [by_in h (by omega) (by omega)]
  have h0 := Int.emod_nonneg (r - lo) (show m ≠ 0 by omega)
  have hd : m ∣ (r - lo) - (r - lo) % m := Int.dvd_self_sub_emod
  constructor
  · intro ⟨p, q, d⟩
    refine ⟨by omega, q, ?_⟩
    have := Int.dvd_sub d hd
    rwa [show v - (lo + (r - lo) % m) - (r - lo - (r - lo) % m) = v - r by omega] at this
  · intro ⟨p, q, d⟩
    have d2 : m ∣ (v - lo) - (r - lo) % m := by
      have := Int.dvd_add d hd
      rwa [show v - r + (r - lo - (r - lo) % m) = v - lo - (r - lo) % m by omega] at this
    refine ⟨?_, q, by rwa [show v - (lo + (r - lo) % m) = v - lo - (r - lo) % m by omega]⟩
    have e : (v - lo) % m = (r - lo) % m := by
      obtain ⟨c, hc⟩ := d2
      have h1 := Int.emod_lt_of_pos (r - lo) hm
      rw [show v - lo = (r - lo) % m + m * c by omega, Int.add_mul_emod_self_left, Int.emod_eq_of_lt h0 h1]
    have := emod_le (x := v - lo) (m := m) (by omega) hm
    omega
theorem like_VA {r m lo hi k : Int} (hm : 0 < m) (h : lo + (r - lo) % m ≤ hi) (hl : -2147483648 ≤ lo) (hh : hi ≤ 2147483647) (hk : 0 ≤ k ∧ k ≤ 255) : VA (likeF r m lo hi k) := by
  have h0 := Int.emod_nonneg (r - lo) (show m ≠ 0 by omega)
  exact by_VA h (by omega) (by omega) (by omega) hh hk
theorem like_mask (r m lo hi k : Int) : (likeF r m lo hi k).mask = k := by_mask _ _ _ _
theorem all_VA {k : Int} (hk : 0 ≤ k ∧ k ≤ 255) : VA (allF k) := by
  unfold VA allF
  simp only
  exact ⟨by omega, by omega, by omega, hk.1, hk.2, by omega, fun h => by omega, fun _ => ⟨by omega, by omega, by omega⟩⟩
theorem all_in {k x : Int} (h0 : -2147483648 ≤ x) (h1 : x ≤ 2147483647) : withinF (allF k) x = true := withinF_iff.2 ⟨h0, h1, Int.one_dvd _⟩
theorem of_VA {x k : Int} (h0 : -2147483648 ≤ x) (h1 : x ≤ 2147483647) (hk : 0 ≤ k ∧ k ≤ 255) : VA (ofF x k) := ⟨h0, Int.le_refl _, h1, hk.1, hk.2, by show (1 : Int) ≤ 1; decide, fun _ => ⟨rfl, rfl⟩, fun h => absurd rfl h⟩
theorem of_in (x k : Int) : withinF (ofF x k) x = true := withinF_iff.2 ⟨Int.le_refl _, Int.le_refl _, Int.one_dvd _⟩
/-- A made set is valid. -/
theorem made_VA (lo n m k : Int) : VA (madeF lo n m k) := by
  have hlo := w32_mem lo
  have hn0 := Int.emod_nonneg n (show (2147483648 : Int) ≠ 0 by omega)
  have hM : 1 ≤ madeM m ∧ madeM m ≤ 1048576 := by unfold madeM; omega
  have hk0 := Int.emod_nonneg k (show (256 : Int) ≠ 0 by omega)
  have hk1 := Int.emod_lt_of_pos k (show (0 : Int) < 256 by omega)
  have h1 : 0 ≤ n % 2147483648 / madeM m * madeM m := Int.mul_nonneg (Int.ediv_nonneg hn0 (by omega)) (by omega)
  have h2 := emod_le (x := 2147483647 - w32 lo) (m := madeM m) (by omega) (by omega)
  have h3 := Int.emod_nonneg (2147483647 - w32 lo) (show madeM m ≠ 0 by omega)
  exact by_VA (by omega) (by omega) (by omega) hlo.1 (by omega) ⟨hk0, by omega⟩
theorem made_step (lo n m k : Int) : stepF (madeF lo n m k) ≤ 1048576 ∧ 0 ≤ stepF (madeF lo n m k) := by
  have hM : 1 ≤ madeM m ∧ madeM m ≤ 1048576 := by unfold madeM; omega
  have h : (madeF lo n m k).m = madeM m ∨ (madeF lo n m k).m = 1 := by
    unfold madeF byF; split
    · exact .inr rfl
    · exact .inl rfl
  unfold stepF; split
  · omega
  · rcases h with h | h <;> rw [h] <;> omega
theorem made_mul (lo n m k lo' n' m' k' : Int) : okMul (madeF lo n m k) (madeF lo' n' m' k') = true := by
  have h1 := made_step lo n m k
  have h2 := made_step lo' n' m' k'
  unfold okMul
  rw [okW_iff]
  generalize stepF (madeF lo n m k) = s at h1 ⊢
  generalize stepF (madeF lo' n' m' k') = t at h2 ⊢
  have h : (s * t).natAbs ≤ 1048576 * 1048576 := by rw [Int.natAbs_mul]; exact Nat.mul_le_mul (by omega) (by omega)
  omega
/-- A drawn word is in its set. -/
theorem at_has {a : Abs} (h : VA a) (n k : Int) : hasF a (atV a n) (andW k a.mask) = true := by
  have hm := h.m_le
  refine hasF_iff.2 ⟨withinF_iff.2 ?_, (andW_range k h.2.2.2.1 h.2.2.2.2.1).2.2⟩
  obtain ⟨p1, p2, p3, p4, p5, p6, -⟩ := h
  have hd0 : 0 ≤ (a.hi - a.lo) / a.m := Int.ediv_nonneg (by omega) (by omega)
  have hdm : a.m * ((a.hi - a.lo) / a.m) ≤ a.hi - a.lo := Int.mul_ediv_self_le (by omega)
  have hn0 := Int.emod_nonneg n (show (a.hi - a.lo) / a.m + 1 ≠ 0 by omega)
  have hn1 := Int.emod_lt_of_pos n (show 0 < (a.hi - a.lo) / a.m + 1 by omega)
  have hmul : n % ((a.hi - a.lo) / a.m + 1) * a.m ≤ a.hi - a.lo := by
    refine Int.le_trans ?_ hdm
    rw [Int.mul_comm]
    exact Int.mul_le_mul_of_nonneg_left (by omega) (by omega)
  have hmul0 : 0 ≤ n % ((a.hi - a.lo) / a.m + 1) * a.m := Int.mul_nonneg hn0 (by omega)
  unfold atV
  exact ⟨by omega, by omega, by rw [show a.lo + n % ((a.hi - a.lo) / a.m + 1) * a.m - a.lo = n % ((a.hi - a.lo) / a.m + 1) * a.m by omega]; exact Int.dvd_mul_left _ _⟩
end Go.Proofs.Ytamfgbenceoleaa.Span
