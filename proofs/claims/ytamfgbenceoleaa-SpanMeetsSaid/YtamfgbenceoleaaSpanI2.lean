import Derived.Test.YtamfgbenceoleaaSpanI
/-! Inverses, and values that are like two others. -/
namespace Go.Proofs.Ytamfgbenceoleaa.Span
set_option linter.unusedVariables false
set_option linter.unusedSimpArgs false
set_option linter.unusedSectionVars false
set_option linter.unnecessarySimpa false
open Go.Proofs.Ytamfgbenceoleaa.Ev Go.RowKit
def extX (a r x y : Int) : Int := if h : r = 0 then x else extX r (a.tmod r) y (x - a.tdiv r * y)
termination_by r.natAbs
decreasing_by rw [Int.natAbs_tmod]; exact Nat.mod_lt _ (by omega)
theorem ext_zero (a x y : Int) : extX a 0 x y = x := by rw [extX]; simp
theorem ext_step {a r x y : Int} (h : r ≠ 0) : extX a r x y = extX r (a.tmod r) y (x - a.tdiv r * y) := by rw [extX]; simp [h]
theorem gcd_step {a r : Int} (h : r ≠ 0) : Int.gcd a r = Int.gcd r (a.tmod r) := by
  show Nat.gcd a.natAbs r.natAbs = Nat.gcd r.natAbs (a.tmod r).natAbs
  rw [Int.natAbs_tmod, Nat.gcd_comm a.natAbs, Nat.gcd_rec r.natAbs, Nat.gcd_comm r.natAbs]
theorem ext_like {m A : Int} : ∀ (k : Nat) (a r x y : Int), r.natAbs < k → 0 ≤ a → 0 ≤ r → m ∣ x * A - a → m ∣ y * A - r → m ∣ extX a r x y * A - Int.gcd a r := by
  intro k
  induction k with
  | zero => intro a r x y h; exact absurd h (Nat.not_lt_zero _)
  | succ k ih =>
    intro a r x y hlt ha hr h1 h2
    by_cases h0 : r = 0
    · subst h0
      rw [ext_zero]
      have : ((Int.gcd a 0 : Nat) : Int) = a := by rw [Int.gcd_zero]; omega
      rw [this]; exact h1
    · rw [ext_step h0, gcd_step h0]
      have h3 := Int.mul_tdiv_add_tmod a r
      have h4 : 0 ≤ a.tmod r := Int.tmod_nonneg _ ha
      refine ih r (a.tmod r) y _ (by rw [Int.natAbs_tmod]; have := Nat.mod_lt a.natAbs (show 0 < r.natAbs by omega); omega) hr h4 h2 ?_
      have e : (x - a.tdiv r * y) * A - a.tmod r = (x * A - a) - a.tdiv r * (y * A - r) := by
        have : a.tmod r = a - r * a.tdiv r := by omega
        rw [this, Int.sub_mul, Int.mul_sub, Int.mul_assoc, Int.mul_comm r]
        omega
      rw [e]
      exact Int.dvd_sub h1 (Int.dvd_mul_of_dvd_right h2)
/-- What the loop asks of its variables. -/
def okExt (m a r x y : Int) : Prop :=
  (0 ≤ a ∧ a ≤ 4294967296) ∧ (0 ≤ r ∧ r ≤ 4294967296) ∧ (0 < m ∧ m ≤ 4294967296) ∧ ((0 ≤ x ∧ y ≤ 0) ∨ (x ≤ 0 ∧ 0 ≤ y)) ∧ a * (y.natAbs : Int) + r * (x.natAbs : Int) = m
instance (m a r x y : Int) : Decidable (okExt m a r x y) := by unfold okExt; exact inferInstance
theorem okExt_step {m a r x y : Int} (h : okExt m a r x y) (h0 : r ≠ 0) : okExt m r (a.tmod r) y (x - a.tdiv r * y) ∧ (0 ≤ a.tdiv r * r ∧ a.tdiv r * r ≤ 4294967296) ∧ (-4294967296 ≤ a.tdiv r * y ∧ a.tdiv r * y ≤ 4294967296) ∧ (-8589934592 ≤ x - a.tdiv r * y ∧ x - a.tdiv r * y ≤ 8589934592) ∧ (0 ≤ a.tdiv r ∧ a.tdiv r ≤ 4294967296) := by
  obtain ⟨⟨ha, ha'⟩, ⟨hr, hr'⟩, ⟨hm, hm'⟩, hs, he⟩ := h
  have h3 := Int.mul_tdiv_add_tmod a r
  have h4 : 0 ≤ a.tmod r := Int.tmod_nonneg _ ha
  have h5 : a.tmod r < r := Int.tmod_lt_of_pos _ (by omega)
  have hq : 0 ≤ a.tdiv r := Int.tdiv_nonneg ha hr
  generalize a.tdiv r = q at *
  generalize a.tmod r = s at *
  have e1 : q * r = r * q := Int.mul_comm _ _
  have hqr : 0 ≤ r * q := Int.mul_nonneg hr hq
  -- sizes
  have hX : (0 : Int) ≤ x.natAbs := by omega
  have hY : (0 : Int) ≤ y.natAbs := by omega
  generalize hx : (x.natAbs : Int) = X at *
  generalize hy : (y.natAbs : Int) = Y at *
  have hrX : 0 ≤ r * X := Int.mul_nonneg hr hX
  have haY : 0 ≤ a * Y := Int.mul_nonneg ha hY
  have hqY : 0 ≤ q * Y := Int.mul_nonneg hq hY
  have hXm : X ≤ m := by
    have : 1 * X ≤ r * X := Int.mul_le_mul_of_nonneg_right (by omega) hX
    omega
  have hqm : q * Y ≤ m := by
    have : q * Y ≤ a * Y := by
      have hqa : q ≤ a := by
        have : 1 * q ≤ r * q := Int.mul_le_mul_of_nonneg_right (by omega) hq
        omega
      exact Int.mul_le_mul_of_nonneg_right hqa hY
    omega
  have hqa : q ≤ 4294967296 := by
    have : 1 * q ≤ r * q := Int.mul_le_mul_of_nonneg_right (by omega) hq
    omega
  have habs : (x - q * y = X + q * Y ∧ y ≤ 0 ∧ 0 ≤ x) ∨ (x - q * y = -(X + q * Y) ∧ 0 ≤ y ∧ x ≤ 0) := by
    rcases hs with ⟨c, d⟩ | ⟨c, d⟩
    · left
      have ey : y = -Y := by omega
      have ex : x = X := by omega
      refine ⟨?_, d, c⟩
      rw [ey, Int.mul_neg]; omega
    · right
      have ey : y = Y := by omega
      have ex : x = -X := by omega
      refine ⟨?_, d, c⟩
      rw [ey]; omega
  have hnew : ((x - q * y).natAbs : Int) = X + q * Y := by omega
  refine ⟨⟨⟨hr, hr'⟩, ⟨h4, by omega⟩, ⟨hm, hm'⟩, ?_, ?_⟩, ⟨by omega, by omega⟩, ?_, ?_, ⟨hq, hqa⟩⟩
  · rcases habs with ⟨c, d, _⟩ | ⟨c, d, _⟩
    · right; exact ⟨d, by omega⟩
    · left; exact ⟨d, by omega⟩
  · rw [hnew, hy, Int.mul_add, ← Int.mul_assoc]
    have : a = r * q + s := by omega
    rw [this, Int.add_mul] at he
    omega
  · rcases habs with ⟨c, _, _⟩ | ⟨c, _, _⟩ <;> omega
  · rcases habs with ⟨c, _, _⟩ | ⟨c, _, _⟩ <;> omega
theorem ext_range {m : Int} : ∀ (k : Nat) (a r x y : Int), r.natAbs < k → okExt m a r x y → -8589934592 ≤ x ∧ x ≤ 8589934592 → -8589934592 ≤ y ∧ y ≤ 8589934592 → -8589934592 ≤ extX a r x y ∧ extX a r x y ≤ 8589934592 := by
  intro k
  induction k with
  | zero => intro a r x y h; exact absurd h (Nat.not_lt_zero _)
  | succ k ih =>
    intro a r x y hlt h hx hy
    by_cases h0 : r = 0
    · subst h0; rw [ext_zero]; exact hx
    · rw [ext_step h0]
      obtain ⟨h1, _, _, h4, _⟩ := okExt_step h h0
      exact ih r (a.tmod r) y _ (by rw [Int.natAbs_tmod]; have := Nat.mod_lt a.natAbs (show 0 < r.natAbs by omega); omega) h1 hy h4
open Classical in
/-- The inverse of a, modulo m. -/
noncomputable def invF (a m : Int) : Int := if h : ∃ x, 0 ≤ x ∧ x < m ∧ m ∣ a * x - 1 then Classical.choose h else 0
theorem inv_spec {a m x : Int} (hm : 0 < m) (h : m ∣ a * x - 1) : 0 ≤ invF a m ∧ invF a m < m ∧ m ∣ a * invF a m - 1 := by
  have hex : ∃ x, 0 ≤ x ∧ x < m ∧ m ∣ a * x - 1 := by
    refine ⟨x % m, Int.emod_nonneg _ (by omega), Int.emod_lt_of_pos _ hm, ?_⟩
    have e : a * (x % m) - 1 = (a * x - 1) - m * (a * (x / m)) := by
      have : x % m = x - m * (x / m) := by have := Int.mul_ediv_add_emod x m; omega
      rw [this, Int.mul_sub, Int.mul_left_comm]; omega
    rw [e]
    exact Int.dvd_sub h (Int.dvd_mul_right _ _)
  unfold invF
  rw [dif_pos hex]
  exact Classical.choose_spec hex
theorem dvd_cop {m a x y : Int} (h : m ∣ a * x - 1) (k : m ∣ a * y) : m ∣ y := by
  have h1 : m ∣ y * (a * x - 1) := Int.dvd_mul_of_dvd_right h
  have h2 : m ∣ a * y * x := Int.dvd_mul_of_dvd_left k
  have e : y = a * y * x - y * (a * x - 1) := by
    rw [Int.mul_sub, Int.mul_one, Int.mul_comm a y, Int.mul_assoc]; omega
  rw [e]
  exact Int.dvd_sub h2 h1
theorem inv_unique {a m x : Int} (hm : 0 < m) (h : m ∣ a * x - 1) (h0 : 0 ≤ x) (h1 : x < m) : x = invF a m := by
  obtain ⟨k0, k1, k2⟩ := inv_spec hm h
  have : m ∣ a * (x - invF a m) := by
    have := Int.dvd_sub h k2
    rwa [show a * x - 1 - (a * invF a m - 1) = a * (x - invF a m) by rw [Int.mul_sub]; omega] at this
  obtain ⟨c, hc⟩ := dvd_cop h this
  rcases Int.lt_trichotomy c 0 with hc' | hc' | hc'
  · have : m * c ≤ m * (-1) := Int.mul_le_mul_of_nonneg_left (by omega) (by omega)
    omega
  · subst hc'; omega
  · have : m * 1 ≤ m * c := Int.mul_le_mul_of_nonneg_left (by omega) (by omega)
    omega
/-- From the loop: the result is the inverse. -/
theorem ext_inv {a m : Int} (hm : 0 < m) (hg : Int.gcd a m = 1) : extX (a % m) m 1 0 % m = invF a m := by
  have h := ext_like (m := m) (A := a) _ (a % m) m 1 0 (Nat.lt_succ_self _) (Int.emod_nonneg _ (by omega)) (by omega)
    (by rw [Int.one_mul]; exact ⟨a / m, by have := Int.mul_ediv_add_emod a m; omega⟩) (by rw [Int.zero_mul, Int.zero_sub]; exact Int.dvd_neg.2 (Int.dvd_refl _))
  have e : Int.gcd (a % m) m = 1 := by
    rw [Int.gcd_comm, ← hg, Int.gcd_comm a m]
    have := Int.gcd_add_mul_right_right m (a % m) (a / m)
    rw [show a % m + a / m * m = a by have := Int.mul_ediv_add_emod a m; rw [Int.mul_comm (a / m)]; omega] at this
    exact this.symm
  rw [e] at h
  generalize extX (a % m) m 1 0 = x at *
  have h' : m ∣ a * x - 1 := by rw [Int.mul_comm]; exact h
  refine inv_unique hm ?_ (Int.emod_nonneg _ (by omega)) (Int.emod_lt_of_pos _ hm)
  have e : a * (x % m) - 1 = (a * x - 1) - m * (a * (x / m)) := by
    have : x % m = x - m * (x / m) := by have := Int.mul_ediv_add_emod x m; omega
    rw [this, Int.mul_sub, Int.mul_left_comm]; omega
  rw [e]
  exact Int.dvd_sub h' (Int.dvd_mul_right _ _)
end Go.Proofs.Ytamfgbenceoleaa.Span
