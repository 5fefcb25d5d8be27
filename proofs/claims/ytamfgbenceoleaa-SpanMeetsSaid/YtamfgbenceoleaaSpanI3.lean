import Derived.Test.YtamfgbenceoleaaSpanI2
/-! The meet of two sets of many values. -/
namespace Go.Proofs.Ytamfgbenceoleaa.Span
set_option linter.unusedVariables false
set_option linter.unusedSimpArgs false
set_option linter.unusedSectionVars false
set_option linter.unnecessarySimpa false
open Go.Proofs.Ytamfgbenceoleaa.Ev Go.RowKit
theorem cop_inv {a m : Int} (hm : 0 < m) (hg : Int.gcd a m = 1) : 0 ≤ invF a m ∧ invF a m < m ∧ m ∣ a * invF a m - 1 := by
  have h := ext_like (m := m) (A := a) _ (a % m) m 1 0 (Nat.lt_succ_self _) (Int.emod_nonneg _ (by omega)) (by omega)
    (by rw [Int.one_mul]; exact ⟨a / m, by have := Int.mul_ediv_add_emod a m; omega⟩) (by rw [Int.zero_mul, Int.zero_sub]; exact Int.dvd_neg.2 (Int.dvd_refl _))
  have e : Int.gcd (a % m) m = 1 := by
    rw [Int.gcd_comm, ← hg, Int.gcd_comm a m]
    have := Int.gcd_add_mul_right_right m (a % m) (a / m)
    rw [show a % m + a / m * m = a by have := Int.mul_ediv_add_emod a m; rw [Int.mul_comm (a / m)]; omega] at this
    exact this.symm
  rw [e, Int.mul_comm] at h
  exact inv_spec hm h
def gcdT (s t : Int) : Int := gcdL s [t]
theorem gcdT_pos {s t : Int} (hs : 0 < s) : 0 < gcdT s t := by
  have h := gcdL_nonneg s [t]
  have h0 : gcdL s [t] ≠ 0 := fun e => by have := (gcdL_zero e).1; omega
  unfold gcdT; omega
theorem gcdT_dvd {s t : Int} : gcdT s t ∣ s ∧ gcdT s t ∣ t := gcd_two.1 (Int.dvd_refl _)
theorem gcdT_cop {s t : Int} (hs : 0 < s) : Int.gcd (s / gcdT s t) (t / gcdT s t) = 1 := by
  have hg := gcdT_pos (t := t) hs
  obtain ⟨⟨x, hx⟩, ⟨y, hy⟩⟩ := gcdT_dvd (s := s) (t := t)
  generalize hgg : gcdT s t = g at *
  have ex : s / g = x := by rw [hx, Int.mul_ediv_cancel_left _ (by omega)]
  have ey : t / g = y := by rw [hy, Int.mul_ediv_cancel_left _ (by omega)]
  rw [ex, ey]
  have h1 : g * (Int.gcd x y : Int) ∣ g := by
    have : g * (Int.gcd x y : Int) ∣ gcdT s t := by
      refine gcd_two.2 ⟨?_, ?_⟩
      · rw [hx]; exact Int.mul_dvd_mul (Int.dvd_refl _) (Int.gcd_dvd_left _ _)
      · rw [hy]; exact Int.mul_dvd_mul (Int.dvd_refl _) (Int.gcd_dvd_right _ _)
    rwa [hgg] at this
  have h2 : (Int.gcd x y : Int) ∣ 1 := by
    have : g * (Int.gcd x y : Int) ∣ g * 1 := by rw [Int.mul_one]; exact h1
    exact (Int.mul_dvd_mul_iff_left (by omega)).1 this
  have h3 := Int.le_of_dvd (by decide) h2
  have h4 : (Int.gcd x y : Int) ≠ 0 := by
    intro h0
    rw [h0] at h2
    have := Int.zero_dvd.1 h2
    omega
  omega
/-- The program's number that is like both. -/
noncomputable def crtK (s t d : Int) : Int := (d / gcdT s t % (t / gcdT s t) * invF (s / gcdT s t) (t / gcdT s t)) % (t / gcdT s t)
theorem n_pos {s t : Int} (hs : 0 < s) (ht : 0 < t) : 0 < t / gcdT s t := by
  have hg := gcdT_pos (t := t) hs
  have := Int.le_of_dvd ht (gcdT_dvd (s := s) (t := t)).2
  have : 1 ≤ t / gcdT s t := by rw [Int.le_ediv_iff_mul_le hg]; omega
  omega
theorem crt_like {s t d : Int} (hs : 0 < s) (ht : 0 < t) (hd : gcdT s t ∣ d) : t ∣ s * crtK s t d - d := by
  have hn := n_pos hs ht
  have hg := gcdT_pos (t := t) hs
  obtain ⟨_, _, hi⟩ := cop_inv hn (gcdT_cop (t := t) hs)
  obtain ⟨⟨x, hx⟩, ⟨n, hy⟩⟩ := gcdT_dvd (s := s) (t := t)
  obtain ⟨e, he⟩ := hd
  unfold crtK
  generalize gcdT s t = g at *
  have ex : s / g = x := by rw [hx, Int.mul_ediv_cancel_left _ (by omega)]
  have ey : t / g = n := by rw [hy, Int.mul_ediv_cancel_left _ (by omega)]
  have ed : d / g = e := by rw [he, Int.mul_ediv_cancel_left _ (by omega)]
  rw [ex, ey] at hi
  rw [ey] at hn
  rw [ex, ey, ed]
  generalize invF x n = i at *
  -- n divides x * k - e
  have h1 : n ∣ x * ((e % n * i) % n) - e := by
    have e1 : (e % n * i) % n = e % n * i - n * (e % n * i / n) := by have := Int.mul_ediv_add_emod (e % n * i) n; omega
    have e2 : e % n = e - n * (e / n) := by have := Int.mul_ediv_add_emod e n; omega
    have h2 : n ∣ e % n * (x * i - 1) := Int.dvd_mul_of_dvd_right hi
    have h3 : n ∣ x * (n * (e % n * i / n)) := Int.dvd_mul_of_dvd_right (Int.dvd_mul_right _ _)
    have h4 : n ∣ n * (e / n) := Int.dvd_mul_right _ _
    have e3 : x * ((e % n * i) % n) - e = e % n * (x * i - 1) - x * (n * (e % n * i / n)) - n * (e / n) := by
      rw [e1, Int.mul_sub, Int.mul_sub, Int.mul_one, Int.mul_left_comm x (e % n) i]
      omega
    rw [e3]
    exact Int.dvd_sub (Int.dvd_sub h2 h3) h4
  rw [hx, hy, he, Int.mul_assoc, ← Int.mul_sub]
  exact Int.mul_dvd_mul (Int.dvd_refl _) h1
theorem lcm_like {s t x : Int} (hs : 0 < s) (ht : 0 < t) : s * (t / gcdT s t) ∣ x ↔ s ∣ x ∧ t ∣ x := by
  have hn := n_pos hs ht
  have hg := gcdT_pos (t := t) hs
  obtain ⟨_, _, hi⟩ := cop_inv hn (gcdT_cop (t := t) hs)
  obtain ⟨⟨y, hx⟩, ⟨n, hy⟩⟩ := gcdT_dvd (s := s) (t := t)
  generalize gcdT s t = g at *
  have ex : s / g = y := by rw [hx, Int.mul_ediv_cancel_left _ (by omega)]
  have ey : t / g = n := by rw [hy, Int.mul_ediv_cancel_left _ (by omega)]
  rw [ex, ey] at hi
  rw [ey]
  constructor
  · intro h
    refine ⟨Int.dvd_trans (Int.dvd_mul_right _ _) h, Int.dvd_trans ?_ h⟩
    rw [hx, hy, Int.mul_assoc, Int.mul_comm y n, ← Int.mul_assoc]
    exact Int.dvd_mul_right _ _
  · rintro ⟨⟨z, hz⟩, h2⟩
    rw [hz] at h2 ⊢
    have h3 : n ∣ y * z := by
      rw [hx, hy, Int.mul_assoc] at h2
      exact (Int.mul_dvd_mul_iff_left (by omega)).1 h2
    exact Int.mul_dvd_mul (Int.dvd_refl _) (dvd_cop hi h3)
theorem step_m {a : Abs} (h : a.lo ≠ a.hi) : stepF a = a.m := if_neg h
theorem meet_apart {a b : Abs} (ha : VA a) (hb : VA b) (h1 : a.lo ≠ a.hi) (h2 : b.lo ≠ b.hi) (h : ¬ gcdT a.m b.m ∣ b.lo - a.lo) : meetB a b = false := by
  cases hB : meetB a b with
  | false => rfl
  | true =>
    obtain ⟨v, hv, hw⟩ := (meetB_iff ha).1 hB
    have q1 := (withinF_iff.1 hv).2.2
    have q2 := (withinF_iff.1 hw).2.2
    obtain ⟨g1, g2⟩ := gcdT_dvd (s := a.m) (t := b.m)
    exact absurd (dvd_add3 (dvd_flip (Int.dvd_trans g2 q2)) (Int.dvd_trans g1 q1)) h
/-- The first value of both. -/
noncomputable def firstF (a b : Abs) : Int := max a.lo b.lo + (a.lo + a.m * crtK a.m b.m (b.lo - a.lo) - max a.lo b.lo) % (a.m * (b.m / gcdT a.m b.m))
theorem meet_many {a b : Abs} (ha : VA a) (hb : VA b) (h1 : a.lo ≠ a.hi) (h2 : b.lo ≠ b.hi) (h : gcdT a.m b.m ∣ b.lo - a.lo) {k : Int} (hk : 0 ≤ k ∧ k ≤ 255) :
    if firstF a b > min a.hi b.hi then meetB a b = false else meetB a b = true ∧ meetK a b k = byF (firstF a b) (min a.hi b.hi) (a.m * (b.m / gcdT a.m b.m)) k := by
  have hs : 0 < a.m := ha.2.2.2.2.2.1
  have ht : 0 < b.m := hb.2.2.2.2.2.1
  have hn := n_pos hs ht
  have hc := crt_like hs ht h
  have hL : 0 < a.m * (b.m / gcdT a.m b.m) := Int.mul_pos hs hn
  have hlm := fun x => lcm_like (x := x) hs ht
  have hA := fun v => withinF_iff (a := a) (v := v)
  have hB := fun v => withinF_iff (a := b) (v := v)
  -- x0: like both
  have x1 : a.m ∣ a.lo + a.m * crtK a.m b.m (b.lo - a.lo) - a.lo := by
    rw [show a.lo + a.m * crtK a.m b.m (b.lo - a.lo) - a.lo = a.m * crtK a.m b.m (b.lo - a.lo) by omega]; exact Int.dvd_mul_right _ _
  have x2 : b.m ∣ a.lo + a.m * crtK a.m b.m (b.lo - a.lo) - b.lo := by
    rw [show a.lo + a.m * crtK a.m b.m (b.lo - a.lo) - b.lo = a.m * crtK a.m b.m (b.lo - a.lo) - (b.lo - a.lo) by omega]; exact hc
  have hfirst : firstF a b = max a.lo b.lo + (a.lo + a.m * crtK a.m b.m (b.lo - a.lo) - max a.lo b.lo) % (a.m * (b.m / gcdT a.m b.m)) := rfl
  generalize a.lo + a.m * crtK a.m b.m (b.lo - a.lo) = X at *
  generalize a.m * (b.m / gcdT a.m b.m) = L at *
  have hf : L ∣ firstF a b - X := by
    rw [hfirst]
    have := Int.mul_ediv_add_emod (X - max a.lo b.lo) L
    exact ⟨-((X - max a.lo b.lo) / L), by rw [Int.mul_neg]; omega⟩
  have hr1 := Int.emod_nonneg (X - max a.lo b.lo) (show L ≠ 0 by omega)
  have hr2 := Int.emod_lt_of_pos (X - max a.lo b.lo) hL
  obtain ⟨f1, f2⟩ := (hlm _).1 hf
  have f3 := dvd_add3 f1 x1
  have f4 := dvd_add3 f2 x2
  -- each value of both is like the first, and at least it
  have like : ∀ v, both a b v → L ∣ v - firstF a b ∧ firstF a b ≤ v ∧ v ≤ min a.hi b.hi := by
    rintro v ⟨hv, hw⟩
    obtain ⟨p1, p2, p3⟩ := (hA v).1 hv
    obtain ⟨q1, q2, q3⟩ := (hB v).1 hw
    have hd : L ∣ v - firstF a b := (hlm _).2 ⟨dvd_add3 p3 (dvd_flip f3), dvd_add3 q3 (dvd_flip f4)⟩
    refine ⟨hd, ?_, by omega⟩
    rcases Int.lt_or_le v (firstF a b) with c | c
    · have := Int.le_of_dvd (by omega) (dvd_flip hd)
      omega
    · exact c
  split
  · rename_i hgt
    cases hB' : meetB a b with
    | false => rfl
    | true =>
      obtain ⟨v, hv⟩ := (meetB_iff ha).1 hB'
      have := like v hv
      omega
  · rename_i hle
    have hV : VA (byF (firstF a b) (min a.hi b.hi) L k) := by
      have p1 := ha.1; have p2 := ha.2.2.1
      exact by_VA (by omega) (by omega) (fun h => by omega) (by omega) (by omega) hk
    have hsem : ∀ v, withinF (byF (firstF a b) (min a.hi b.hi) L k) v = true ↔ both a b v := by
      intro v
      rw [by_in (by omega) (by omega) (fun h => by omega)]
      constructor
      · rintro ⟨c1, c2, c3⟩
        obtain ⟨d1, d2⟩ := (hlm _).1 c3
        exact ⟨(hA v).2 ⟨by omega, by omega, dvd_add3 d1 f3⟩, (hB v).2 ⟨by omega, by omega, dvd_add3 d2 f4⟩⟩
      · intro hv
        obtain ⟨c1, c2, c3⟩ := like v hv
        exact ⟨c2, c3, c1⟩
    have := meet_unique ha hb hV (by rw [by_mask]; exact hk) hsem
    rw [by_mask] at this
    exact this
end Go.Proofs.Ytamfgbenceoleaa.Span
