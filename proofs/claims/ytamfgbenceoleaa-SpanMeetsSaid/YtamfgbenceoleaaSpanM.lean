import Derived.Test.YtamfgbenceoleaaSpanB
/-! Divisors; sets by a step. -/
namespace Go.Proofs.Ytamfgbenceoleaa.Span
set_option linter.unusedVariables false
set_option linter.unusedSimpArgs false
set_option linter.unusedSectionVars false
set_option linter.unnecessarySimpa false
open Go.Proofs.Ytamfgbenceoleaa.Ev
theorem foldg_dvd : ∀ (l : List Int) (g d : Nat), d ∣ l.foldl (fun (g : Nat) (b : Int) => Nat.gcd g b.natAbs) g ↔ d ∣ g ∧ ∀ b ∈ l, d ∣ b.natAbs
  | [], g, d => by simp
  | b :: l, g, d => by
    rw [List.foldl_cons, foldg_dvd l, Nat.dvd_gcd_iff]
    simp only [List.mem_cons, forall_eq_or_imp, and_assoc]
theorem gcdL_nonneg (a : Int) (l : List Int) : 0 ≤ gcdL a l := by unfold gcdL; omega
theorem gcdL_dvd {a : Int} {l : List Int} {d : Int} : d ∣ gcdL a l ↔ d ∣ a ∧ ∀ b ∈ l, d ∣ b := by
  unfold gcdL
  rw [← Int.natAbs_dvd, Int.natCast_dvd_natCast, foldg_dvd]
  simp only [Int.natAbs_dvd_natAbs]
theorem gcdL_self {a : Int} {l : List Int} : gcdL a l ∣ a ∧ ∀ b ∈ l, gcdL a l ∣ b := gcdL_dvd.1 (Int.dvd_refl _)
theorem gcdL_zero {a : Int} {l : List Int} (h : gcdL a l = 0) : a = 0 ∧ ∀ b ∈ l, b = 0 := by
  have := gcdL_self (a := a) (l := l)
  rw [h] at this
  exact ⟨Int.zero_dvd.1 this.1, fun b hb => Int.zero_dvd.1 (this.2 b hb)⟩
theorem gcdL_le {a : Int} {l : List Int} {B : Int} (hB : 0 ≤ B) (ha : -B ≤ a ∧ a ≤ B) (hl : ∀ b ∈ l, -B ≤ b ∧ b ≤ B) : gcdL a l ≤ B := by
  by_cases h0 : gcdL a l = 0
  · omega
  · have hs := gcdL_self (a := a) (l := l)
    have hn := gcdL_nonneg a l
    have key : ∀ x : Int, gcdL a l ∣ x → (-B ≤ x ∧ x ≤ B) → x ≠ 0 → gcdL a l ≤ B := fun x hd hx hne => by
      have h1 := Int.le_of_dvd (show 0 < (x.natAbs : Int) by omega) (Int.dvd_natAbs.2 hd)
      omega
    by_cases ha0 : a = 0
    · by_cases hall : ∀ b ∈ l, b = 0
      · exfalso; apply h0
        have : (0 : Int) ∣ gcdL a l := gcdL_dvd.2 ⟨by rw [ha0]; exact Int.dvd_refl _, fun b hb => by rw [hall b hb]; exact Int.dvd_refl _⟩
        exact Int.zero_dvd.1 this
      · have ⟨b, hb, hb0⟩ : ∃ b ∈ l, b ≠ 0 := by
          refine Classical.byContradiction fun hc => hall fun b hb => Classical.byContradiction fun h1 => hc ⟨b, hb, h1⟩
        exact key b (hs.2 b hb) (hl b hb) hb0
    · exact key a hs.1 ha ha0
theorem step_range {a : Abs} (h : VA a) : 0 ≤ stepF a ∧ stepF a ≤ 4294967295 := by
  obtain ⟨h1, h2, h3, h4, h5, h6, h7, h8⟩ := h
  unfold stepF
  split
  · omega
  · rename_i hne; have := h8 hne; omega
theorem step_zero {a : Abs} (h : VA a) : stepF a = 0 ↔ a.lo = a.hi := by
  obtain ⟨h1, h2, h3, h4, h5, h6, h7, h8⟩ := h
  unfold stepF
  split
  · simp_all
  · rename_i hne; constructor
    · omega
    · intro hc; exact absurd hc hne
theorem apart_zero {a b : Abs} (ha : VA a) (hb : VA b) (h : apartF a b = 0) : a.lo = a.hi ∧ b.lo = b.hi ∧ a.lo = b.lo := by
  obtain ⟨h1, h2⟩ := gcdL_zero h
  have h3 := h2 (stepF b) (by simp)
  have h4 := h2 (absI (a.lo - b.lo)) (by simp)
  unfold absI at h4
  exact ⟨(step_zero ha).1 h1, (step_zero hb).1 h3, by omega⟩
theorem apart_range {a b : Abs} (ha : VA a) (hb : VA b) : 0 ≤ apartF a b ∧ apartF a b ≤ 4294967295 := by
  refine ⟨gcdL_nonneg _ _, gcdL_le (by omega) ?_ ?_⟩
  · have := step_range ha; omega
  · intro x hx
    have := step_range hb
    obtain ⟨a1, a2, a3, _⟩ := ha
    obtain ⟨b1, b2, b3, _⟩ := hb
    simp only [List.mem_cons, List.mem_nil_iff, or_false] at hx
    rcases hx with rfl | rfl
    · omega
    · unfold absI; omega
theorem VA.m_le {a : Abs} (h : VA a) : 1 ≤ a.m ∧ a.m ≤ 4294967295 := by
  obtain ⟨h1, h2, h3, h4, h5, h6, h7, h8⟩ := h
  refine ⟨h6, ?_⟩
  by_cases hc : a.lo = a.hi
  · have := (h7 hc).1; omega
  · have := (h8 hc).1; omega
end Go.Proofs.Ytamfgbenceoleaa.Span
