import Derived.Test.YtamfgbenceoleaaSpanP
/-! Joins: commutative, associative, without effect on one set with itself. -/
namespace Go.Proofs.Ytamfgbenceoleaa.Span
set_option linter.unusedVariables false
set_option linter.unusedSimpArgs false
set_option linter.unusedSectionVars false
set_option linter.unnecessarySimpa false
open Go.Proofs.Ytamfgbenceoleaa.Ev Go.RowKit
theorem dvd_absI {d x : Int} : d ∣ absI x ↔ d ∣ x := by unfold absI; exact Int.dvd_natAbs
theorem apart_iff {a b : Abs} {d : Int} : d ∣ apartF a b ↔ d ∣ stepF a ∧ d ∣ stepF b ∧ d ∣ a.lo - b.lo := by
  unfold apartF
  rw [gcdL_dvd]
  constructor
  · rintro ⟨h1, h2⟩
    exact ⟨h1, h2 _ (by simp), dvd_absI.1 (h2 _ (by simp))⟩
  · rintro ⟨h1, h2, h3⟩
    refine ⟨h1, fun x hx => ?_⟩
    simp only [List.mem_cons, List.not_mem_nil, or_false] at hx
    rcases hx with rfl | rfl
    · exact h2
    · exact dvd_absI.2 h3
theorem nonneg_ext {x y : Int} (hx : 0 ≤ x) (hy : 0 ≤ y) (h : ∀ d, d ∣ x ↔ d ∣ y) : x = y := by
  have h1 := (h x).1 (Int.dvd_refl _)
  have h2 := (h y).2 (Int.dvd_refl _)
  exact Int.dvd_antisymm hx hy h1 h2
theorem apart_nonneg (a b : Abs) : 0 ≤ apartF a b := gcdL_nonneg _ _
theorem dvd_flip {d x y : Int} (h : d ∣ x - y) : d ∣ y - x := by
  have := Int.dvd_neg.2 h
  rwa [Int.neg_sub] at this
theorem dvd_add3 {d x y z : Int} (h : d ∣ x - y) (k : d ∣ y - z) : d ∣ x - z := by
  have := Int.dvd_add h k
  rwa [show x - y + (y - z) = x - z by omega] at this
theorem set_ext {a b : Abs} (ha : VA a) (hb : VA b) (h1 : a.lo = b.lo) (h2 : a.hi = b.hi) (h3 : stepF a = stepF b) (h4 : a.mask = b.mask) : a = b := by
  obtain ⟨_, _, _, _, _, _, p, q⟩ := ha
  obtain ⟨_, _, _, _, _, _, p', q'⟩ := hb
  have e : a.m = b.m ∧ a.r = b.r := by
    by_cases c : a.lo = a.hi
    · have := p c; have := p' (by omega); omega
    · have hm : a.m = b.m := by
        unfold stepF at h3
        rw [if_neg c, if_neg (by omega)] at h3
        exact h3
      have kk := q c; have this := q' (by omega)
      exact ⟨hm, by rw [kk.2.2, this.2.2, h1, hm]⟩
  cases a; cases b
  simp_all
theorem join_dvd {a b : Abs} (ha : VA a) (hb : VA b) : apartF a b ∣ max a.hi b.hi - min a.lo b.lo := by
  obtain ⟨h1, h2, h3⟩ := apart_iff.1 (Int.dvd_refl (apartF a b))
  have k1 := Int.dvd_trans h1 (step_dvd ha)
  have k2 := Int.dvd_trans h2 (step_dvd hb)
  have k3 := dvd_flip h3
  have k4 := dvd_add3 k1 h3
  have k5 := dvd_add3 k2 k3
  rcases Int.le_total a.hi b.hi with c | c <;> rcases Int.le_total a.lo b.lo with e | e
  · rw [Int.max_eq_right c, Int.min_eq_left e]; exact k5
  · rw [Int.max_eq_right c, Int.min_eq_right e]; exact k2
  · rw [Int.max_eq_left c, Int.min_eq_left e]; exact k1
  · rw [Int.max_eq_left c, Int.min_eq_right e]; exact k4
theorem join_top {a b : Abs} (ha : VA a) (hb : VA b) : topF (min a.lo b.lo) (max a.hi b.hi) (apartF a b) = max a.hi b.hi := by
  unfold topF
  split
  · rw [Int.emod_eq_zero_of_dvd (join_dvd ha hb), Int.sub_zero]
  · rfl
theorem join_lo {a b : Abs} : (joinF a b).lo = min a.lo b.lo := by unfold joinF byF; split <;> rfl
theorem join_hi {a b : Abs} (ha : VA a) (hb : VA b) : (joinF a b).hi = max a.hi b.hi := by
  have := join_top ha hb
  unfold joinF byF; split
  · rename_i c; rw [this] at c; exact c
  · exact this
theorem join_mask {a b : Abs} : (joinF a b).mask = orM a.mask b.mask := by_mask _ _ _ _
theorem join_step {a b : Abs} (ha : VA a) (hb : VA b) : stepF (joinF a b) = apartF a b := by
  have h1 := join_lo (a := a) (b := b)
  have h2 := join_hi ha hb
  have h3 := join_top ha hb
  have o1 := ha.2.1; have o2 := hb.2.1
  unfold stepF
  rw [h1, h2]
  split
  · rename_i c
    have e1 : a.lo = a.hi := by omega
    have e2 : b.lo = b.hi := by omega
    refine (nonneg_ext (apart_nonneg a b) (Int.le_refl 0) (fun d => ?_)).symm
    rw [apart_iff, (step_zero ha).2 e1, (step_zero hb).2 e2, show a.lo - b.lo = 0 by omega]
    simp
  · rename_i c
    unfold joinF byF
    rw [h3, if_neg c]
theorem join_VA {a b : Abs} (ha : VA a) (hb : VA b) : VA (joinF a b) := by
  have := orM_range ha.2.2.2.1 ha.2.2.2.2.1 hb.2.2.2.1 hb.2.2.2.2.1
  have r := apart_range ha hb
  have o1 := ha.2.1; have o2 := hb.2.1
  have p1 := ha.1; have p2 := hb.1
  have q1 := ha.2.2.1; have q2 := hb.2.2.1
  refine by_VA (by omega) r.1 (fun h => ?_) (by omega) (by omega) this
  have := apart_zero ha hb h
  omega
theorem join_comm {a b : Abs} (ha : VA a) (hb : VA b) : joinF a b = joinF b a := by
  refine set_ext (join_VA ha hb) (join_VA hb ha) ?_ ?_ ?_ ?_
  · rw [join_lo, join_lo]; omega
  · rw [join_hi ha hb, join_hi hb ha]; omega
  · rw [join_step ha hb, join_step hb ha]
    refine nonneg_ext (apart_nonneg _ _) (apart_nonneg _ _) fun d => ?_
    rw [apart_iff, apart_iff]
    exact ⟨fun ⟨x, y, z⟩ => ⟨y, x, dvd_flip z⟩, fun ⟨x, y, z⟩ => ⟨y, x, dvd_flip z⟩⟩
  · rw [join_mask, join_mask, orM_comm]
theorem join_self {a : Abs} (ha : VA a) : joinF a a = a := by
  refine set_ext (join_VA ha ha) ha ?_ ?_ ?_ ?_
  · rw [join_lo]; omega
  · rw [join_hi ha ha]; omega
  · rw [join_step ha ha]
    refine nonneg_ext (apart_nonneg _ _) (step_range ha).1 fun d => ?_
    rw [apart_iff, Int.sub_self]
    exact ⟨fun ⟨x, _, _⟩ => x, fun x => ⟨x, x, Int.dvd_zero _⟩⟩
  · rw [join_mask, orM_self ha.2.2.2.1]
theorem dvd_min {d x y z : Int} (h : d ∣ x - y) : d ∣ min x y - z ↔ d ∣ x - z := by
  rcases Int.le_total x y with c | c
  · rw [Int.min_eq_left c]
  · rw [Int.min_eq_right c]
    exact ⟨fun k => dvd_add3 h k, fun k => dvd_add3 (dvd_flip h) k⟩
theorem dvd_min' {d x y z : Int} (h : d ∣ y - z) : d ∣ x - min y z ↔ d ∣ x - y := by
  rcases Int.le_total y z with c | c
  · rw [Int.min_eq_left c]
  · rw [Int.min_eq_right c]
    exact ⟨fun k => dvd_add3 k (dvd_flip h), fun k => dvd_add3 k h⟩
theorem join_assoc {a b c : Abs} (ha : VA a) (hb : VA b) (hc : VA c) : joinF (joinF a b) c = joinF a (joinF b c) := by
  have h1 := join_VA ha hb
  have h2 := join_VA hb hc
  refine set_ext (join_VA h1 hc) (join_VA ha h2) ?_ ?_ ?_ ?_
  · simp only [join_lo]; omega
  · rw [join_hi h1 hc, join_hi ha h2, join_hi ha hb, join_hi hb hc]; omega
  · rw [join_step h1 hc, join_step ha h2]
    refine nonneg_ext (apart_nonneg _ _) (apart_nonneg _ _) fun d => ?_
    rw [apart_iff, apart_iff, join_step ha hb, join_step hb hc, apart_iff, apart_iff, join_lo, join_lo]
    constructor
    · rintro ⟨⟨x, y, z⟩, w, v⟩
      have v := (dvd_min z).1 v
      have u : d ∣ b.lo - c.lo := dvd_add3 (dvd_flip z) v
      exact ⟨x, ⟨y, w, u⟩, (dvd_min' u).2 z⟩
    · rintro ⟨x, ⟨y, w, u⟩, v⟩
      have z := (dvd_min' u).1 v
      exact ⟨⟨x, y, z⟩, w, (dvd_min z).2 (dvd_add3 z u)⟩
  · simp only [join_mask, orM_assoc]
theorem leq_join {a b : Abs} : leqF a b = true ↔ joinF a b = b := by simp [leqF]
theorem leq_left {a b : Abs} (ha : VA a) (hb : VA b) : leqF a (joinF a b) = true := by
  rw [leq_join, ← join_assoc ha ha hb, join_self ha]
theorem leq_right {a b : Abs} (ha : VA a) (hb : VA b) : leqF b (joinF a b) = true := by
  rw [join_comm ha hb]; exact leq_left hb ha
theorem leq_least {a b c : Abs} (ha : VA a) (hb : VA b) (hc : VA c) (h : leqF a c = true) (k : leqF b c = true) : leqF (joinF a b) c = true := by
  rw [leq_join] at *
  rw [join_assoc ha hb hc, k, h]
theorem leq_refl {a : Abs} (ha : VA a) : leqF a a = true := leq_join.2 (join_self ha)
theorem leq_anti {a b : Abs} (ha : VA a) (hb : VA b) (h : leqF a b = true) (k : leqF b a = true) : a = b := by
  rw [leq_join] at *
  rw [← h, join_comm ha hb, k]
end Go.Proofs.Ytamfgbenceoleaa.Span
