import Derived.Test.YtamfgbenceoleaaSpanO5
/-! The meet of two sets: the set of the values of both, if there is one. -/
namespace Go.Proofs.Ytamfgbenceoleaa.Span
set_option linter.unusedVariables false
set_option linter.unusedSimpArgs false
set_option linter.unusedSectionVars false
set_option linter.unnecessarySimpa false
open Go.Proofs.Ytamfgbenceoleaa.Ev Go.RowKit
theorem sem_ext {a b : Abs} (ha : VA a) (hb : VA b) (hm : a.mask = b.mask) (h : ∀ v, withinF a v = true ↔ withinF b v = true) : a = b :=
  leq_anti ha hb ((leq_sem ha hb).2 ⟨fun v hv => (h v).1 hv, by rw [hm]; exact subB_refl _⟩) ((leq_sem hb ha).2 ⟨fun v hv => (h v).2 hv, by rw [hm]; exact subB_refl _⟩)
/-- In both. -/
def both (a b : Abs) (v : Int) : Prop := withinF a v = true ∧ withinF b v = true
theorem least_of {p : Int → Prop} {lo : Int} (hlo : ∀ v, p v → lo ≤ v) : ∀ (k : Nat) (v : Int), p v → (v - lo).toNat < k → ∃ u, p u ∧ ∀ w, p w → u ≤ w := by
  intro k
  induction k with
  | zero => intro v _ h; exact absurd h (Nat.not_lt_zero _)
  | succ k ih =>
    intro v hv h
    by_cases c : ∃ w, p w ∧ w < v
    · obtain ⟨w, hw, hlt⟩ := c
      have := hlo w hw
      exact ih w hw (by omega)
    · exact ⟨v, hv, fun w hw => Int.not_lt.1 fun hlt => c ⟨w, hw, hlt⟩⟩
/-- The values of both, up to H, are a set, if there are any. -/
theorem inter_rep {a b : Abs} (ha : VA a) (hb : VA b) {k : Int} (hk : 0 ≤ k ∧ k ≤ 255) (H : Int) (h : ∃ v, both a b v ∧ v ≤ H) : ∃ m, VA m ∧ m.mask = k ∧ ∀ v, withinF m v = true ↔ both a b v ∧ v ≤ H := by
  obtain ⟨v0, h0⟩ := h
  obtain ⟨u, hu, hl⟩ := least_of (p := fun v => both a b v ∧ v ≤ H) (lo := a.lo) (fun v hv => ((in_iff ha).1 hv.1.1).1) _ v0 h0 (Nat.lt_succ_self _)
  obtain ⟨⟨ua, ub⟩, uH⟩ := hu
  obtain ⟨a1, a2, a3⟩ := (in_iff ha).1 ua
  obtain ⟨b1, b2, b3⟩ := (in_iff hb).1 ub
  have p1 := ha.1; have p2 := ha.2.2.1
  have hz : ((Int.lcm (stepF a) (stepF b) : Nat) : Int) = 0 → u = min (min a.hi b.hi) H := by
    intro h
    have h' : Int.lcm (stepF a) (stepF b) = 0 := by omega
    rcases Int.lcm_eq_zero_iff.1 h' with h | h
    · have := (step_zero ha).1 h; omega
    · have := (step_zero hb).1 h; omega
  refine ⟨byF u (min (min a.hi b.hi) H) (Int.lcm (stepF a) (stepF b) : Nat) k, by_VA (by omega) (by omega) hz (by omega) (by omega) hk, by_mask _ _ _ _, fun v => ?_⟩
  rw [by_in (by omega) (by omega) hz, Int.coe_lcm_dvd_iff]
  constructor
  · rintro ⟨h1, h2, h3, h4⟩
    exact ⟨⟨(in_iff ha).2 ⟨by omega, by omega, dvd_add3 h3 a3⟩, (in_iff hb).2 ⟨by omega, by omega, dvd_add3 h4 b3⟩⟩, by omega⟩
  · rintro ⟨⟨h1, h2⟩, h3⟩
    have := hl v ⟨⟨h1, h2⟩, h3⟩
    obtain ⟨c1, c2, c3⟩ := (in_iff ha).1 h1
    obtain ⟨d1, d2, d3⟩ := (in_iff hb).1 h2
    exact ⟨this, by omega, dvd_add3 c3 (dvd_flip a3), dvd_add3 d3 (dvd_flip b3)⟩
def zeroA : Abs := ⟨0, 0, 0, 0, 0⟩
open Classical in
/-- The set of the values of both that are less than v. -/
noncomputable def fewA (a b : Abs) (k v : Int) : Abs := if h : VA a ∧ VA b ∧ (0 ≤ k ∧ k ≤ 255) ∧ ∃ u, both a b u ∧ u ≤ v - 1 then Classical.choose (inter_rep h.1 h.2.1 h.2.2.1 (v - 1) h.2.2.2) else zeroA
open Classical in
noncomputable def fewB (a b : Abs) (v : Int) : Bool := decide (∃ u, both a b u ∧ u ≤ v - 1)
theorem fewB_iff {a b : Abs} {v : Int} : fewB a b v = true ↔ ∃ u, both a b u ∧ u ≤ v - 1 := by simp [fewB]
theorem few_spec {a b : Abs} (ha : VA a) (hb : VA b) {k : Int} (hk : 0 ≤ k ∧ k ≤ 255) {v : Int} (h : fewB a b v = true) : VA (fewA a b k v) ∧ (fewA a b k v).mask = k ∧ ∀ u, withinF (fewA a b k v) u = true ↔ both a b u ∧ u ≤ v - 1 := by
  have h' := fewB_iff.1 h
  unfold fewA
  rw [dif_pos ⟨ha, hb, hk, h'⟩]
  exact Classical.choose_spec (inter_rep ha hb hk (v - 1) h')
theorem few_none {a b : Abs} {k v : Int} (h : fewB a b v = false) : fewA a b k v = zeroA := by
  unfold fewA
  rw [dif_neg]
  rintro ⟨_, _, _, h'⟩
  rw [fewB_iff.2 h'] at h; cases h
/-- The meet. -/
noncomputable def meetK (a b : Abs) (k : Int) : Abs := fewA a b k 2147483648
noncomputable def meetB (a b : Abs) : Bool := fewB a b 2147483648
theorem range_in {a : Abs} (ha : VA a) {v : Int} (h : withinF a v = true) : -2147483648 ≤ v ∧ v ≤ 2147483647 := by
  obtain ⟨h1, h2, _⟩ := (in_iff ha).1 h
  have := ha.1; have := ha.2.2.1
  omega
theorem meetB_iff {a b : Abs} (ha : VA a) : meetB a b = true ↔ ∃ u, both a b u := by
  unfold meetB
  rw [fewB_iff]
  exact ⟨fun ⟨u, h, _⟩ => ⟨u, h⟩, fun ⟨u, h⟩ => ⟨u, h, by have := range_in ha h.1; omega⟩⟩
theorem meet_spec {a b : Abs} (ha : VA a) (hb : VA b) {k : Int} (hk : 0 ≤ k ∧ k ≤ 255) (h : meetB a b = true) : VA (meetK a b k) ∧ (meetK a b k).mask = k ∧ ∀ u, withinF (meetK a b k) u = true ↔ both a b u := by
  obtain ⟨h1, h2, h3⟩ := few_spec ha hb hk h
  exact ⟨h1, h2, fun u => (h3 u).trans ⟨fun h => h.1, fun h => ⟨h, by have := range_in ha h.1; omega⟩⟩⟩
theorem meet_none {a b : Abs} {k : Int} (h : meetB a b = false) : meetK a b k = zeroA := few_none h
theorem meet_unique {a b m : Abs} (ha : VA a) (hb : VA b) (hm : VA m) (hk : 0 ≤ m.mask ∧ m.mask ≤ 255) (h : ∀ u, withinF m u = true ↔ both a b u) : meetB a b = true ∧ meetK a b m.mask = m := by
  have hB : meetB a b = true := (meetB_iff ha).2 ⟨_, (h _).1 (lo_in hm)⟩
  obtain ⟨h1, h2, h3⟩ := meet_spec ha hb hk hB
  exact ⟨hB, sem_ext h1 hm h2 fun v => (h3 v).trans (h v).symm⟩
theorem both_comm {a b : Abs} {v : Int} : both a b v ↔ both b a v := And.comm
theorem meetB_comm {a b : Abs} (ha : VA a) (hb : VA b) : meetB a b = meetB b a := by
  rw [Bool.eq_iff_iff, meetB_iff ha, meetB_iff hb]
  exact ⟨fun ⟨u, h⟩ => ⟨u, both_comm.1 h⟩, fun ⟨u, h⟩ => ⟨u, both_comm.1 h⟩⟩
theorem meetK_comm {a b : Abs} (ha : VA a) (hb : VA b) {k : Int} (hk : 0 ≤ k ∧ k ≤ 255) : meetK a b k = meetK b a k := by
  cases h : meetB a b with
  | true =>
    obtain ⟨h1, h2, h3⟩ := meet_spec ha hb hk h
    have := (meet_unique hb ha h1 (by rw [h2]; exact hk) fun u => (h3 u).trans both_comm).2
    rw [h2] at this
    exact this.symm
  | false => rw [meet_none h, meet_none (by rw [← meetB_comm ha hb]; exact h)]
/- One more value: the steps of the loop of 'few'. -/
theorem few_start {a b : Abs} (ha : VA a) : fewB a b a.lo = false := by
  cases h : fewB a b a.lo with
  | false => rfl
  | true =>
    obtain ⟨u, ⟨h1, _⟩, h2⟩ := fewB_iff.1 h
    have := ((in_iff ha).1 h1).1
    omega
theorem few_end {a b : Abs} (ha : VA a) {k v : Int} (h : a.hi < v) : fewB a b v = meetB a b ∧ fewA a b k v = meetK a b k := by
  have e : ∀ u, (both a b u ∧ u ≤ v - 1) ↔ (both a b u ∧ u ≤ 2147483648 - 1) := fun u => by
    constructor
    · rintro ⟨h1, _⟩; exact ⟨h1, by have := range_in ha h1.1; omega⟩
    · rintro ⟨h1, _⟩; exact ⟨h1, by have := ((in_iff ha).1 h1.1).2.1; omega⟩
  have hB : fewB a b v = meetB a b := by
    unfold meetB
    rw [Bool.eq_iff_iff, fewB_iff, fewB_iff]
    exact ⟨fun ⟨u, h⟩ => ⟨u, (e u).1 h⟩, fun ⟨u, h⟩ => ⟨u, (e u).2 h⟩⟩
  refine ⟨hB, ?_⟩
  by_cases hc : VA a ∧ VA b ∧ (0 ≤ k ∧ k ≤ 255)
  · obtain ⟨_, hb, hk⟩ := hc
    cases hm : meetB a b with
    | true =>
      obtain ⟨h1, h2, h3⟩ := few_spec ha hb hk (hB.trans hm)
      obtain ⟨k1, k2, k3⟩ := meet_spec ha hb hk hm
      exact sem_ext h1 k1 (by rw [h2, k2]) fun u => by rw [h3, e]; exact ⟨fun h => (k3 u).2 h.1, fun h => ⟨(k3 u).1 h, by have := range_in ha ((k3 u).1 h).1; omega⟩⟩
    | false => rw [meet_none hm, few_none (hB.trans hm)]
  · unfold meetK fewA
    rw [dif_neg (fun h => hc ⟨h.1, h.2.1, h.2.2.1⟩), dif_neg (fun h => hc ⟨h.1, h.2.1, h.2.2.1⟩)]
/-- The values of a up to v, and the next one. -/
theorem next_iff {a : Abs} (ha : VA a) {v : Int} (hv : a.m ∣ v - a.lo) {u : Int} (hu : withinF a u = true) : u ≤ v + a.m - 1 ↔ u ≤ v - 1 ∨ u = v := by
  have hm := ha.2.2.2.2.2.1
  constructor
  · intro h
    rcases Int.lt_trichotomy u v with c | c | c
    · left; omega
    · right; exact c
    · have h1 := (withinF_iff.1 hu).2.2
      have h2 : a.m ∣ u - v := by
        have := Int.dvd_sub h1 hv
        rwa [show u - a.lo - (v - a.lo) = u - v by omega] at this
      have := Int.le_of_dvd (by omega) h2
      omega
  · rintro (h | h) <;> omega
theorem few_skip {a b : Abs} (ha : VA a) (hb : VA b) {k : Int} (hk : 0 ≤ k ∧ k ≤ 255) {v : Int} (hv : a.m ∣ v - a.lo) (hn : withinF b v = false) : fewB a b (v + a.m) = fewB a b v ∧ fewA a b k (v + a.m) = fewA a b k v := by
  have e : ∀ u, (both a b u ∧ u ≤ v + a.m - 1) ↔ (both a b u ∧ u ≤ v - 1) := fun u => by
    constructor
    · rintro ⟨h1, h2⟩
      rcases (next_iff ha hv h1.1).1 h2 with h | h
      · exact ⟨h1, h⟩
      · subst h; rw [h1.2] at hn; cases hn
    · rintro ⟨h1, h2⟩; exact ⟨h1, by have := ha.2.2.2.2.2.1; omega⟩
  have hB : fewB a b (v + a.m) = fewB a b v := by
    rw [Bool.eq_iff_iff, fewB_iff, fewB_iff]
    exact ⟨fun ⟨u, h⟩ => ⟨u, (e u).1 h⟩, fun ⟨u, h⟩ => ⟨u, (e u).2 h⟩⟩
  refine ⟨hB, ?_⟩
  cases hm : fewB a b v with
  | true =>
    obtain ⟨h1, h2, h3⟩ := few_spec ha hb hk (hB.trans hm)
    obtain ⟨k1, k2, k3⟩ := few_spec ha hb hk hm
    exact sem_ext h1 k1 (by rw [h2, k2]) fun u => by rw [h3, e, k3]
  | false => rw [few_none hm, few_none (hB.trans hm)]
theorem of_sem {x k u : Int} : withinF (ofF x k) u = true ↔ u = x := by
  rw [withinF_iff]
  simp only [ofF]
  exact ⟨fun ⟨h1, h2, _⟩ => by omega, fun h => ⟨by omega, by omega, Int.one_dvd _⟩⟩
theorem few_hit {a b : Abs} (ha : VA a) (hb : VA b) {k : Int} (hk : 0 ≤ k ∧ k ≤ 255) {v : Int} (hv : withinF a v = true) (hn : withinF b v = true) :
    fewB a b (v + a.m) = true ∧ fewA a b k (v + a.m) = (if fewB a b v = true then joinF (fewA a b k v) (ofF v k) else ofF v k) := by
  have hm := ha.2.2.2.2.2.1
  have hd := (withinF_iff.1 hv).2.2
  have e : ∀ u, (both a b u ∧ u ≤ v + a.m - 1) ↔ ((both a b u ∧ u ≤ v - 1) ∨ u = v) := fun u => by
    constructor
    · rintro ⟨h1, h2⟩
      rcases (next_iff ha hd h1.1).1 h2 with h | h
      · exact .inl ⟨h1, h⟩
      · exact .inr h
    · rintro (⟨h1, h2⟩ | h)
      · exact ⟨h1, by omega⟩
      · subst h; exact ⟨⟨hv, hn⟩, by omega⟩
  have hB : fewB a b (v + a.m) = true := fewB_iff.2 ⟨v, ⟨hv, hn⟩, by omega⟩
  refine ⟨hB, ?_⟩
  obtain ⟨h1, h2, h3⟩ := few_spec ha hb hk hB
  have hr := range_in ha hv
  have hO : VA (ofF v k) := of_VA hr.1 hr.2 hk
  by_cases hf : fewB a b v = true
  · rw [if_pos hf]
    obtain ⟨k1, k2, k3⟩ := few_spec ha hb hk hf
    have l1 : leqF (fewA a b k v) (fewA a b k (v + a.m)) = true := (leq_sem k1 h1).2 ⟨fun u hu => (h3 u).2 ((e u).2 (.inl ((k3 u).1 hu))), by rw [h2, k2]; exact subB_refl _⟩
    have l2 : leqF (ofF v k) (fewA a b k (v + a.m)) = true := (leq_sem hO h1).2 ⟨fun u hu => (h3 u).2 ((e u).2 (.inr (of_sem.1 hu))), by rw [h2]; exact subB_refl _⟩
    have hJ := join_VA k1 hO
    have l3 := leq_least k1 hO h1 l1 l2
    refine sem_ext h1 hJ ?_ fun u => ⟨fun hu => ?_, fun hu => leq_in hJ h1 l3 hu⟩
    · rw [join_mask, h2, k2]; exact (orM_self hk.1).symm
    · rcases (e u).1 ((h3 u).1 hu) with h | h
      · exact leq_in k1 hJ (leq_left k1 hO) ((k3 u).2 h)
      · exact leq_in hO hJ (leq_right k1 hO) (of_sem.2 h)
  · rw [if_neg hf]
    have hf' : fewB a b v = false := by simpa using hf
    refine sem_ext h1 hO h2 fun u => ?_
    rw [h3, e, of_sem]
    exact ⟨fun h => h.elim (fun h => absurd (fewB_iff.2 ⟨u, h⟩) hf) id, .inr⟩
end Go.Proofs.Ytamfgbenceoleaa.Span
