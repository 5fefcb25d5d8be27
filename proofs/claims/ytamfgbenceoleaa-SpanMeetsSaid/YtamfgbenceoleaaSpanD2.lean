import Derived.Test.YtamfgbenceoleaaSpanD1
/-! Contracts of the functions behind Meet, proved. -/
namespace Go.Proofs.Ytamfgbenceoleaa.Span
set_option linter.unusedVariables false
set_option linter.unusedSimpArgs false
set_option linter.unusedSectionVars false
set_option linter.unnecessarySimpa false
open Go.Proofs.Ytamfgbenceoleaa.Ev Go.RowKit
set_option maxRecDepth 100000
set_option maxHeartbeats 4000000
theorem ok_count : FnOk Itp Try.prog 88 spCount := fnOk S9 hm Try.func88 spCount fun args v hv => by
  unfold spCount at hv
  split at hv
  · rename_i a0 a1 a2 a3 a4
    obtain ⟨h, hv⟩ := has_br hv
    have hv := has_ret hv
    subst hv
    have hV := validF_iff.1 h
    refine (count_ev a0 a1 a2 a3 a4).trans ?_
    have p1 := hV.1; have p2 := hV.2.1; have p3 := hV.2.2.1; have p4 := hV.2.2.2.2.2.1
    simp only at p1 p2 p3 p4
    have e1 : IntKind.i64.wrap (a1 - a0) = a1 - a0 := wrap_of (by omega) (by omega)
    have e2 : (a1 - a0).tdiv a2 = (a1 - a0) / a2 := Int.tdiv_eq_ediv_of_nonneg (by omega)
    have e3 : 0 ≤ (a1 - a0) / a2 := Int.ediv_nonneg (by omega) (by omega)
    have e4 : (a1 - a0) / a2 ≤ a1 - a0 := Int.ediv_le_self _ (by omega)
    rw [e1, e2, wrap_of (n := (a1 - a0) / a2) (by omega) (by omega), wrap_of (by omega) (by omega)]
    simp only [show ¬ a2 = 0 by omega, decide_false, Bool.not_false, cond_true, iA, countF]
  · exact hv.elim
theorem okInv_iff {a m : Int} : okInv a m = true ↔ 0 ≤ a ∧ 0 < m ∧ m ≤ 4294967296 ∧ Int.gcd a m = 1 := by
  simp only [okInv, Bool.and_eq_true, decide_eq_true_eq]
theorem il5_key (m : Int) : ∀ (k : Nat) (a x y r : Int), r.natAbs < k → okExt m a r x y → -8589934592 ≤ x ∧ x ≤ 8589934592 → -8589934592 ≤ y ∧ y ≤ 8589934592 →
    ∃ n, evBody Itp Try.prog (fromList L9) ik ilsp Try.f90 5 0 n [iA a, iA m, iA x, iA y, iA r] [] = some (.exit 0, [iA m, iA (extX a r x y)], []) := by
  intro k
  induction k with
  | zero => intro a x y r h; exact absurd h (Nat.not_lt_zero _)
  | succ k ih =>
    intro a x y r hlt h hx hy
    by_cases h0 : r = 0
    · subst h0
      refine ⟨1, ?_⟩
      rw [evBody_succ, ext_zero]
      exact (inv_turn a m x y 0 _).trans (by simp [iA])
    · obtain ⟨h1, h2, h3, h4, h5⟩ := okExt_step h h0
      have e0 : (r != 0) = true := by simpa using h0
      obtain ⟨⟨ha, ha'⟩, ⟨hr, hr'⟩, _⟩ := h
      have hmod := Int.mul_tdiv_add_tmod a r
      have e1 : IntKind.i64.wrap (a.tdiv r) = a.tdiv r := wrap_of (by omega) (by omega)
      have e2 : IntKind.i64.wrap (a.tdiv r * y) = a.tdiv r * y := wrap_of (by omega) (by omega)
      have e3 : IntKind.i64.wrap (x - a.tdiv r * y) = x - a.tdiv r * y := wrap_of (by omega) (by omega)
      have e4 : IntKind.i64.wrap (a.tdiv r * r) = a.tdiv r * r := wrap_of (by omega) (by omega)
      have e5 : a - a.tdiv r * r = a.tmod r := by rw [Int.mul_comm]; omega
      have e6 : IntKind.i64.wrap (a.tmod r) = a.tmod r := wrap_of (by have := h1.2.1; omega) (by have := h1.2.1; omega)
      obtain ⟨n, hn⟩ := ih r y (x - a.tdiv r * y) (a.tmod r) (by rw [Int.natAbs_tmod]; have := Nat.mod_lt a.natAbs (show 0 < r.natAbs by omega); omega) h1 hy h4
      refine ⟨n + 1, ?_⟩
      rw [evBody_succ, ext_step h0]
      refine (inv_turn a m x y r _).trans ?_
      simp only [e0, h0, decide_false, Bool.not_false, cond_true, e1, e2, e3, e4, e5, e6]
      exact hn
theorem il5_ok (vals : List V) (hp : Hp Tok) (l : Lf Tok) (hh : (il5 vals hp).Has l) : ∃ n, evBody Itp Try.prog (fromList L9) ik ilsp Try.f90 5 hp.length n vals hp = some l := by
  unfold il5 at hh
  split at hh
  · rename_i a m x y r
    obtain ⟨h, hv⟩ := has_br hh
    have hv := has_ret hv
    subst hv
    have h := of_decide_eq_true h
    exact il5_key m _ a x y r (Nat.lt_succ_self _) h.1 h.2.1 h.2.2
  · exact hh.elim
theorem ilsp_ok (id : Nat) (vals : List V) (hp : Hp Tok) (l : Lf Tok) (h : (ilsp id vals hp).Has l) : ∃ n, evBody Itp Try.prog (fromList L9) ik ilsp Try.f90 id hp.length n vals hp = some l := by
  unfold ilsp at h
  split at h
  · exact il5_ok vals hp l h
  · exact h.elim
theorem ext_start {a m : Int} (hm : 0 < m) (hm' : m ≤ 4294967296) (ha : 0 ≤ a) (ha' : a ≤ m) : okExt m a m 1 0 ∧ (-8589934592 ≤ (1 : Int) ∧ (1 : Int) ≤ 8589934592) ∧ (-8589934592 ≤ (0 : Int) ∧ (0 : Int) ≤ 8589934592) := by
  refine ⟨⟨by omega, by omega, by omega, .inl (by omega), ?_⟩, by omega, by omega⟩
  rw [show ((0 : Int).natAbs : Int) = 0 from rfl, show ((1 : Int).natAbs : Int) = 1 from rfl]; omega
theorem tmod_like {m a : Int} (hm : 0 < m) : m ∣ a.tmod m - a := ⟨-(a.tdiv m), by have := Int.mul_tdiv_add_tmod a m; rw [Int.mul_neg]; omega⟩
theorem ok_inv : FnOk Itp Try.prog 90 spInv := fnOkL S9 hm Try.func90 spInv ik ilsp (by kernel_rfl) ilsp_ok fun args v hv => by
  unfold spInv at hv
  split at hv
  · rename_i a m
    obtain ⟨h, hv⟩ := has_br hv
    have hv := has_ret hv
    subst hv
    obtain ⟨hw, hm0, hm1, hg⟩ := okInv_iff.1 h
    refine (inv_ev a m).trans ?_
    by_cases c : m = 1
    · subst c
      obtain ⟨k0, k1, _⟩ := cop_inv (a := a) (m := 1) (by omega) hg
      rw [show invF a 1 = 0 by omega]; rfl
    · have e0 : (m == 1) = false := beq_eq_false_iff_ne.mpr c
      have e1 : a.tmod m = a % m := Int.tmod_eq_emod_of_nonneg hw
      have e2 : okExtB m (a.tmod m) m 1 0 = true := decide_eq_true (by rw [e1]; exact ext_start hm0 hm1 (Int.emod_nonneg _ (by omega)) (Int.le_of_lt (Int.emod_lt_of_pos _ hm0)))
      rw [e1] at e2
      have e3 : okMod m = true := okMod_iff.2 ⟨hm0, by omega⟩
      simp only [e0, e2, e3, show ¬ m = 0 by omega, decide_false, Bool.not_false, cond_true, cond_false, e1, ext_inv hm0 hg, iA]
  · exact hv.elim
theorem S10 : SpecOk Itp Try.prog (fromList L10) := specOk_cons (en _ _ Try.func88) ok_count <| specOk_cons (en _ _ Try.func90) ok_inv S9
theorem okFew_iff {a b o : Abs} {k v : Int} {f : Bool} : okFew a b k v f o = true ↔ VA a ∧ VA b ∧ (0 ≤ k ∧ k ≤ 255) ∧ (a.lo ≤ v ∧ v ≤ a.hi + a.m ∧ a.m ∣ v - a.lo) ∧ f = fewB a b v ∧ o = fewA a b k v := by
  simp only [okFew, Bool.and_eq_true, decide_eq_true_eq, validF_iff, okM_iff, beq_iff_eq]
theorem by_one (v k : Int) : byF v v 0 k = ofF v k := by simp [byF, topF, ofF]
theorem fl4_key (a b : Abs) (k r0 r1 r2 r3 r4 : Int) : ∀ (n : Nat) (v : Int) (f : Bool) (o : Abs), (a.hi + a.m + 1 - v).toNat < n → okFew a b k v f o = true →
    ∃ j, evBody Itp Try.prog (fromList L10) fk flsp Try.f89 4 5 j [iA k, .ref 0 0, .ref 1 0, .ref 2 0, .ref 4 0, .bool f, iA v] [some (cellsA a), some (cellsA b), some [iA r0, iA r1, iA r2, iA r3, iA r4], none, some (cellsA o)] =
      some (.exit 0, [.ref 2 0, .ref 4 0, .bool (meetB a b)], [some (cellsA a), some (cellsA b), some [iA r0, iA r1, iA r2, iA r3, iA r4], none, some (cellsA (meetK a b k))]) := by
  intro n
  induction n with
  | zero => intro v f o h; exact absurd h (Nat.not_lt_zero _)
  | succ n ih =>
    intro v f o hlt h
    obtain ⟨hA, hB, hk, ⟨h1, h2, h3⟩, rfl, rfl⟩ := okFew_iff.1 h
    have q1 := hA.1; have q2 := hA.2.2.1; have q3 := hA.m_le
    by_cases c : v ≤ a.hi
    · have hv : withinF a v = true := withinF_iff.2 ⟨h1, c, h3⟩
      have hd : a.m ∣ v + a.m - a.lo := by rw [show v + a.m - a.lo = (v - a.lo) + a.m by omega]; exact Int.dvd_add h3 (Int.dvd_refl _)
      have ew : IntKind.i64.wrap (v + a.m) = v + a.m := wrap_of (by omega) (by omega)
      have e1 : validF b = true := validF_iff.2 hB
      have e2 : okN v = true := okN_iff.2 (by omega)
      have e3 : okBy v v 0 = true := okBy_iff.2 ⟨by omega, by omega, by omega, by omega, by omega, by omega⟩
      cases hw : withinF b v with
      | false =>
        obtain ⟨k1, k2⟩ := few_skip hA hB hk h3 hw
        obtain ⟨j, hj⟩ := ih (v + a.m) (fewB a b v) (fewA a b k v) (by omega) (okFew_iff.2 ⟨hA, hB, hk, ⟨by omega, by omega, hd⟩, k1.symm, k2.symm⟩)
        refine ⟨j + 1, ?_⟩
        rw [evBody_succ]
        refine (few_turn k v a.lo a.hi a.m a.r a.mask b.lo b.hi b.m b.r b.mask r0 r1 r2 r3 r4 (fewA a b k v).lo (fewA a b k v).hi (fewA a b k v).m (fewA a b k v).r (fewA a b k v).mask (fewB a b v) _).trans ?_
        simp only [c, decide_true, cond_true, e1, e2, Bool.and_self, hw, Bool.not_false, ew]
        exact hj
      | true =>
        obtain ⟨k1, k2⟩ := few_hit hA hB hk hv hw
        cases hf : fewB a b v with
        | true =>
          rw [hf, if_pos rfl] at k2
          obtain ⟨j, hj⟩ := ih (v + a.m) true (joinF (fewA a b k v) (ofF v k)) (by omega) (okFew_iff.2 ⟨hA, hB, hk, ⟨by omega, by omega, hd⟩, k1.symm, k2.symm⟩)
          refine ⟨j + 1, ?_⟩
          rw [evBody_succ]
          refine (few_turn k v a.lo a.hi a.m a.r a.mask b.lo b.hi b.m b.r b.mask r0 r1 r2 r3 r4 (fewA a b k v).lo (fewA a b k v).hi (fewA a b k v).m (fewA a b k v).r (fewA a b k v).mask true _).trans ?_
          have e4 : validF (fewA a b k v) = true := validF_iff.2 (few_spec hA hB hk hf).1
          have e5 : validF (ofF v k) = true := validF_iff.2 (of_VA (by omega) (by omega) hk)
          simp only [c, decide_true, cond_true, e1, e2, e3, e4, e5, by_one, Bool.and_self, hw, Bool.not_true, cond_false, ew]
          exact hj
        | false =>
          rw [hf, if_neg (by simp)] at k2
          obtain ⟨j, hj⟩ := ih (v + a.m) true (ofF v k) (by omega) (okFew_iff.2 ⟨hA, hB, hk, ⟨by omega, by omega, hd⟩, k1.symm, k2.symm⟩)
          refine ⟨j + 1, ?_⟩
          rw [evBody_succ]
          refine (few_turn k v a.lo a.hi a.m a.r a.mask b.lo b.hi b.m b.r b.mask r0 r1 r2 r3 r4 (fewA a b k v).lo (fewA a b k v).hi (fewA a b k v).m (fewA a b k v).r (fewA a b k v).mask false _).trans ?_
          simp only [c, decide_true, cond_true, e1, e2, e3, by_one, Bool.and_self, hw, Bool.not_true, cond_false, ew]
          exact hj
    · obtain ⟨k1, k2⟩ := few_end (b := b) hA (k := k) (v := v) (by omega)
      refine ⟨1, ?_⟩
      rw [evBody_succ]
      refine (few_turn k v a.lo a.hi a.m a.r a.mask b.lo b.hi b.m b.r b.mask r0 r1 r2 r3 r4 (fewA a b k v).lo (fewA a b k v).hi (fewA a b k v).m (fewA a b k v).r (fewA a b k v).mask (fewB a b v) _).trans ?_
      simp only [c, decide_false, cond_false, k1, k2]
      rfl
theorem fl4_ok (vals : List V) (hp : Hp Tok) (l : Lf Tok) (hh : (fl4 vals hp).Has l) : ∃ n, evBody Itp Try.prog (fromList L10) fk flsp Try.f89 4 hp.length n vals hp = some l := by
  unfold fl4 at hh
  split at hh
  · rename_i k f v
    split at hh
    · rename_i a0 a1 a2 a3 a4 b0 b1 b2 b3 b4 o0 o1 o2 o3 o4 h0 h1 h4
      obtain ⟨h, hv⟩ := has_br hh
      have hv := has_ret hv
      subst hv
      simp only [Bool.and_eq_true] at h
      obtain ⟨hsh, h⟩ := h
      obtain ⟨p0, p1, p2, p3, p4, q0, q1, q2, q3, q4, r0, r1, r2, r3, r4, s0, s1, s2, s3, s4, rfl⟩ := shFew_inv hsh
      have i0 := Option.some.inj h0
      have i1 := Option.some.inj h1
      have i4 := Option.some.inj h4
      simp only [iA, List.cons.injEq, AV.int.injEq, true_and, and_true] at i0 i1 i4
      obtain ⟨rfl, rfl, rfl, rfl, rfl⟩ := i0
      obtain ⟨rfl, rfl, rfl, rfl, rfl⟩ := i1
      obtain ⟨rfl, rfl, rfl, rfl, rfl⟩ := i4
      exact fl4_key _ _ k r0 r1 r2 r3 r4 _ v f _ (Nat.lt_succ_self _) h
    · exact hh.elim
  · exact hh.elim
theorem flsp_ok (id : Nat) (vals : List V) (hp : Hp Tok) (l : Lf Tok) (h : (flsp id vals hp).Has l) : ∃ n, evBody Itp Try.prog (fromList L10) fk flsp Try.f89 id hp.length n vals hp = some l := by
  unfold flsp at h
  split at h
  · exact fl4_ok vals hp l h
  · exact h.elim
theorem ok_few : FnOk Itp Try.prog 89 spFew := fnOkL S10 hm Try.func89 spFew fk flsp (by kernel_rfl) flsp_ok fun args v hv => by
  unfold spFew at hv
  split at hv
  · rename_i a0 a1 a2 a3 a4 b0 b1 b2 b3 b4 k
    obtain ⟨h, hv⟩ := has_br hv
    have hv := has_ret hv
    subst hv
    simp only [Bool.and_eq_true, validF_iff, okM_iff] at h
    obtain ⟨hA, hB, hk⟩ := h
    refine (few_ev a0 a1 a2 a3 a4 b0 b1 b2 b3 b4 k).trans ?_
    have hs := few_start (b := ⟨b0, b1, b2, b3, b4⟩) hA
    have e : okFew ⟨a0, a1, a2, a3, a4⟩ ⟨b0, b1, b2, b3, b4⟩ k a0 false ⟨0, 0, 0, 0, 0⟩ = true := okFew_iff.2 ⟨hA, hB, hk, ⟨Int.le_refl _, by have := hA.2.1; have := hA.m_le; simp only at *; omega, by rw [show a0 - Abs.lo ⟨a0, a1, a2, a3, a4⟩ = 0 from Int.sub_self a0]; exact Int.dvd_zero _⟩, hs.symm, (few_none hs).symm⟩
    rw [e]; rfl
  · exact hv.elim
theorem S11 : SpecOk Itp Try.prog (fromList L11) := specOk_cons (en _ _ Try.func89) ok_few S10
end Go.Proofs.Ytamfgbenceoleaa.Span
