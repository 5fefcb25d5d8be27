import Derived.Test.YtamfgbenceoleaaSpanG
import Derived.Test.YtamfgbenceoleaaSpanM
/-! Contracts of the second stage. -/
namespace Go.Proofs.Ytamfgbenceoleaa.Span
set_option linter.unusedVariables false
set_option linter.unusedSimpArgs false
set_option linter.unusedSectionVars false
set_option linter.unnecessarySimpa false
open Go.Proofs.Ytamfgbenceoleaa.Ev Go.RowKit
set_option maxRecDepth 100000
theorem valid_ev (a0 a1 a2 a3 a4 : Int) : evFn Itp Try.prog (fromList L2) (fun _ => []) noLoops Try.f14 [.agg [.int .i64 a0, .int .i64 a1, .int .i64 a2, .int .i64 a3, .int .i64 a4]] some =
    bif decide (a0 < -2147483648) then some (AV.bool false) else bif decide (a0 > a1) then some (AV.bool false) else bif decide (a1 > 2147483647) then some (AV.bool false) else bif decide (a4 < 0) then some (AV.bool false) else bif decide (a4 > 255) then some (AV.bool false) else bif decide (a2 < 1) then some (AV.bool false) else bif a0 == a1 then bif a2 == 1 then some (AV.bool (a3 == 0)) else some (AV.bool false) else bif decide (a2 ≤ IntKind.i64.wrap (a1 - a0)) then bif okBy a0 a1 a2 then some (AV.bool (a0 == (byF a0 a1 a2 a4).lo && (a1 == (byF a0 a1 a2 a4).hi && (a2 == (byF a0 a1 a2 a4).m && (a3 == (byF a0 a1 a2 a4).r && (a4 == (byF a0 a1 a2 a4).mask && true)))))) else none else some (AV.bool false) := by
  kernel_rfl
theorem like_ev (r m lo hi k : Int) : evFn Itp Try.prog (fromList L2) (fun _ => []) noLoops Try.f58 [iA r, iA m, iA lo, iA hi, iA k] some =
    bif okMod m then bif okBy (IntKind.i64.wrap (lo + IntKind.i64.wrap (r - lo) % m)) hi m then some (encA (byF (IntKind.i64.wrap (lo + IntKind.i64.wrap (r - lo) % m)) hi m k)) else none else none := by
  kernel_rfl
theorem has_ev (a0 a1 a2 a3 a4 v k : Int) : evFn Itp Try.prog (fromList L2) (fun _ => []) noLoops Try.f12 [.agg [.int .i64 a0, .int .i64 a1, .int .i64 a2, .int .i64 a3, .int .i64 a4], .agg [iA v, iA k]] some =
    bif validF { lo := a0, hi := a1, m := a2, r := a3, mask := a4 } && okN v then bif withinF { lo := a0, hi := a1, m := a2, r := a3, mask := a4 } v then some (AV.bool (bitI BinOp.andNot IntKind.i64 k a4 == 0)) else some (AV.bool false) else none := by
  kernel_rfl
theorem of_ev (v k : Int) : evFn Itp Try.prog (fromList L2) (fun _ => []) noLoops Try.f22 [.agg [iA v, iA k]] some =
    bif okBy v v 0 then some (encA (byF v v 0 k)) else none := by
  kernel_rfl
theorem all_ev (k : Int) : evFn Itp Try.prog (fromList L2) (fun _ => []) noLoops Try.f31 [iA k] some =
    some (encA (byF (-2147483648) 2147483647 1 k)) := by
  kernel_rfl
theorem join_ev (a0 a1 a2 a3 a4 b0 b1 b2 b3 b4 : Int) : evFn Itp Try.prog (fromList L2) (fun _ => []) noLoops Try.f16 [.agg [.int .i64 a0, .int .i64 a1, .int .i64 a2, .int .i64 a3, .int .i64 a4], .agg [.int .i64 b0, .int .i64 b1, .int .i64 b2, .int .i64 b3, .int .i64 b4]] some =
    bif okV (IntKind.i64.wrap (a0 - b0)) then bif okV (stepF { lo := a0, hi := a1, m := a2, r := a3, mask := a4 }) && okL [stepF { lo := b0, hi := b1, m := b2, r := b3, mask := b4 }, absI (IntKind.i64.wrap (a0 - b0))] then bif okBy (mnI a0 b0) (mxI a1 b1) (gcdL (stepF { lo := a0, hi := a1, m := a2, r := a3, mask := a4 }) [stepF { lo := b0, hi := b1, m := b2, r := b3, mask := b4 }, absI (IntKind.i64.wrap (a0 - b0))]) then some (encA (byF (mnI a0 b0) (mxI a1 b1) (gcdL (stepF { lo := a0, hi := a1, m := a2, r := a3, mask := a4 }) [stepF { lo := b0, hi := b1, m := b2, r := b3, mask := b4 }, absI (IntKind.i64.wrap (a0 - b0))]) (bitI BinOp.or IntKind.i64 a4 b4))) else none else none else none := by
  kernel_rfl
theorem made_ev (lo n m k : Int) : evFn Itp Try.prog (fromList L2) (fun _ => []) noLoops Try.f40 [.agg [iA lo, iA n, iA m, iA k]] some =
    bif !decide (IntKind.i64.wrap (1 + m % 1048576) = 0) then bif okMod (IntKind.i64.wrap (1 + m % 1048576)) then bif okBy (w32 lo) (mnI (IntKind.i64.wrap (w32 lo + IntKind.i64.wrap (IntKind.i64.wrap ((n % 2147483648).tdiv (IntKind.i64.wrap (1 + m % 1048576))) * IntKind.i64.wrap (1 + m % 1048576)))) (IntKind.i64.wrap (2147483647 - IntKind.i64.wrap (2147483647 - w32 lo) % IntKind.i64.wrap (1 + m % 1048576)))) (IntKind.i64.wrap (1 + m % 1048576)) then some (encA (byF (w32 lo) (mnI (IntKind.i64.wrap (w32 lo + IntKind.i64.wrap (IntKind.i64.wrap ((n % 2147483648).tdiv (IntKind.i64.wrap (1 + m % 1048576))) * IntKind.i64.wrap (1 + m % 1048576)))) (IntKind.i64.wrap (2147483647 - IntKind.i64.wrap (2147483647 - w32 lo) % IntKind.i64.wrap (1 + m % 1048576)))) (IntKind.i64.wrap (1 + m % 1048576)) (k % 256))) else none else none else none := by
  kernel_rfl
theorem at_ev (a0 a1 a2 a3 a4 n k : Int) : evFn Itp Try.prog (fromList L2) (fun _ => []) noLoops Try.f11 [.agg [.int .i64 a0, .int .i64 a1, .int .i64 a2, .int .i64 a3, .int .i64 a4], iA n, iA k] some =
    bif !decide (a2 = 0) then bif okMod (IntKind.i64.wrap (IntKind.i64.wrap ((IntKind.i64.wrap (a1 - a0)).tdiv a2) + 1)) then some (AV.agg [AV.int IntKind.i64 (IntKind.i64.wrap (a0 + IntKind.i64.wrap (n % IntKind.i64.wrap (IntKind.i64.wrap ((IntKind.i64.wrap (a1 - a0)).tdiv a2) + 1) * a2))), AV.int IntKind.i64 (bitI BinOp.and IntKind.i64 k a4)]) else none else none := by
  kernel_rfl
theorem apart_ev (a0 a1 a2 a3 a4 b0 b1 b2 b3 b4 k : Int) : evFn Itp Try.prog (fromList L2) (fun _ => []) noLoops Try.f101 [.agg [.int .i64 a0, .int .i64 a1, .int .i64 a2, .int .i64 a3, .int .i64 a4, .int .i64 b0, .int .i64 b1, .int .i64 b2, .int .i64 b3, .int .i64 b4, .int .i64 k]] some =
    bif okV (IntKind.i64.wrap (a0 - b0)) then bif okV (stepF { lo := a0, hi := a1, m := a2, r := a3, mask := a4 }) && okL [stepF { lo := b0, hi := b1, m := b2, r := b3, mask := b4 }, absI (IntKind.i64.wrap (a0 - b0))] then some (AV.int IntKind.i64 (gcdL (stepF { lo := a0, hi := a1, m := a2, r := a3, mask := a4 }) [stepF { lo := b0, hi := b1, m := b2, r := b3, mask := b4 }, absI (IntKind.i64.wrap (a0 - b0))])) else none else none := by
  kernel_rfl
theorem ok_valid : FnOk Itp Try.prog 14 spValid := fnOk S2 hm Try.func14 spValid fun args v hv => by
  unfold spValid at hv
  split at hv
  · rename_i a0 a1 a2 a3 a4
    have hv := has_ret hv
    subst hv
    refine (valid_ev a0 a1 a2 a3 a4).trans ?_
    have hfalse : ∀ {c : Prop} [Decidable c] {x : Option V}, (c → ¬ VA ⟨a0, a1, a2, a3, a4⟩) → (¬ c → x = some (.bool (validF ⟨a0, a1, a2, a3, a4⟩))) → (bif decide c then some (.bool false) else x) = some (.bool (validF ⟨a0, a1, a2, a3, a4⟩)) := by
      intro c _ x h1 h2
      by_cases hc : c
      · simp [hc, validF, h1 hc]
      · simp [hc, h2 hc]
    refine hfalse (fun h hV => by have := hV.1; simp only at this; omega) fun c1 => ?_
    refine hfalse (fun h hV => by have := hV.2.1; simp only at this; omega) fun c2 => ?_
    refine hfalse (fun h hV => by have := hV.2.2.1; simp only at this; omega) fun c3 => ?_
    refine hfalse (fun h hV => by have := hV.2.2.2.1; simp only at this; omega) fun c4 => ?_
    refine hfalse (fun h hV => by have := hV.2.2.2.2.1; simp only at this; omega) fun c5 => ?_
    refine hfalse (fun h hV => by have := hV.2.2.2.2.2.1; simp only at this; omega) fun c6 => ?_
    by_cases c7 : a0 = a1
    · subst c7
      simp only [beq_self_eq_true, cond_true, beq_int, Bool.cond_decide]
      by_cases c8 : a2 = 1
      · rw [if_pos c8]
        congr 2
        simp only [validF]
        rw [decide_eq_decide]
        simp only [VA, ne_eq, not_true, false_imp_iff, and_true, true_imp_iff]
        exact ⟨fun h => ⟨by omega, by omega, by omega, by omega, by omega, by omega, c8, h⟩, fun h => h.2.2.2.2.2.2.2⟩
      · rw [if_neg c8]
        congr 2
        symm
        simp only [validF, decide_eq_false_iff_not]
        exact fun hV => c8 (hV.2.2.2.2.2.2.1 rfl).1
    · have e0 : IntKind.i64.wrap (a1 - a0) = a1 - a0 := wrap_of (by omega) (by omega)
      rw [beq_int, e0]
      simp only [c7, decide_false, cond_false]
      by_cases c8 : a2 ≤ a1 - a0
      · have hok : okBy a0 a1 a2 = true := okBy_iff.2 ⟨by omega, by omega, by omega, by omega, by omega, by omega⟩
        simp only [c8, decide_true, cond_true, hok]
        congr 2
        rw [Bool.eq_iff_iff]
        simp only [Bool.and_eq_true, beq_iff_eq, and_true, validF, decide_eq_true_eq]
        have hr := Int.emod_nonneg (a1 - a0) (show a2 ≠ 0 by omega)
        have hl := emod_le (x := a1 - a0) (m := a2) (by omega) (by omega)
        have htop : topF a0 a1 a2 = a1 - (a1 - a0) % a2 := if_pos (by omega)
        constructor
        · intro ⟨_, h2, h3, h4, _⟩
          by_cases c9 : a0 = topF a0 a1 a2
          · have hb : byF a0 a1 a2 a4 = ⟨a0, a0, 1, 0, a4⟩ := if_pos c9
            rw [hb] at h2
            exact absurd h2.symm c7
          · have hb : byF a0 a1 a2 a4 = ⟨a0, topF a0 a1 a2, a2, a0 % a2, a4⟩ := if_neg c9
            rw [hb] at h2 h4
            simp only at h2 h4
            have hz : (a1 - a0) % a2 = 0 := by omega
            unfold VA
            simp only
            exact ⟨by omega, by omega, by omega, by omega, by omega, by omega, fun h => absurd h c7, fun _ => ⟨c8, hz, h4⟩⟩
        · intro hV
          obtain ⟨h1, h2, h3⟩ := hV.2.2.2.2.2.2.2 c7
          simp only at h2 h3
          have hne : ¬ a0 = topF a0 a1 a2 := by rw [htop]; omega
          have hb : byF a0 a1 a2 a4 = ⟨a0, topF a0 a1 a2, a2, a0 % a2, a4⟩ := if_neg hne
          rw [hb]
          simp only
          exact ⟨trivial, by omega, trivial, h3, trivial⟩
      · simp only [c8, decide_false, cond_false]
        congr 2
        symm
        simp only [validF, decide_eq_false_iff_not]
        exact fun hV => c8 (hV.2.2.2.2.2.2.2 c7).1
  · exact hv.elim
theorem okLike_iff {r m lo hi : Int} : okLike r m lo hi = true ↔ (-4611686018427387904 ≤ r ∧ r ≤ 4611686018427387904) ∧ (-1099511627776 ≤ lo ∧ lo ≤ 1099511627776) ∧ (-1099511627776 ≤ hi ∧ hi ≤ 1099511627776) ∧ 0 < m ∧ (-4611686018427387904 ≤ m ∧ m ≤ 4611686018427387904) ∧ lo + (r - lo) % m ≤ hi := by
  simp only [okLike, Bool.and_eq_true, okN_iff, okW_iff, decide_eq_true_eq]
theorem ok_like : FnOk Itp Try.prog 58 spLike := fnOk S2 hm Try.func58 spLike fun args v hv => by
  unfold spLike at hv
  split at hv
  · rename_i r m lo hi k
    obtain ⟨h, hv⟩ := has_br hv
    have hv := has_ret hv
    subst hv
    obtain ⟨h1, h2, h3, h4, h5, h6⟩ := okLike_iff.1 h
    refine (like_ev r m lo hi k).trans ?_
    have hr := Int.emod_nonneg (r - lo) (show m ≠ 0 by omega)
    have hl := Int.emod_lt_of_pos (r - lo) h4
    have e1 : IntKind.i64.wrap (r - lo) = r - lo := wrap_of (by omega) (by omega)
    have e2 : IntKind.i64.wrap (lo + (r - lo) % m) = lo + (r - lo) % m := wrap_of (by omega) (by omega)
    have e3 : okMod m = true := okMod_iff.2 ⟨h4, h5⟩
    have e4 : okBy (lo + (r - lo) % m) hi m = true := okBy_iff.2 ⟨by omega, by omega, by omega, by omega, by omega, by omega⟩
    rw [e1, e2, e3, e4]; rfl
  · exact hv.elim
theorem okM_iff {n : Int} : okM n = true ↔ 0 ≤ n ∧ n ≤ 255 := by simp [okM]
theorem ok_has : FnOk Itp Try.prog 12 spHas := fnOk S2 hm Try.func12 spHas fun args v hv => by
  unfold spHas at hv
  split at hv
  · rename_i a0 a1 a2 a3 a4 x k
    obtain ⟨h, hv⟩ := has_br hv
    have hv := has_ret hv
    subst hv
    simp only [Bool.and_eq_true, okM_iff] at h
    obtain ⟨h1, h2, h3⟩ := h
    have hV := validF_iff.1 h1
    refine (has_ev a0 a1 a2 a3 a4 x k).trans ?_
    rw [h1, h2, bitI_sub h3.1 h3.2 hV.2.2.2.1 hV.2.2.2.2.1]
    simp only [hasF, Bool.and_self, cond_true]
    cases withinF ⟨a0, a1, a2, a3, a4⟩ x <;> rfl
  · exact hv.elim
theorem ok_of : FnOk Itp Try.prog 22 spOf := fnOk S2 hm Try.func22 spOf fun args v hv => by
  unfold spOf at hv
  split at hv
  · rename_i x k
    obtain ⟨h, hv⟩ := has_br hv
    have hv := has_ret hv
    subst hv
    rw [okN_iff] at h
    refine (of_ev x k).trans ?_
    rw [show okBy x x 0 = true from okBy_iff.2 ⟨by omega, by omega, by omega, by omega, by omega, by omega⟩]
    simp [byF, topF, ofF]
  · exact hv.elim
theorem ok_all : FnOk Itp Try.prog 31 spAll := fnOk S2 hm Try.func31 spAll fun args v hv => by
  unfold spAll at hv
  split at hv
  · rename_i k
    have hv := has_ret hv
    subst hv
    exact (all_ev k).trans rfl
  · exact hv.elim
theorem okL_two {x y : Int} (hx : okV x = true) (hy : okV y = true) : okL [x, y] = true := by simp [okL, hx, hy]
theorem ok_join : FnOk Itp Try.prog 16 spJoin := fnOk S2 hm Try.func16 spJoin fun args v hv => by
  unfold spJoin at hv
  split at hv
  · rename_i a0 a1 a2 a3 a4 b0 b1 b2 b3 b4
    obtain ⟨h, hv⟩ := has_br hv
    have hv := has_ret hv
    subst hv
    simp only [Bool.and_eq_true, validF_iff] at h
    obtain ⟨hA, hB⟩ := h
    have sA := step_range hA
    have sB := step_range hB
    have hr := apart_range hA hB
    have hz := apart_zero hA hB
    obtain ⟨p1, p2, p3, p4, p5, -⟩ := hA
    obtain ⟨q1, q2, q3, q4, q5, -⟩ := hB
    simp only at p1 p2 p3 p4 p5 q1 q2 q3 q4 q5
    refine (join_ev a0 a1 a2 a3 a4 b0 b1 b2 b3 b4).trans ?_
    have e1 : IntKind.i64.wrap (a0 - b0) = a0 - b0 := wrap_of (by omega) (by omega)
    have e2 : okV (a0 - b0) = true := okV_iff.2 (by omega)
    have e3 : okV (stepF ⟨a0, a1, a2, a3, a4⟩) = true := okV_iff.2 (by omega)
    have e4 : okL [stepF ⟨b0, b1, b2, b3, b4⟩, absI (a0 - b0)] = true := okL_two (okV_iff.2 (by omega)) (okV_iff.2 (by unfold absI; omega))
    have e5 : gcdL (stepF ⟨a0, a1, a2, a3, a4⟩) [stepF ⟨b0, b1, b2, b3, b4⟩, absI (a0 - b0)] = apartF ⟨a0, a1, a2, a3, a4⟩ ⟨b0, b1, b2, b3, b4⟩ := rfl
    have e6 : okBy (min a0 b0) (max a1 b1) (apartF ⟨a0, a1, a2, a3, a4⟩ ⟨b0, b1, b2, b3, b4⟩) = true := okBy_iff.2 ⟨by omega, by omega, by omega, by omega, by omega, fun h0 => by have := hz h0; simp only at this; omega⟩
    rw [e1, e2, e3, e4, e5, mnI_eq, mxI_eq, e6, bitI_or p4 p5 q4 q5]
    rfl
  · exact hv.elim
theorem ok_apart : FnOk Itp Try.prog 101 spApart := fnOk S2 hm Try.func101 spApart fun args v hv => by
  unfold spApart at hv
  split at hv
  · rename_i a0 a1 a2 a3 a4 b0 b1 b2 b3 b4 k
    obtain ⟨h, hv⟩ := has_br hv
    have hv := has_ret hv
    subst hv
    simp only [Bool.and_eq_true, validF_iff] at h
    obtain ⟨hA, hB⟩ := h
    have sA := step_range hA
    have sB := step_range hB
    obtain ⟨p1, p2, p3, p4, p5, -⟩ := hA
    obtain ⟨q1, q2, q3, q4, q5, -⟩ := hB
    simp only at p1 p2 p3 p4 p5 q1 q2 q3 q4 q5
    refine (apart_ev a0 a1 a2 a3 a4 b0 b1 b2 b3 b4 k).trans ?_
    have e1 : IntKind.i64.wrap (a0 - b0) = a0 - b0 := wrap_of (by omega) (by omega)
    have e2 : okV (a0 - b0) = true := okV_iff.2 (by omega)
    have e3 : okV (stepF ⟨a0, a1, a2, a3, a4⟩) = true := okV_iff.2 (by omega)
    have e4 : okL [stepF ⟨b0, b1, b2, b3, b4⟩, absI (a0 - b0)] = true := okL_two (okV_iff.2 (by omega)) (okV_iff.2 (by unfold absI; omega))
    rw [e1, e2, e3, e4]
    rfl
  · exact hv.elim
theorem ok_at : FnOk Itp Try.prog 11 spAt := fnOk S2 hm Try.func11 spAt fun args v hv => by
  unfold spAt at hv
  split at hv
  · rename_i a0 a1 a2 a3 a4 n k
    obtain ⟨h, hv⟩ := has_br hv
    have hv := has_ret hv
    subst hv
    rw [validF_iff] at h
    have hm := h.m_le
    obtain ⟨p1, p2, p3, p4, p5, p6, -⟩ := h
    simp only at p1 p2 p3 p4 p5 p6 hm
    refine (at_ev a0 a1 a2 a3 a4 n k).trans ?_
    have hd0 : 0 ≤ (a1 - a0) / a2 := Int.ediv_nonneg (by omega) (by omega)
    have hd1 : (a1 - a0) / a2 ≤ a1 - a0 := Int.ediv_le_self _ (by omega)
    have hdm : a2 * ((a1 - a0) / a2) ≤ a1 - a0 := Int.mul_ediv_self_le (by omega)
    have e1 : IntKind.i64.wrap (a1 - a0) = a1 - a0 := wrap_of (by omega) (by omega)
    have e2 : (a1 - a0).tdiv a2 = (a1 - a0) / a2 := Int.tdiv_eq_ediv_of_nonneg (by omega)
    have e3 : IntKind.i64.wrap ((a1 - a0) / a2) = (a1 - a0) / a2 := wrap_of (by omega) (by omega)
    have e4 : IntKind.i64.wrap ((a1 - a0) / a2 + 1) = (a1 - a0) / a2 + 1 := wrap_of (by omega) (by omega)
    have hn0 := Int.emod_nonneg n (show (a1 - a0) / a2 + 1 ≠ 0 by omega)
    have hn1 := Int.emod_lt_of_pos n (show 0 < (a1 - a0) / a2 + 1 by omega)
    have hmul : n % ((a1 - a0) / a2 + 1) * a2 ≤ a1 - a0 := by
      refine Int.le_trans ?_ hdm
      rw [Int.mul_comm]
      exact Int.mul_le_mul_of_nonneg_left (by omega) (by omega)
    have hmul0 : 0 ≤ n % ((a1 - a0) / a2 + 1) * a2 := Int.mul_nonneg hn0 (by omega)
    have e5 : IntKind.i64.wrap (n % ((a1 - a0) / a2 + 1) * a2) = n % ((a1 - a0) / a2 + 1) * a2 := wrap_of (by omega) (by omega)
    have e6 : IntKind.i64.wrap (a0 + n % ((a1 - a0) / a2 + 1) * a2) = a0 + n % ((a1 - a0) / a2 + 1) * a2 := wrap_of (by omega) (by omega)
    have e7 : okMod ((a1 - a0) / a2 + 1) = true := okMod_iff.2 ⟨by omega, by omega⟩
    simp only [e1, e2, e3, e4, e5, e6, e7, show ¬ a2 = 0 by omega, decide_false, Bool.not_false, cond_true]
    rfl
  · exact hv.elim
theorem w32_range (x : Int) : -2147483648 ≤ w32 x ∧ w32 x ≤ 2147483647 := by unfold w32; omega
theorem ok_made : FnOk Itp Try.prog 40 spMade := fnOk S2 hm Try.func40 spMade fun args v hv => by
  unfold spMade at hv
  split at hv
  · rename_i lo n m k
    have hv := has_ret hv
    subst hv
    refine (made_ev lo n m k).trans ?_
    have hlo := w32_range lo
    have hm0 := Int.emod_nonneg m (show (1048576 : Int) ≠ 0 by omega)
    have hm1 := Int.emod_lt_of_pos m (show (0 : Int) < 1048576 by omega)
    have hn0 := Int.emod_nonneg n (show (2147483648 : Int) ≠ 0 by omega)
    have hn1 := Int.emod_lt_of_pos n (show (0 : Int) < 2147483648 by omega)
    have e1 : IntKind.i64.wrap (1 + m % 1048576) = madeM m := wrap_of (by omega) (by omega)
    have hM : 1 ≤ madeM m ∧ madeM m ≤ 1048576 := by unfold madeM; omega
    rw [e1, show madeF lo n m k = byF (w32 lo) (min (w32 lo + n % 2147483648 / madeM m * madeM m) (2147483647 - (2147483647 - w32 lo) % madeM m)) (madeM m) (k % 256) from rfl]
    generalize madeM m = M at hM ⊢
    generalize w32 lo = L at hlo ⊢
    generalize n % 2147483648 = q at hn0 hn1 ⊢
    have hq0 : 0 ≤ q / M := Int.ediv_nonneg (by omega) (by omega)
    have hq1 : q / M ≤ q := Int.ediv_le_self _ (by omega)
    have hqm : M * (q / M) ≤ q := Int.mul_ediv_self_le (by omega)
    have hqm' : q / M * M ≤ q := by rw [Int.mul_comm]; exact hqm
    have hqm0 : 0 ≤ q / M * M := Int.mul_nonneg hq0 (by omega)
    have hr0 := Int.emod_nonneg (2147483647 - L) (show M ≠ 0 by omega)
    have hr1 := emod_le (x := 2147483647 - L) (m := M) (by omega) (by omega)
    have e2 : q.tdiv M = q / M := Int.tdiv_eq_ediv_of_nonneg (by omega)
    have e3 : IntKind.i64.wrap (q / M) = q / M := wrap_of (by omega) (by omega)
    have e4 : IntKind.i64.wrap (q / M * M) = q / M * M := wrap_of (by omega) (by omega)
    have e5 : IntKind.i64.wrap (L + q / M * M) = L + q / M * M := wrap_of (by omega) (by omega)
    have e6 : IntKind.i64.wrap (2147483647 - L) = 2147483647 - L := wrap_of (by omega) (by omega)
    have e7 : IntKind.i64.wrap (2147483647 - (2147483647 - L) % M) = 2147483647 - (2147483647 - L) % M := wrap_of (by omega) (by omega)
    have e8 : okMod M = true := okMod_iff.2 ⟨by omega, by omega⟩
    have e9 : okBy L (min (L + q / M * M) (2147483647 - (2147483647 - L) % M)) M = true := okBy_iff.2 ⟨by omega, by omega, by omega, by omega, by omega, by omega⟩
    simp only [e2, e3, e4, e5, e6, e7, e8, mnI_eq, e9, show ¬ M = 0 by omega, decide_false, Bool.not_false, cond_true]
  · exact hv.elim
theorem S3 : SpecOk Itp Try.prog (fromList L3) :=
  specOk_cons (en _ _ Try.func58) ok_like <| specOk_cons (en _ _ Try.func22) ok_of <| specOk_cons (en _ _ Try.func31) ok_all <| specOk_cons (en _ _ Try.func12) ok_has <| specOk_cons (en _ _ Try.func14) ok_valid <|
  specOk_cons (en _ _ Try.func16) ok_join <| specOk_cons (en _ _ Try.func40) ok_made <| specOk_cons (en _ _ Try.func11) ok_at <| specOk_cons (en _ _ Try.func101) ok_apart S2
end Go.Proofs.Ytamfgbenceoleaa.Span
