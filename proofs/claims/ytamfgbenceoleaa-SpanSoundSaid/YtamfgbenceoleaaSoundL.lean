import Derived.Test.YtamfgbenceoleaaSound0
import Derived.Test.YtamfgbenceoleaaSpanQ
/-! The law SpanSound. -/
namespace Go.Proofs.Ytamfgbenceoleaa.Span
set_option linter.unusedVariables false
set_option linter.unusedSimpArgs false
set_option linter.unusedSectionVars false
set_option linter.unnecessarySimpa false
open Go.Proofs.Ytamfgbenceoleaa.Ev Go.RowKit
set_option maxRecDepth 100000
set_option maxHeartbeats 4000000
theorem sound_turn (op x0 x1 x2 x3 y0 y1 y2 y3 n0 n1 n2 n3 a0 a1 a2 a3 a4 b0 b1 b2 b3 b4 v0 v1 w0 w1 : Int) (F : List V → Hp Tok → Option (Lf Tok)) : evTurn Itp Try.prog (fromList L9) sk slsp Try.f3 9 28 F [.bool true, .ref 8 0, .ref 9 0, .ref 24 0, .ref 25 0, iA op] [some [.int .i64 x0, .int .i64 x1, .int .i64 x2, .int .i64 x3], some [.int .i64 y0, .int .i64 y1, .int .i64 y2, .int .i64 y3], some [.int .i64 n0, .int .i64 n1, .int .i64 n2, .int .i64 n3], none, none, none, none, none, some [.int .i64 a0, .int .i64 a1, .int .i64 a2, .int .i64 a3, .int .i64 a4], some [.int .i64 b0, .int .i64 b1, .int .i64 b2, .int .i64 b3, .int .i64 b4], none, none, none, none, none, none, none, none, none, none, none, none, none, none, some [.int .i64 v0, .int .i64 v1], some [.int .i64 w0, .int .i64 w1], none, none] =
    bif decide (op ≤ 10) then bif okOp op { lo := a0, hi := a1, m := a2, r := a3, mask := a4 } { lo := b0, hi := b1, m := b2, r := b3, mask := b4 } then bif !validF (opA op { lo := a0, hi := a1, m := a2, r := a3, mask := a4 } { lo := b0, hi := b1, m := b2, r := b3, mask := b4 }) then some (X.ret, [AV.bool true], [some [AV.int IntKind.i64 x0, AV.int IntKind.i64 x1, AV.int IntKind.i64 x2, AV.int IntKind.i64 x3], some [AV.int IntKind.i64 y0, AV.int IntKind.i64 y1, AV.int IntKind.i64 y2, AV.int IntKind.i64 y3], some [AV.int IntKind.i64 n0, AV.int IntKind.i64 n1, AV.int IntKind.i64 n2, AV.int IntKind.i64 n3], none, none, none, none, none, some [AV.int IntKind.i64 a0, AV.int IntKind.i64 a1, AV.int IntKind.i64 a2, AV.int IntKind.i64 a3, AV.int IntKind.i64 a4], some [AV.int IntKind.i64 b0, AV.int IntKind.i64 b1, AV.int IntKind.i64 b2, AV.int IntKind.i64 b3, AV.int IntKind.i64 b4], none, none, none, none, none, none, none, none, none, none, none, none, none, none, some [AV.int IntKind.i64 v0, AV.int IntKind.i64 v1], some [AV.int IntKind.i64 w0, AV.int IntKind.i64 w1], none, none]) else bif validF (opA op { lo := a0, hi := a1, m := a2, r := a3, mask := a4 } { lo := b0, hi := b1, m := b2, r := b3, mask := b4 }) && (okN (opG op v0 w0) && okM (bitI BinOp.or IntKind.i64 v1 w1)) then bif !hasF (opA op { lo := a0, hi := a1, m := a2, r := a3, mask := a4 } { lo := b0, hi := b1, m := b2, r := b3, mask := b4 }) (opG op v0 w0) (bitI BinOp.or IntKind.i64 v1 w1) then some (X.ret, [AV.bool true], [some [AV.int IntKind.i64 x0, AV.int IntKind.i64 x1, AV.int IntKind.i64 x2, AV.int IntKind.i64 x3], some [AV.int IntKind.i64 y0, AV.int IntKind.i64 y1, AV.int IntKind.i64 y2, AV.int IntKind.i64 y3], some [AV.int IntKind.i64 n0, AV.int IntKind.i64 n1, AV.int IntKind.i64 n2, AV.int IntKind.i64 n3], none, none, none, none, none, some [AV.int IntKind.i64 a0, AV.int IntKind.i64 a1, AV.int IntKind.i64 a2, AV.int IntKind.i64 a3, AV.int IntKind.i64 a4], some [AV.int IntKind.i64 b0, AV.int IntKind.i64 b1, AV.int IntKind.i64 b2, AV.int IntKind.i64 b3, AV.int IntKind.i64 b4], none, none, none, none, none, none, none, none, none, none, none, none, none, none, some [AV.int IntKind.i64 v0, AV.int IntKind.i64 v1], some [AV.int IntKind.i64 w0, AV.int IntKind.i64 w1], none, none]) else F [AV.bool true, AV.ref 8 0, AV.ref 9 0, AV.ref 24 0, AV.ref 25 0, AV.int IntKind.i64 (IntKind.i64.wrap (op + 1))] [some [AV.int IntKind.i64 x0, AV.int IntKind.i64 x1, AV.int IntKind.i64 x2, AV.int IntKind.i64 x3], some [AV.int IntKind.i64 y0, AV.int IntKind.i64 y1, AV.int IntKind.i64 y2, AV.int IntKind.i64 y3], some [AV.int IntKind.i64 n0, AV.int IntKind.i64 n1, AV.int IntKind.i64 n2, AV.int IntKind.i64 n3], none, none, none, none, none, some [AV.int IntKind.i64 a0, AV.int IntKind.i64 a1, AV.int IntKind.i64 a2, AV.int IntKind.i64 a3, AV.int IntKind.i64 a4], some [AV.int IntKind.i64 b0, AV.int IntKind.i64 b1, AV.int IntKind.i64 b2, AV.int IntKind.i64 b3, AV.int IntKind.i64 b4], none, none, none, none, none, none, none, none, none, none, none, none, none, none, some [AV.int IntKind.i64 v0, AV.int IntKind.i64 v1], some [AV.int IntKind.i64 w0, AV.int IntKind.i64 w1], none, none] else none else none else some (X.exit 0, [AV.bool true], [some [AV.int IntKind.i64 x0, AV.int IntKind.i64 x1, AV.int IntKind.i64 x2, AV.int IntKind.i64 x3], some [AV.int IntKind.i64 y0, AV.int IntKind.i64 y1, AV.int IntKind.i64 y2, AV.int IntKind.i64 y3], some [AV.int IntKind.i64 n0, AV.int IntKind.i64 n1, AV.int IntKind.i64 n2, AV.int IntKind.i64 n3], none, none, none, none, none, some [AV.int IntKind.i64 a0, AV.int IntKind.i64 a1, AV.int IntKind.i64 a2, AV.int IntKind.i64 a3, AV.int IntKind.i64 a4], some [AV.int IntKind.i64 b0, AV.int IntKind.i64 b1, AV.int IntKind.i64 b2, AV.int IntKind.i64 b3, AV.int IntKind.i64 b4], none, none, none, none, none, none, none, none, none, none, none, none, none, none, some [AV.int IntKind.i64 v0, AV.int IntKind.i64 v1], some [AV.int IntKind.i64 w0, AV.int IntKind.i64 w1], none, none]) := by
  kernel_rfl
theorem sound_ev (x0 x1 x2 x3 y0 y1 y2 y3 n0 n1 n2 n3 : Int) : evFn Itp Try.prog (fromList L9) sk slsp Try.f3 [.agg [.int .i64 x0, .int .i64 x1, .int .i64 x2, .int .i64 x3], .agg [.int .i64 y0, .int .i64 y1, .int .i64 y2, .int .i64 y3], .agg [.int .i64 n0, .int .i64 n1, .int .i64 n2, .int .i64 n3]] some =
    bif validF (madeF x0 x1 x2 x3) then bif validF (madeF y0 y1 y2 y3) then bif validF (madeF x0 x1 x2 x3) && (okN (atV (madeF x0 x1 x2 x3) n0) && okM (andW n1 (madeF x0 x1 x2 x3).mask)) then bif !hasF (madeF x0 x1 x2 x3) (atV (madeF x0 x1 x2 x3) n0) (andW n1 (madeF x0 x1 x2 x3).mask) then some (AV.bool false) else bif validF (madeF y0 y1 y2 y3) && (okN (atV (madeF y0 y1 y2 y3) n2) && okM (andW n3 (madeF y0 y1 y2 y3).mask)) then bif !hasF (madeF y0 y1 y2 y3) (atV (madeF y0 y1 y2 y3) n2) (andW n3 (madeF y0 y1 y2 y3).mask) then some (AV.bool false) else bif okSound 4 (madeF x0 x1 x2 x3) (madeF y0 y1 y2 y3) (atV (madeF x0 x1 x2 x3) n0) (andW n1 (madeF x0 x1 x2 x3).mask) (atV (madeF y0 y1 y2 y3) n2) (andW n3 (madeF y0 y1 y2 y3).mask) then some (AV.bool true) else none else none else none else none else none := by
  kernel_rfl
theorem okSound_iff {op v k w l : Int} {a b : Abs} : okSound op a b v k w l = true ↔ (4 ≤ op ∧ op ≤ 11) ∧ VA a ∧ VA b ∧ okMul a b = true ∧ hasF a v k = true ∧ hasF b w l = true ∧ (0 ≤ k ∧ k ≤ 255) ∧ (0 ≤ l ∧ l ≤ 255) := by
  simp only [okSound, Bool.and_eq_true, decide_eq_true_eq, validF_iff, okM_iff]
theorem sl9_key (x0 x1 x2 x3 y0 y1 y2 y3 n0 n1 n2 n3 a0 a1 a2 a3 a4 b0 b1 b2 b3 b4 v0 v1 w0 w1 : Int) : ∀ (k : Nat) (op : Int), okSound op ⟨a0, a1, a2, a3, a4⟩ ⟨b0, b1, b2, b3, b4⟩ v0 v1 w0 w1 = true → (11 - op).toNat < k →
    ∃ n, evBody Itp Try.prog (fromList L9) sk slsp Try.f3 9 28 n [.bool true, .ref 8 0, .ref 9 0, .ref 24 0, .ref 25 0, .int .i64 op] [some [.int .i64 x0, .int .i64 x1, .int .i64 x2, .int .i64 x3], some [.int .i64 y0, .int .i64 y1, .int .i64 y2, .int .i64 y3], some [.int .i64 n0, .int .i64 n1, .int .i64 n2, .int .i64 n3], none, none, none, none, none, some [.int .i64 a0, .int .i64 a1, .int .i64 a2, .int .i64 a3, .int .i64 a4], some [.int .i64 b0, .int .i64 b1, .int .i64 b2, .int .i64 b3, .int .i64 b4], none, none, none, none, none, none, none, none, none, none, none, none, none, none, some [.int .i64 v0, .int .i64 v1], some [.int .i64 w0, .int .i64 w1], none, none] = some (.exit 0, [.bool true], [some [.int .i64 x0, .int .i64 x1, .int .i64 x2, .int .i64 x3], some [.int .i64 y0, .int .i64 y1, .int .i64 y2, .int .i64 y3], some [.int .i64 n0, .int .i64 n1, .int .i64 n2, .int .i64 n3], none, none, none, none, none, some [.int .i64 a0, .int .i64 a1, .int .i64 a2, .int .i64 a3, .int .i64 a4], some [.int .i64 b0, .int .i64 b1, .int .i64 b2, .int .i64 b3, .int .i64 b4], none, none, none, none, none, none, none, none, none, none, none, none, none, none, some [.int .i64 v0, .int .i64 v1], some [.int .i64 w0, .int .i64 w1], none, none]) := by
  intro k
  induction k with
  | zero => intro op _ hlt; exact absurd hlt (Nat.not_lt_zero _)
  | succ k ih =>
    intro op h hlt
    obtain ⟨ho, hA, hB, hM, hv, hw, hk, hl⟩ := okSound_iff.1 h
    by_cases c : op ≤ 10
    · obtain ⟨hV, hH⟩ := op_sound (op := op) ⟨ho.1, c⟩ hA hB hv hw
      obtain ⟨n, hn⟩ := ih (op + 1) (okSound_iff.2 ⟨by omega, hA, hB, hM, hv, hw, hk, hl⟩) (by omega)
      refine ⟨n + 1, ?_⟩
      rw [evBody_succ]
      refine (sound_turn op x0 x1 x2 x3 y0 y1 y2 y3 n0 n1 n2 n3 a0 a1 a2 a3 a4 b0 b1 b2 b3 b4 v0 v1 w0 w1 _).trans ?_
      have e1 : okOp op ⟨a0, a1, a2, a3, a4⟩ ⟨b0, b1, b2, b3, b4⟩ = true := by simp only [okOp, Bool.and_eq_true, validF_iff, hM, Bool.or_true, and_true]; exact ⟨hA, hB⟩
      have e2 : validF (opA op ⟨a0, a1, a2, a3, a4⟩ ⟨b0, b1, b2, b3, b4⟩) = true := validF_iff.2 hV
      have hg : -2147483648 ≤ opG op v0 w0 ∧ opG op v0 w0 ≤ 2147483647 := w32_mem _
      have e3 : okN (opG op v0 w0) = true := okN_iff.2 (by omega)
      have e4 : bitI .or .i64 v1 w1 = orM v1 w1 := bitI_or hk.1 hk.2 hl.1 hl.2
      have e5 : okM (orM v1 w1) = true := okM_iff.2 (orM_range hk.1 hk.2 hl.1 hl.2)
      have e6 : IntKind.i64.wrap (op + 1) = op + 1 := wrap_of (by omega) (by omega)
      simp only [c, decide_true, cond_true, e1, e2, e3, e4, e5, e6, hH, Bool.not_true, cond_false, Bool.and_self]
      exact hn
    · refine ⟨1, ?_⟩
      rw [evBody_succ]
      refine (sound_turn op x0 x1 x2 x3 y0 y1 y2 y3 n0 n1 n2 n3 a0 a1 a2 a3 a4 b0 b1 b2 b3 b4 v0 v1 w0 w1 _).trans ?_
      simp only [c, decide_false, cond_false]
theorem sl9_ok (vals : List V) (hp : Hp Tok) (l : Lf Tok) (hh : (sl9 vals hp).Has l) : ∃ n, evBody Itp Try.prog (fromList L9) sk slsp Try.f3 9 hp.length n vals hp = some l := by
  unfold sl9 at hh
  split at hh
  · rename_i op
    split at hh
    · rename_i a0 a1 a2 a3 a4 b0 b1 b2 b3 b4 v0 v1 w0 w1 h8 h9 h24 h25
      obtain ⟨h, hv⟩ := has_br hh
      have hv := has_ret hv
      subst hv
      simp only [Bool.and_eq_true] at h
      obtain ⟨hsh, h⟩ := h
      obtain ⟨x0, x1, x2, x3, y0, y1, y2, y3, n0, n1, n2, n3, c0, c1, c2, c3, c4, d0, d1, d2, d3, d4, e0, e1, f0, f1, rfl⟩ := sh9_inv hsh
      have i8 := Option.some.inj h8
      have i9 := Option.some.inj h9
      have i24 := Option.some.inj h24
      have i25 := Option.some.inj h25
      simp only [iA, List.cons.injEq, AV.int.injEq, true_and, and_true] at i8 i9 i24 i25
      obtain ⟨rfl, rfl, rfl, rfl, rfl⟩ := i8
      obtain ⟨rfl, rfl, rfl, rfl, rfl⟩ := i9
      obtain ⟨rfl, rfl⟩ := i24
      obtain ⟨rfl, rfl⟩ := i25
      exact sl9_key x0 x1 x2 x3 y0 y1 y2 y3 n0 n1 n2 n3 _ _ _ _ _ _ _ _ _ _ _ _ _ _ _ op h (Nat.lt_succ_self _)
    · exact hh.elim
  · exact hh.elim
theorem slsp_ok (id : Nat) (vals : List V) (hp : Hp Tok) (l : Lf Tok) (h : (slsp id vals hp).Has l) : ∃ n, evBody Itp Try.prog (fromList L9) sk slsp Try.f3 id hp.length n vals hp = some l := by
  unfold slsp at h
  split at h
  · exact sl9_ok vals hp l h
  · exact h.elim
theorem made_ok (lo n m k : Int) : validF (madeF lo n m k) = true := validF_iff.2 (made_VA lo n m k)
theorem at_ok {a : Abs} (h : VA a) (n k : Int) : okN (atV a n) = true ∧ okM (andW k a.mask) = true := by
  have h1 := range_of h (hasF_iff.1 (at_has h n k)).1
  have h2 := andW_range k h.2.2.2.1 h.2.2.2.2.1
  exact ⟨okN_iff.2 (by omega), okM_iff.2 ⟨h2.1, h2.2.1⟩⟩
/-- SpanSound returns true. -/
theorem sound_calls (x0 x1 x2 x3 y0 y1 y2 y3 n0 n1 n2 n3 : Int) : CallOk Itp Try.prog 3 [.agg [.int .i64 x0, .int .i64 x1, .int .i64 x2, .int .i64 x3], .agg [.int .i64 y0, .int .i64 y1, .int .i64 y2, .int .i64 y3], .agg [.int .i64 n0, .int .i64 n1, .int .i64 n2, .int .i64 n3]] (.bool true) := by
  refine fn_sound (keep := sk) (lsp := slsp) S9 hm Try.func3 (fun c hc => loopOk_of hc (by rw [show c = (Try.f3.body).getD .skip by rw [hc]; rfl]; kernel_rfl) slsp_ok) ?_
  refine (sound_ev x0 x1 x2 x3 y0 y1 y2 y3 n0 n1 n2 n3).trans ?_
  have hA := made_VA x0 x1 x2 x3
  have hB := made_VA y0 y1 y2 y3
  have e1 := made_ok x0 x1 x2 x3
  have e2 := made_ok y0 y1 y2 y3
  have e3 := at_ok hA n0 n1
  have e4 := at_ok hB n2 n3
  have e5 := at_has hA n0 n1
  have e6 := at_has hB n2 n3
  have e7 : okSound 4 (madeF x0 x1 x2 x3) (madeF y0 y1 y2 y3) (atV (madeF x0 x1 x2 x3) n0) (andW n1 (madeF x0 x1 x2 x3).mask) (atV (madeF y0 y1 y2 y3) n2) (andW n3 (madeF y0 y1 y2 y3).mask) = true :=
    okSound_iff.2 ⟨by omega, hA, hB, made_mul _ _ _ _ _ _ _ _, e5, e6, okM_iff.1 e3.2, okM_iff.1 e4.2⟩
  simp only [e1, e2, e3.1, e3.2, e4.1, e4.2, e5, e6, e7, Bool.and_self, Bool.not_true, cond_true, cond_false]
end Go.Proofs.Ytamfgbenceoleaa.Span
