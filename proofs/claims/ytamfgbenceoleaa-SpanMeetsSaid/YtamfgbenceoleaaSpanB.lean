import Derived.Test.YtamfgbenceoleaaSpanF
/-! Masks: bits. -/
namespace Go.Proofs.Ytamfgbenceoleaa.Span
set_option linter.unusedVariables false
set_option linter.unusedSimpArgs false
set_option linter.unusedSectionVars false
set_option linter.unnecessarySimpa false
open Go.Proofs.Ytamfgbenceoleaa.Ev
theorem ofInt_toNat {x : Int} (h0 : 0 ≤ x) (h1 : x < 18446744073709551616) : (BitVec.ofInt 64 x).toNat = x.toNat := by
  rw [BitVec.toNat_ofInt]
  congr 1
  exact Int.emod_eq_of_lt h0 (by omega)
theorem bitI_or {a b : Int} (ha : 0 ≤ a) (ha' : a ≤ 255) (hb : 0 ≤ b) (hb' : b ≤ 255) : bitI .or .i64 a b = orM a b := by
  have e1 : (BitVec.ofInt 64 a).toNat = a.toNat := ofInt_toNat ha (by omega)
  have e2 : (BitVec.ofInt 64 b).toNat = b.toNat := ofInt_toNat hb (by omega)
  have hl : a.toNat ||| b.toNat < 2 ^ 8 := Nat.or_lt_two_pow (by omega) (by omega)
  show IntKind.i64.wrap (((BitVec.ofInt 64 a) ||| (BitVec.ofInt 64 b)).toNat : Int) = _
  rw [BitVec.toNat_or, e1, e2]
  rw [wrap_of (by omega) (by omega)]
  rfl
theorem bitI_and {a b : Int} (ha : 0 ≤ a) (ha' : a ≤ 255) (hb : 0 ≤ b) (hb' : b ≤ 255) : bitI .and .i64 a b = andM a b := by
  have e1 : (BitVec.ofInt 64 a).toNat = a.toNat := ofInt_toNat ha (by omega)
  have e2 : (BitVec.ofInt 64 b).toNat = b.toNat := ofInt_toNat hb (by omega)
  have hl : a.toNat &&& b.toNat ≤ b.toNat := Nat.and_le_right
  show IntKind.i64.wrap (((BitVec.ofInt 64 a) &&& (BitVec.ofInt 64 b)).toNat : Int) = _
  rw [BitVec.toNat_and, e1, e2]
  rw [wrap_of (by omega) (by omega)]
  rfl
theorem wrap_zero {n : Nat} (h : n < 18446744073709551616) : IntKind.i64.wrap (n : Int) = 0 ↔ n = 0 := by
  have e : IntKind.i64.wrap (n : Int) = if (n : Int) % 18446744073709551616 ≥ 9223372036854775808 then (n : Int) % 18446744073709551616 - 18446744073709551616 else (n : Int) % 18446744073709551616 := by
    simp [IntKind.wrap, IntKind.bits, IntKind.signed]
  rw [e]; split <;> omega
theorem andNot_zero (x y : BitVec 64) : (x &&& ~~~y).toNat = 0 ↔ x.toNat ||| y.toNat = y.toNat := by
  rw [← BitVec.toNat_or]
  constructor
  · intro h
    have h0 : x &&& ~~~y = 0#64 := BitVec.eq_of_toNat_eq (by simpa using h)
    congr 1
    apply BitVec.eq_of_getLsbD_eq
    intro i hi
    have := congrArg (fun z : BitVec 64 => z.getLsbD i) h0
    simp [hi] at this
    simp
    intro hx
    exact this hx
  · intro h
    have h0 : x ||| y = y := BitVec.eq_of_toNat_eq h
    have : x &&& ~~~y = 0#64 := by
      apply BitVec.eq_of_getLsbD_eq
      intro i hi
      have := congrArg (fun z : BitVec 64 => z.getLsbD i) h0
      simp at this
      simp [hi]
      exact this
    rw [this]; rfl
theorem bitI_sub {a b : Int} (ha : 0 ≤ a) (ha' : a ≤ 255) (hb : 0 ≤ b) (hb' : b ≤ 255) : (bitI .andNot .i64 a b == 0) = subB a b := by
  have e1 : (BitVec.ofInt 64 a).toNat = a.toNat := ofInt_toNat ha (by omega)
  have e2 : (BitVec.ofInt 64 b).toNat = b.toNat := ofInt_toNat hb (by omega)
  rw [Bool.eq_iff_iff]
  simp only [beq_iff_eq, subB]
  show IntKind.i64.wrap (((BitVec.ofInt 64 a) &&& ~~~(BitVec.ofInt 64 b)).toNat : Int) = 0 ↔ _
  rw [wrap_zero (BitVec.isLt _), andNot_zero, e1, e2]
theorem andW_range (k : Int) {b : Int} (hb : 0 ≤ b) (hb' : b ≤ 255) : 0 ≤ andW k b ∧ andW k b ≤ 255 ∧ subB (andW k b) b = true := by
  have e2 : (BitVec.ofInt 64 b).toNat = b.toNat := ofInt_toNat hb (by omega)
  have e : andW k b = (((BitVec.ofInt 64 k).toNat &&& b.toNat : Nat) : Int) := by
    show IntKind.i64.wrap (((BitVec.ofInt 64 k) &&& (BitVec.ofInt 64 b)).toNat : Int) = _
    rw [BitVec.toNat_and, e2]
    have hl : (BitVec.ofInt 64 k).toNat &&& b.toNat ≤ b.toNat := Nat.and_le_right
    rw [wrap_of (by omega) (by omega)]
  have hl : (BitVec.ofInt 64 k).toNat &&& b.toNat ≤ b.toNat := Nat.and_le_right
  rw [e]
  refine ⟨by omega, by omega, ?_⟩
  simp only [subB, beq_iff_eq, Int.toNat_natCast]
  apply Nat.eq_of_testBit_eq
  intro i
  simp only [Nat.testBit_or, Nat.testBit_and]
  cases (BitVec.ofInt 64 k).toNat.testBit i <;> simp
theorem orM_range {a b : Int} (ha : 0 ≤ a) (ha' : a ≤ 255) (hb : 0 ≤ b) (hb' : b ≤ 255) : 0 ≤ orM a b ∧ orM a b ≤ 255 := by
  have hl : a.toNat ||| b.toNat < 2 ^ 8 := Nat.or_lt_two_pow (by omega) (by omega)
  unfold orM; omega
theorem andM_range {a b : Int} (ha : 0 ≤ a) (ha' : a ≤ 255) (hb : 0 ≤ b) (hb' : b ≤ 255) : 0 ≤ andM a b ∧ andM a b ≤ 255 := by
  have hl : a.toNat &&& b.toNat ≤ b.toNat := Nat.and_le_right
  unfold andM; omega
theorem subB_iff {a b : Int} : subB a b = true ↔ a.toNat ||| b.toNat = b.toNat := by simp [subB]
theorem subB_refl (a : Int) : subB a a = true := by simp [subB]
theorem subB_bits {a b : Int} : subB a b = true ↔ ∀ i, a.toNat.testBit i = true → b.toNat.testBit i = true := by
  rw [subB_iff]
  constructor
  · intro h i hi
    have := congrArg (fun n : Nat => n.testBit i) h
    simp only [Nat.testBit_or, hi, Bool.true_or] at this
    exact this.symm
  · intro h
    apply Nat.eq_of_testBit_eq
    intro i
    rw [Nat.testBit_or]
    cases hc : a.toNat.testBit i with
    | true => rw [h i hc]; rfl
    | false => simp
theorem subB_trans {a b c : Int} (h : subB a b = true) (k : subB b c = true) : subB a c = true := by
  rw [subB_bits] at *; exact fun i hi => k i (h i hi)
theorem orM_bits {a b : Int} (i : Nat) : (orM a b).toNat.testBit i = (a.toNat.testBit i || b.toNat.testBit i) := by simp [orM]
theorem andM_bits {a b : Int} (i : Nat) : (andM a b).toNat.testBit i = (a.toNat.testBit i && b.toNat.testBit i) := by simp [andM]
theorem subB_or_left (a b : Int) : subB a (orM a b) = true := by rw [subB_bits]; intro i h; rw [orM_bits, h]; rfl
theorem subB_or_right (a b : Int) : subB b (orM a b) = true := by rw [subB_bits]; intro i h; rw [orM_bits, h]; simp
theorem subB_or {a b c : Int} (h : subB a c = true) (k : subB b c = true) : subB (orM a b) c = true := by
  rw [subB_bits] at *; intro i hi; rw [orM_bits] at hi
  rcases Bool.or_eq_true _ _ ▸ hi with hi | hi
  · exact h i hi
  · exact k i hi
theorem subB_mono {a b c d : Int} (h : subB a c = true) (k : subB b d = true) : subB (orM a b) (orM c d) = true :=
  subB_or (subB_trans h (subB_or_left c d)) (subB_trans k (subB_or_right c d))
theorem mask_ext {a b : Int} (ha : 0 ≤ a) (hb : 0 ≤ b) (h : ∀ i, a.toNat.testBit i = b.toNat.testBit i) : a = b := by
  have := Nat.eq_of_testBit_eq h; omega
theorem orM_comm (a b : Int) : orM a b = orM b a := by unfold orM; rw [Nat.or_comm]
theorem orM_assoc (a b c : Int) : orM (orM a b) c = orM a (orM b c) := by simp [orM, Nat.or_assoc]
theorem orM_self {a : Int} (h : 0 ≤ a) : orM a a = a := by simp [orM]; omega
theorem orM_eq_iff {a b : Int} (hb : 0 ≤ b) : orM a b = b ↔ subB a b = true := by
  rw [subB_iff]; unfold orM; omega
end Go.Proofs.Ytamfgbenceoleaa.Span
