/- The smaller and the greater of two 32-bit values are one of them, in this order; they are commutative and associative, and absorb each other; the conditions at-most, less and equal compare in the same way. No condition beside the arguments' types. -/
import Derived.Test.YtbbnefpjnjjibaaXAf4
import Derived.Test.YtbbnefpjnjjibaaXAlem
namespace Go.Proofs.Ytbbnefpjnjjibaa.Pure
open Go.RowKit Go.Proofs.Ytbbnefpjnjjibaa.XA Go.Proofs.YtbbnefpjnjjibaaW.PrintWords Go.Proofs.YtbbnefpjnjjibaaW.PrintLast

theorem eval_num {a : Int} (ha : Val a) (k : Nat) (l1 l2 : List Int) : num_Eval.f (k + 1) 1 0 a [] l1 l2 = some a := by
  unfold num_Eval.f
  rw [if_pos rfl]
  unfold num_Wrap.f
  have e : wrap64 (wrap32 a) = a := by rw [wrap32_of a ha.1 ha.2]; unfold wrap64; unfold Val at ha; omega
  rw [e]; rfl
theorem value_0 {a b : Int} (ha : Val a) (k : Nat) (l1 l2 : List Int) : holdsValue (k + 1) [⟨1, 0, a, []⟩, ⟨1, 0, b, []⟩] 0 l1 l2 = some a := by
  unfold holdsValue api_Expr.f
  simp only [List.length_cons, List.length_nil]
  rw [if_pos (by decide), if_pos (by decide), if_pos (by decide)]
  exact eval_num ha k l1 l2
theorem value_1 {a b : Int} (hb : Val b) (k : Nat) (l1 l2 : List Int) : holdsValue (k + 1) [⟨1, 0, a, []⟩, ⟨1, 0, b, []⟩] 1 l1 l2 = some b := by
  unfold holdsValue api_Expr.f
  simp only [List.length_cons, List.length_nil]
  rw [if_pos (by decide), if_pos (by decide), if_pos (by decide)]
  exact eval_num hb k l1 l2
theorem holds_le_num {a b : Int} (ha : Val a) (hb : Val b) (k : Nat) : num_Holds.f (k + 2) 3 [⟨1, 0, a, []⟩, ⟨1, 0, b, []⟩] [] [] [] = some (decide (a ≤ b)) := by
  unfold num_Holds.f
  rw [value_0 ha, value_1 hb]; rfl
theorem holds_lt_num {a b : Int} (ha : Val a) (hb : Val b) (k : Nat) : num_Holds.f (k + 2) 2 [⟨1, 0, a, []⟩, ⟨1, 0, b, []⟩] [] [] [] = some (decide (a < b)) := by
  unfold num_Holds.f
  rw [value_0 ha, value_1 hb]; rfl
theorem holds_eq_num {a b : Int} (ha : Val a) (hb : Val b) (k : Nat) : num_Holds.f (k + 2) 4 [⟨1, 0, a, []⟩, ⟨1, 0, b, []⟩] [] [] [] = some (a == b) := by
  unfold num_Holds.f
  rw [value_0 ha, value_1 hb]; rfl
theorem order_j1 {a b lo hi : Int} (ha : Val a) (hb : Val b) (h1 : lo = if b < a then b else a) (h2 : hi = if a < b then b else a) (k : Nat) : parolelaw01_NumOrder.j1 (k + 3) true a b lo hi false = some true := by
  unfold parolelaw01_NumOrder.j1 paroleref01_Num.f
  simp only [Option.bind_some]
  rw [if_neg (by decide), holds_le_num ha hb, holds_lt_num ha hb, holds_eq_num ha hb]
  simp only [Option.bind_some]
  have e1 : (decide (a ≤ b) == (lo == a)) = true := by
    have : decide (a ≤ b) = (lo == a) := by
      rw [Bool.eq_iff_iff, decide_eq_true_iff, beq_iff_eq]
      subst h1
      split <;> omega
    rw [this, beq_self_eq_true]
  have e2 : (decide (a < b) == (hi != a)) = true := by
    have : decide (a < b) = (hi != a) := by
      rw [Bool.eq_iff_iff, decide_eq_true_iff, bne_iff_ne]
      subst h2
      split <;> omega
    rw [this, beq_self_eq_true]
  have e3 : ((a == b) == (lo == hi)) = true := by
    have : (a == b) = (lo == hi) := by
      rw [Bool.eq_iff_iff, beq_iff_eq, beq_iff_eq]
      subst h1 h2
      split <;> split <;> omega
    rw [this, beq_self_eq_true]
  rw [if_pos e1, if_pos e2, if_pos e3]
theorem NumOrder : parolelaw01_NumOrder.Pure := by
  intro a b c ha hb hc
  obtain ⟨ea, la⟩ := i32_of ha
  obtain ⟨eb, lb⟩ := i32_of hb
  obtain ⟨ec, lc⟩ := i32_of hc
  have va : Val a := la
  have vb : Val b := lb
  have vc : Val c := lc
  refine ⟨12, ?_⟩
  have hx : parolelaw01_examples.f 12 = some true := examples_ok
  obtain ⟨lo, hlo⟩ : ∃ lo, lo = if b < a then b else a := ⟨_, rfl⟩
  obtain ⟨hi, hhi⟩ : ∃ hi, hi = if a < b then b else a := ⟨_, rfl⟩
  have vlo : Val lo := by unfold Val at *; subst hlo; split <;> omega
  have vhi : Val hi := by unfold Val at *; subst hhi; split <;> omega
  obtain ⟨m, hm⟩ : ∃ m, m = if c < b then c else b := ⟨_, rfl⟩
  have vm : Val m := by unfold Val at *; subst hm; split <;> omega
  have key : (lo = a ∧ hi = b ∧ a ≤ b) ∨ (lo = b ∧ hi = a ∧ b < a) := by
    by_cases h : b < a
    · right; rw [if_pos h] at hlo; rw [if_neg (by omega)] at hhi; exact ⟨hlo, hhi, h⟩
    · left; rw [if_neg h] at hlo
      by_cases h2 : a < b
      · rw [if_pos h2] at hhi; exact ⟨hlo, hhi, by omega⟩
      · rw [if_neg h2] at hhi; exact ⟨hlo, by omega, by omega⟩
  have s : wrap64 (lo + hi) = wrap64 (a + b) := by rcases key with ⟨rfl, rfl, _⟩ | ⟨rfl, rfl, _⟩ <;> simp [Int.add_comm]
  have j0 : ∀ y : Bool, y = false → parolelaw01_NumOrder.j0 12 true a b c lo hi y = some true := by
    rintro y rfl
    unfold parolelaw01_NumOrder.j0
    have q1 : (if c < lo then c else lo) = (if m < a then m else a) := by
      clear hlo hhi s
      rcases key with ⟨h1, _, h⟩ | ⟨h1, _, h⟩
      · subst h1
        by_cases h3 : c < b
        · rw [if_pos h3] at hm; subst hm; rfl
        · rw [if_neg h3] at hm; subst hm; rw [if_neg (by omega)]; split <;> omega
      · subst h1
        by_cases h3 : c < lo
        · rw [if_pos h3] at hm; subst hm; rw [if_pos h3, if_pos (by omega)]
        · rw [if_neg h3] at hm; subst hm; rw [if_neg h3, if_pos h]
    have q2 : (if a < lo then lo else a) = a := if_neg (by rcases key with ⟨h, _⟩ | ⟨h, _, _⟩ <;> omega)
    have q3 : (if hi < a then hi else a) = a := if_neg (by rcases key with ⟨_, h, _⟩ | ⟨_, h, _⟩ <;> omega)
    have q4 : (if a < b then a else b) = lo := by
      rcases key with ⟨rfl, rfl, h⟩ | ⟨rfl, rfl, h⟩
      · by_cases h3 : lo < hi
        · rw [if_pos h3]
        · rw [if_neg h3]; omega
      · rw [if_neg (by omega)]
    simp only [Option.bind_some, op9 vlo vc, op9 vb vc, ← hm, op9 va vm, op10 va vlo, op9 va vhi, op9 vb va, q1, q2, q3, q4, if_true, bne_self_eq_false]
    rw [if_neg (by decide)]
    exact order_j1 va vb hlo hhi 8
  unfold parolelaw01_NumOrder.f
  rw [hx]
  simp only [Option.bind_some, if_true, ea, eb, ec, op9 va vb, op10 va vb, ← hlo, ← hhi]
  rw [if_neg (by rcases key with ⟨h1, h2, _⟩ | ⟨h1, h2, _⟩ <;> omega), if_pos s]
  by_cases h : lo = a
  · rw [if_pos h]; exact j0 _ rfl
  · rw [if_neg h]
    exact j0 _ (by rcases key with ⟨h1, _⟩ | ⟨h1, _⟩; exact absurd h1 h; rw [h1]; exact bne_self_eq_false _)
end Go.Proofs.Ytbbnefpjnjjibaa.Pure
