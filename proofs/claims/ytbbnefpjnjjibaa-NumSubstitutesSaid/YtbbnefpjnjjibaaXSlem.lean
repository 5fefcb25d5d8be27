/- Lemmas on 32-bit wrapping and on the operators of package num, in plain numbers. No condition. -/
import Derived.Test.YtbbnefpjnjjibaaXSf2

namespace Go.Proofs.Ytbbnefpjnjjibaa.Pure
open Go.RowKit Go.Proofs.Ytbbnefpjnjjibaa.XS Go.Proofs.YtbbnefpjnjjibaaW.PrintWords Go.Proofs.YtbbnefpjnjjibaaW.PrintLast

theorem i32_of {x : Int} (h : (Lit.int .i32 x).wf = true) : wrap64 x = x ∧ -2147483648 ≤ x ∧ x ≤ 2147483647 := by
  simp [Lit.wf, IntKind.min, IntKind.max, IntKind.signed, IntKind.bits] at h
  unfold wrap64
  omega
theorem examples_ok : parolelaw01_examples.f 12 = some true := by decide +kernel
theorem w32_add (x j : Int) : wrap32 (x + 4294967296 * j) = wrap32 x := by unfold wrap32; omega
theorem w32_is (x : Int) : ∃ k, wrap32 x = x + 4294967296 * k := ⟨-((x + 2147483648) / 4294967296), by unfold wrap32; omega⟩
theorem w32_mul_left (x y : Int) : wrap32 (wrap32 x * y) = wrap32 (x * y) := by
  obtain ⟨k, hk⟩ := w32_is x
  rw [hk, Int.add_mul, Int.mul_assoc, w32_add]
theorem w32_mul_right (x y : Int) : wrap32 (x * wrap32 y) = wrap32 (x * y) := by rw [Int.mul_comm, w32_mul_left, Int.mul_comm]
theorem w32_add2 (x y : Int) : wrap32 (wrap32 x + wrap32 y) = wrap32 (x + y) := by unfold wrap32; omega
theorem w32_sub2 (x y : Int) : wrap32 (wrap32 x - wrap32 y) = wrap32 (x - y) := by unfold wrap32; omega
theorem op4 (x y : Int) : num_Op.f 4 x y = some (wrap32 (x + y)) := by unfold num_Op.f opI; rw [if_pos rfl, w32_add2]
theorem op5 (x y : Int) : num_Op.f 5 x y = some (wrap32 (x - y)) := by unfold num_Op.f opI; rw [if_neg (by decide), if_pos rfl, w32_sub2]
theorem op6 (x y : Int) : num_Op.f 6 x y = some (wrap32 (x * y)) := by unfold num_Op.f opI; rw [if_neg (by decide), if_neg (by decide), if_pos rfl, w32_mul_left, w32_mul_right]
/-- A 32-bit value. -/
def Val (x : Int) : Prop := -2147483648 ≤ x ∧ x ≤ 2147483647
theorem op7 {x y : Int} (hx : Val x) (hy : Val y) : num_Op.f 7 x y = some (wrap32 (if y = 0 then 0 else Int.tdiv x y)) := by
  unfold num_Op.f opI
  rw [if_neg (by decide), if_neg (by decide), if_neg (by decide), if_pos rfl, wrap32_of x hx.1 hx.2, wrap32_of y hy.1 hy.2]
theorem op8 {x y : Int} (hx : Val x) (hy : Val y) : num_Op.f 8 x y = some (wrap32 (if y = 0 then x else Int.tmod x y)) := by
  unfold num_Op.f opI
  rw [if_neg (by decide), if_neg (by decide), if_neg (by decide), if_neg (by decide), if_pos rfl, wrap32_of x hx.1 hx.2, wrap32_of y hy.1 hy.2]
theorem op9 {x y : Int} (hx : Val x) (hy : Val y) : num_Op.f 9 x y = some (if y < x then y else x) := by
  unfold num_Op.f opI
  rw [if_neg (by decide), if_neg (by decide), if_neg (by decide), if_neg (by decide), if_neg (by decide), if_pos rfl, wrap32_of x hx.1 hx.2, wrap32_of y hy.1 hy.2]
  unfold Val at hx hy
  split
  · rw [wrap32_of y hy.1 hy.2]
  · rw [wrap32_of x hx.1 hx.2]
theorem op10 {x y : Int} (hx : Val x) (hy : Val y) : num_Op.f 10 x y = some (if x < y then y else x) := by
  unfold num_Op.f opI
  rw [if_neg (by decide), if_neg (by decide), if_neg (by decide), if_neg (by decide), if_neg (by decide), if_neg (by decide), if_pos rfl, wrap32_of x hx.1 hx.2, wrap32_of y hy.1 hy.2]
  unfold Val at hx hy
  split
  · rw [wrap32_of y hy.1 hy.2]
  · rw [wrap32_of x hx.1 hx.2]
end Go.Proofs.Ytbbnefpjnjjibaa.Pure
