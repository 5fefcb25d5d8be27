/- The results of addition, subtraction and multiplication of package num are congruent to those of the integers modulo 2^32, and obey the laws of a commutative ring, for all 32-bit values. No condition beside the arguments' types. -/
import Derived.Test.YtbbnefpjnjjibaaXAf3
import Derived.Test.YtbbnefpjnjjibaaXAlem
namespace Go.Proofs.Ytbbnefpjnjjibaa.Pure
open Go.RowKit Go.Proofs.Ytbbnefpjnjjibaa.XA Go.Proofs.YtbbnefpjnjjibaaW.PrintWords Go.Proofs.YtbbnefpjnjjibaaW.PrintLast

theorem NumRing : parolelaw01_NumRing.Pure := by
  intro a b c ha hb hc
  obtain ⟨ea, la⟩ := i32_of ha
  obtain ⟨eb, lb⟩ := i32_of hb
  obtain ⟨ec, lc⟩ := i32_of hc
  refine ⟨12, ?_⟩
  have c1 := cong_w (a + b) (by omega)
  have c2 := cong_w (a * b) (mul_range a b la lb)
  have c3 := cong_w (a - b) (by omega)
  have r1 := wrap32_range (a + b)
  have r2 := wrap32_range (a * b)
  have e1 : wrap32 (wrap32 (a + b) + c) = wrap32 (a + wrap32 (b + c)) := by unfold wrap32; omega
  have e2 : wrap32 (wrap32 (a * b) * c) = wrap32 (a * wrap32 (b * c)) := by rw [w32_mul_left, w32_mul_right, Int.mul_assoc]
  have e3 : wrap32 (wrap32 (a + b) * c) = wrap32 (wrap32 (a * c) + wrap32 (b * c)) := by rw [w32_mul_left, w32_add2, Int.add_mul]
  have e4 : wrap32 (wrap32 (a - b) + b) = a := by unfold wrap32; omega
  unfold parolelaw01_NumRing.f
  rw [examples_ok]
  simp only [Option.bind_some, if_true, op4, op5, op6, ea, eb, ec, c1, c2, c3]
  rw [if_neg (by omega), if_neg (by omega), if_neg (by omega)]
  have d1 : decide (wrap32 (a * b) > 2147483647) = false := decide_eq_false (by omega)
  rw [d1]
  unfold parolelaw01_NumRing.j0
  simp only [Option.bind_some, if_true, op4, op6, e1, e2]
  rw [if_neg (by decide), if_pos (by rw [Int.add_comm]), Int.mul_comm b a, bne_self_eq_false]
  unfold parolelaw01_NumRing.j1
  simp only [Option.bind_some, if_true, op4, op5, op6, e3, e4]
  rw [if_neg (by decide)]
end Go.Proofs.Ytbbnefpjnjjibaa.Pure
