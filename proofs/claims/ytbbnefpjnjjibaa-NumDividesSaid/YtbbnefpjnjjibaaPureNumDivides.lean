/- Division and remainder of package num, for all 32-bit values: a is b times the quotient and the remainder modulo 2^32, the remainder is less than b in size and has the sign of a; division by 0 gives 0 and leaves a. No condition beside the arguments' types. -/
import Derived.Test.YtbbnefpjnjjibaaXAf3
import Derived.Test.YtbbnefpjnjjibaaXAlem
namespace Go.Proofs.Ytbbnefpjnjjibaa.Pure
open Go.RowKit Go.Proofs.Ytbbnefpjnjjibaa.XA Go.Proofs.YtbbnefpjnjjibaaW.PrintWords Go.Proofs.YtbbnefpjnjjibaaW.PrintLast

theorem NumDivides : parolelaw01_NumDivides.Pure := by
  intro a b ha hb
  obtain ⟨ea, la⟩ := i32_of ha
  obtain ⟨eb, lb⟩ := i32_of hb
  refine ⟨12, ?_⟩
  unfold parolelaw01_NumDivides.f
  rw [examples_ok]
  simp only [Option.bind_some, if_true, op7 la lb, op8 la lb, ea, eb]
  by_cases h0 : b = 0
  · subst h0
    rw [if_pos rfl, if_pos (by rw [if_pos rfl]; unfold wrap32; omega), if_pos (by rw [if_pos rfl, wrap32_of a la.1 la.2])]
  rw [if_neg h0, if_neg h0, if_neg h0]
  have hd := Int.mul_tdiv_add_tmod a b
  have hq := tdiv_range a b la
  obtain ⟨kq, hkq⟩ := w32_is (Int.tdiv a b)
  have hrl : (Int.tmod a b).natAbs < b.natAbs := by rw [Int.natAbs_tmod]; exact Nat.mod_lt _ (by omega)
  have hra : (Int.tmod a b).natAbs ≤ a.natAbs := by rw [Int.natAbs_tmod]; exact Nat.mod_le _ _
  have hs1 : 0 ≤ a → 0 ≤ Int.tmod a b := fun h => Int.tmod_nonneg b h
  have hs2 : a ≤ 0 → Int.tmod a b ≤ 0 := fun h => by
    have := Int.tmod_nonneg b (show 0 ≤ -a by omega)
    rw [Int.neg_tmod] at this
    omega
  have er : wrap32 (Int.tmod a b) = Int.tmod a b := wrap32_of _ (by omega) (by omega)
  rw [er]
  have hm := mul_range b (wrap32 (Int.tdiv a b)) lb (wrap32_range _)
  have em : wrap64 (b * wrap32 (Int.tdiv a b)) = b * wrap32 (Int.tdiv a b) := by unfold wrap64; omega
  have es : wrap64 (b * wrap32 (Int.tdiv a b) + Int.tmod a b) = b * wrap32 (Int.tdiv a b) + Int.tmod a b := by unfold wrap64; omega
  have hc : parolelaw01_congruent.f (b * wrap32 (Int.tdiv a b) + Int.tmod a b) a = some true := by
    refine cong_ok _ _ (b * kq) ?_ (by omega)
    rw [hkq, Int.mul_add, Int.mul_left_comm b 4294967296 kq]
    omega
  rw [em, es, hc]
  simp only [Option.bind_some, if_true]
  generalize Int.tmod a b = r at *
  have n1 : wrap64 (-r) = -r := by unfold wrap64; omega
  have n2 : wrap64 (-b) = -b := by unfold wrap64; omega
  have n3 : wrap64 (-a) = -a := by unfold wrap64; omega
  rw [n1, n2, n3]
  have x1 : mx r (-r) < mx b (-b) := by unfold mx; omega
  have x2 : mx r (-r) ≤ mx a (-a) := by unfold mx; omega
  by_cases c1 : r > 0
  · rw [if_pos c1, if_neg (by omega), if_neg (by omega), if_pos x1, if_pos x2]
  · rw [if_neg c1]
    by_cases c2 : r < 0
    · rw [if_pos c2, if_neg (by omega), if_pos x1, if_pos x2]
    · rw [if_neg c2, if_pos x1, if_pos x2]
end Go.Proofs.Ytbbnefpjnjjibaa.Pure
