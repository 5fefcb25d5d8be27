/- Several texts in one: NumOp, SpanF, NTok, NumS, NumC1, NumC2, NumS2, NumC3, NumC4, NumC5, NumC6, NumK, NumCondL, LTree. -/
import Derived.Test.YtbbnefpjnjjibaaBunEv
import Derived.Test.YtbbnefpjnjjibaaProg
import Derived.Below
import Derived.Deep.Draws
import Derived.Deep.AppendLies
import Derived.Maps.AppendAt
import Derived.OwnWalk
import Derived.Laws.BytesArg
import Derived.Laws.MakeOwn
import Derived.Laws.OwnMore
import Derived.Deep.OwnRows
import Derived.Tactics
import Derived.Lib.ConvBytes
import Derived.Laws.Slices
import Derived.WalkKit
import Derived.KernelRfl
import Derived.RowKit3
import Derived.Deep.LoopGhost
import Derived.Deep.QuietTactic
import Derived.BigQuiet
import Derived.WideLaws
import Derived.Deep.DeepCutAuto
import Derived.Deep.CutBlock
import Derived.Deep.RegionHeld3
import Derived.Laws.Rows
import Derived.WideMake
import Derived.Laws.Entries
import Derived.Test.YtbbnefpjnjjibaaRows
import Derived.ChangeArms
import Derived.OpenShut
import Derived.SizedLaws
import Derived.DataReads
import Derived.WideShapes
namespace Go.Proofs.Ytbbnefpjnjjibaa.NumOp
set_option linter.unusedVariables false
set_option linter.unusedSimpArgs false
set_option linter.unusedSectionVars false
set_option linter.unnecessarySimpa false
open Go.RowKit Go.Proofs.Ytbbnefpjnjjibaa
structure Aside0 (p : Prop) : Prop where mk :: (out : p)
theorem set_push_size (xs : Array Obj) (a b : Obj) : (xs.push a).setIfInBounds xs.size b = xs.push b := by
  apply Array.ext
  · simp
  · intro i h1 h2
    by_cases h : i = xs.size
    · subst h; rw [Array.getElem_setIfInBounds_self, Array.getElem_push_eq]
    · have h3 : i < xs.size := by simp at h2; omega
      rw [Array.getElem_setIfInBounds_ne (by simp; omega) (Ne.symm h), Array.getElem_push_lt h3, Array.getElem_push_lt h3]
theorem upd_alloc {P : Program} (w : World) (mty kt et : TypeId) (es : Array MapEntry) (c : Nat) (k : Int) (val : Value) (hm : P.underlying mty = some (.map kt et)) (hk : P.underlying kt = some (.int .i64)) (hf : Instr.findNow (.int .i64) (.int .i64 k) es.toList 0 = some none) :
    (Instr.mapUpdate mty (.map (some w.heap.size)) (.int .i64 k) val).run P (w.alloc (.map es c)) = .ok () (w.alloc (.map (es.push ⟨.int .i64 k, val, c⟩) (c + 1))) := by
  have hb : (w.alloc (.map es c)).heap[w.heap.size]? = some (.map es c) := by unfold World.alloc; simp
  have hc : (Instr.checkKey false 10000 kt (.int .i64 k)).run P (w.alloc (.map es c)) = .ok () (w.alloc (.map es c)) := MapKept.run_checkKey (k := .int .i64 k) hk (by simp [MapKept.IsKey]) false 9999
  simp [Instr.mapUpdate, run_underlying hm, MapKept.run_getObj_map hb, hc, MapKept.run_findKey hk hf, MapKept.run_setObj_map _ hb, Result.andThen]
  unfold World.alloc; simp only [set_push_size]
theorem look_hit {P : Program} (w : World) (mty kt et : TypeId) (r : Nat) (es : Array MapEntry) (c : Nat) (k : Int) (i : Nat) (val : Value) (hm : P.underlying mty = some (.map kt et)) (hk : P.underlying kt = some (.int .i64)) (hb : w.heap[r]? = some (.map es c)) (hf : Instr.findNow (.int .i64) (.int .i64 k) es.toList 0 = some (some (i, val))) :
    (Instr.lookup mty (.map (some r)) (.int .i64 k) true).run P w = .ok (.tuple #[val, .bool true]) w := by
  have hc : ∀ b, (Instr.checkKey b 10000 kt (.int .i64 k)).run P w = .ok () w := fun b => MapKept.run_checkKey (k := .int .i64 k) hk (by simp [MapKept.IsKey]) b 9999
  simp [Instr.lookup, run_underlying hm, MapKept.run_getObj_map hb, hc, MapKept.run_findKey hk hf, Result.andThen]
theorem look_miss {P : Program} (w : World) (mty kt et : TypeId) (r : Nat) (es : Array MapEntry) (c : Nat) (k : Int) (z : Value) (hm : P.underlying mty = some (.map kt et)) (hk : P.underlying kt = some (.int .i64)) (hz : (zeroValue et).run P w = .ok z w) (hb : w.heap[r]? = some (.map es c)) (hf : Instr.findNow (.int .i64) (.int .i64 k) es.toList 0 = some none) :
    (Instr.lookup mty (.map (some r)) (.int .i64 k) true).run P w = .ok (.tuple #[z, .bool false]) w := by
  have hc : ∀ b, (Instr.checkKey b 10000 kt (.int .i64 k)).run P w = .ok () w := fun b => MapKept.run_checkKey (k := .int .i64 k) hk (by simp [MapKept.IsKey]) b 9999
  simp [Instr.lookup, run_underlying hm, MapKept.run_getObj_map hb, hc, hz, MapKept.run_findKey hk hf, Result.andThen]

/-- The seven operators, as the map of functions has them. -/
def opsMap : Array MapEntry := #[⟨.int .i64 4, .func (.func 57) #[] #[], 0⟩, ⟨.int .i64 5, .func (.func 58) #[] #[], 1⟩, ⟨.int .i64 6, .func (.func 59) #[] #[], 2⟩, ⟨.int .i64 7, .func (.func 60) #[] #[], 3⟩, ⟨.int .i64 8, .func (.func 61) #[] #[], 4⟩, ⟨.int .i64 9, .func (.func 62) #[] #[], 5⟩, ⟨.int .i64 10, .func (.func 63) #[] #[], 6⟩]
def opsUpto (n : Nat) : Array MapEntry := (opsMap.toList.take n).toArray
set_option maxHeartbeats 400000 in
set_option maxRecDepth 100000 in
theorem num_operators_calls (w : World) :
    Calls Try.prog 37 #[] w fun e w' => e = .returned (.map (some w.heap.size)) ∧ w' = w.alloc (.map opsMap 7) := by
  have hmm := @run_makeMap_plain Try.prog w 57
  have u0 : ∀ w : World, (Instr.mapUpdate 57 (.map (some w.heap.size)) (.int .i64 4) (.func (.func 57) #[] #[])).run Try.prog (w.alloc (.map #[] 0)) = .ok () (w.alloc (.map (opsUpto 1) 1)) := fun w => upd_alloc w _ _ _ _ _ _ _ Try.underlying57 Try.underlying3 rfl
  have u1 : ∀ w : World, (Instr.mapUpdate 57 (.map (some w.heap.size)) (.int .i64 5) (.func (.func 58) #[] #[])).run Try.prog (w.alloc (.map (opsUpto 1) 1)) = .ok () (w.alloc (.map (opsUpto 2) 2)) := fun w => upd_alloc w _ _ _ _ _ _ _ Try.underlying57 Try.underlying3 rfl
  have u2 : ∀ w : World, (Instr.mapUpdate 57 (.map (some w.heap.size)) (.int .i64 6) (.func (.func 59) #[] #[])).run Try.prog (w.alloc (.map (opsUpto 2) 2)) = .ok () (w.alloc (.map (opsUpto 3) 3)) := fun w => upd_alloc w _ _ _ _ _ _ _ Try.underlying57 Try.underlying3 rfl
  have u3 : ∀ w : World, (Instr.mapUpdate 57 (.map (some w.heap.size)) (.int .i64 7) (.func (.func 60) #[] #[])).run Try.prog (w.alloc (.map (opsUpto 3) 3)) = .ok () (w.alloc (.map (opsUpto 4) 4)) := fun w => upd_alloc w _ _ _ _ _ _ _ Try.underlying57 Try.underlying3 rfl
  have u4 : ∀ w : World, (Instr.mapUpdate 57 (.map (some w.heap.size)) (.int .i64 8) (.func (.func 61) #[] #[])).run Try.prog (w.alloc (.map (opsUpto 4) 4)) = .ok () (w.alloc (.map (opsUpto 5) 5)) := fun w => upd_alloc w _ _ _ _ _ _ _ Try.underlying57 Try.underlying3 rfl
  have u5 : ∀ w : World, (Instr.mapUpdate 57 (.map (some w.heap.size)) (.int .i64 9) (.func (.func 62) #[] #[])).run Try.prog (w.alloc (.map (opsUpto 5) 5)) = .ok () (w.alloc (.map (opsUpto 6) 6)) := fun w => upd_alloc w _ _ _ _ _ _ _ Try.underlying57 Try.underlying3 rfl
  have u6 : ∀ w : World, (Instr.mapUpdate 57 (.map (some w.heap.size)) (.int .i64 10) (.func (.func 63) #[] #[])).run Try.prog (w.alloc (.map (opsUpto 6) 6)) = .ok () (w.alloc (.map opsMap 7)) := fun w => upd_alloc w _ _ _ _ _ _ _ Try.underlying57 Try.underlying3 rfl
  go_enter Try.func37, Try.ntmps37
  go_wp2
  go_ret
  exact ⟨rfl, rfl⟩
theorem opsMap_miss (k : Int) (h : k < 4 ∨ 10 < k) : Instr.findNow (.int .i64) (.int .i64 k) opsMap.toList 0 = some none := by
  have h4 : (k == 4) = false := beq_eq_false_iff_ne.mpr (by omega)
  have h5 : (k == 5) = false := beq_eq_false_iff_ne.mpr (by omega)
  have h6 : (k == 6) = false := beq_eq_false_iff_ne.mpr (by omega)
  have h7 : (k == 7) = false := beq_eq_false_iff_ne.mpr (by omega)
  have h8 : (k == 8) = false := beq_eq_false_iff_ne.mpr (by omega)
  have h9 : (k == 9) = false := beq_eq_false_iff_ne.mpr (by omega)
  have h10 : (k == 10) = false := beq_eq_false_iff_ne.mpr (by omega)
  simp [opsMap, Instr.findNow, Instr.sameNow, h4, h5, h6, h7, h8, h9, h10]
/-- What the operators give, before it is wrapped. -/
def opI (op x y : Int) : Int := if op = 4 then x + y else if op = 5 then x - y else if op = 6 then x * y else if op = 7 then (if y = 0 then 0 else Int.tdiv x y) else if op = 8 then (if y = 0 then x else Int.tmod x y) else if op = 9 then (if y < x then y else x) else if op = 10 then (if x < y then y else x) else 0
def num_Op.f (a0 : Int) (a1 : Int) (a2 : Int) : Option (Int) := some (wrap32 (opI a0 (wrap32 a1) (wrap32 a2)))
theorem wrap32_range (x : Int) : -2147483648 ≤ wrap32 x ∧ wrap32 x ≤ 2147483647 := by unfold wrap32; omega
theorem wrap32_of (x : Int) (h0 : -2147483648 ≤ x) (h1 : x ≤ 2147483647) : wrap32 x = x := by unfold wrap32; omega
theorem num_Wrap_same (x : Int) (w : World) : Calls Try.prog 26 #[.int .i64 x] w fun e w' => e = .returned (.int .i64 (wrap32 x)) ∧ w = w' := by
  have hr := wrap32_range x
  go_enter Try.func26, Try.ntmps26
  go_wp2
  go_ret
  exact ⟨by first | rfl | (congr 2; unfold wrap64; omega), rfl⟩
set_option maxHeartbeats 400000 in
set_option maxRecDepth 100000 in
theorem num_Op_miss (a0 a1 a2 : Int) (w : World) (h : a0 < 4 ∨ 10 < a0) :
    Calls Try.prog 11 #[.int .i64 a0, .int .i64 a1, .int .i64 a2] w fun e w' => e = .returned (.int .i64 0) ∧ Below w.heap.size w w' := by
  have hl : (Instr.lookup 57 (.map (some w.heap.size)) (.int .i64 a0) true).run Try.prog (w.alloc (.map opsMap 7)) = .ok (.tuple #[.nilFunc, .bool false]) (w.alloc (.map opsMap 7)) :=
    look_miss _ _ _ _ _ opsMap 7 _ _ Try.underlying57 Try.underlying3 (by kernel_rfl) (by unfold World.alloc; simp) (opsMap_miss a0 h)
  clear h
  go_enter Try.func11, Try.ntmps11
  go_wp2_with (go_at_call 37; refine (num_operators_calls _).mono ?_; rintro e w' ⟨rfl, rfl⟩)
  go_ret
  exact ⟨rfl, (Below.refl _ _).alloc (Nat.le_refl _) _⟩

theorem op_add (x y : Int) (w : World) (hx : -2147483648 ≤ x ∧ x ≤ 2147483647) (hy : -2147483648 ≤ y ∧ y ≤ 2147483647) : Calls Try.prog 57 #[.int .i64 x, .int .i64 y] w fun e w' => e = .returned (.int .i64 (x + y)) ∧ w = w' := by
  go_enter Try.func57, Try.ntmps57
  go_wp2
  go_ret
  exact ⟨by first | rfl | (congr 2; unfold wrap64; omega), rfl⟩
theorem op_sub (x y : Int) (w : World) (hx : -2147483648 ≤ x ∧ x ≤ 2147483647) (hy : -2147483648 ≤ y ∧ y ≤ 2147483647) : Calls Try.prog 58 #[.int .i64 x, .int .i64 y] w fun e w' => e = .returned (.int .i64 (x - y)) ∧ w = w' := by
  go_enter Try.func58, Try.ntmps58
  go_wp2
  go_ret
  exact ⟨by first | rfl | (congr 2; unfold wrap64; omega), rfl⟩
theorem mul_range (x y : Int) (hx : -2147483648 ≤ x ∧ x ≤ 2147483647) (hy : -2147483648 ≤ y ∧ y ≤ 2147483647) : -4611686018427387904 ≤ x * y ∧ x * y ≤ 4611686018427387904 := by
  have h : (x * y).natAbs ≤ 2147483648 * 2147483648 := by rw [Int.natAbs_mul]; exact Nat.mul_le_mul (by omega) (by omega)
  omega
theorem op_mul (x y : Int) (w : World) (hx : -2147483648 ≤ x ∧ x ≤ 2147483647) (hy : -2147483648 ≤ y ∧ y ≤ 2147483647) : Calls Try.prog 59 #[.int .i64 x, .int .i64 y] w fun e w' => e = .returned (.int .i64 (x * y)) ∧ w = w' := by
  have hm := mul_range x y hx hy
  have hw : wrap64 (x * y) = x * y := by unfold wrap64; omega
  clear hm
  have HW := Aside0.mk hw
  clear hw
  go_enter Try.func59, Try.ntmps59
  go_wp2
  go_ret
  exact ⟨by first | rfl | (rw [HW.out]; rfl) | (congr 2; unfold wrap64; omega), rfl⟩
theorem tdiv_range (x y : Int) (hx : -2147483648 ≤ x ∧ x ≤ 2147483647) : -2147483648 ≤ Int.tdiv x y ∧ Int.tdiv x y ≤ 2147483648 := by
  have h : (Int.tdiv x y).natAbs ≤ 2147483648 := by rw [Int.natAbs_tdiv]; exact Nat.le_trans (Nat.div_le_self _ _) (by omega)
  omega
theorem op_div (x y : Int) (w : World) (hx : -2147483648 ≤ x ∧ x ≤ 2147483647) (hy : -2147483648 ≤ y ∧ y ≤ 2147483647) : Calls Try.prog 60 #[.int .i64 x, .int .i64 y] w fun e w' => e = .returned (.int .i64 (if y = 0 then 0 else Int.tdiv x y)) ∧ w = w' := by
  have hd := tdiv_range x y hx
  have hw : wrap64 (Int.tdiv x y) = Int.tdiv x y := by unfold wrap64; omega
  have HW := Aside0.mk hw
  clear hw hd
  by_cases h0 : y = 0
  · subst h0
    go_enter Try.func60, Try.ntmps60
    go_wp2
    go_ret
    exact ⟨rfl, rfl⟩
  · have e1 : (y == 0) = false := beq_eq_false_iff_ne.mpr h0
    rw [if_neg h0]
    go_enter Try.func60, Try.ntmps60
    go_wp2
    go_ret
    exact ⟨by first | rfl | (rw [HW.out]; rfl), rfl⟩
theorem op_mod (x y : Int) (w : World) (hx : -2147483648 ≤ x ∧ x ≤ 2147483647) (hy : -2147483648 ≤ y ∧ y ≤ 2147483647) : Calls Try.prog 61 #[.int .i64 x, .int .i64 y] w fun e w' => e = .returned (.int .i64 (if y = 0 then x else Int.tmod x y)) ∧ w = w' := by
  by_cases h0 : y = 0
  · subst h0
    go_enter Try.func61, Try.ntmps61
    go_wp2
    go_ret
    exact ⟨rfl, rfl⟩
  · have e1 : (y == 0) = false := beq_eq_false_iff_ne.mpr h0
    rw [if_neg h0]
    go_enter Try.func61, Try.ntmps61
    go_wp2
    go_ret
    exact ⟨by first | rfl | (rw [HW.out]; rfl), rfl⟩
theorem ret_i64 {a b : Int} (h : a = b) : Ending.returned (.int .i64 a) = Ending.returned (.int .i64 b) := by rw [h]
theorem op_min (x y : Int) (w : World) : Calls Try.prog 62 #[.int .i64 x, .int .i64 y] w fun e w' => e = .returned (.int .i64 (if y < x then y else x)) ∧ w = w' := by
  go_enter Try.func62, Try.ntmps62
  go_wp2
  all_goals
    go_ret
    exact ⟨ret_i64 (by first | rfl | (simp only [mn, mx]; split <;> omega) | (split <;> omega)), rfl⟩
theorem op_max (x y : Int) (w : World) : Calls Try.prog 63 #[.int .i64 x, .int .i64 y] w fun e w' => e = .returned (.int .i64 (if x < y then y else x)) ∧ w = w' := by
  go_enter Try.func63, Try.ntmps63
  go_wp2
  all_goals
    go_ret
    exact ⟨ret_i64 (by first | rfl | (simp only [mn, mx]; split <;> omega) | (split <;> omega)), rfl⟩

set_option maxHeartbeats 400000 in
set_option maxRecDepth 100000 in
theorem num_Op_add (a1 a2 r : Int) (w : World) (hc : ∀ W : World, Calls Try.prog 57 #[.int .i64 (wrap32 a1), .int .i64 (wrap32 a2)] W fun e w' => e = .returned (.int .i64 r) ∧ W = w') :
    Calls Try.prog 11 #[.int .i64 4, .int .i64 a1, .int .i64 a2] w fun e w' => e = .returned (.int .i64 (wrap32 r)) ∧ Below w.heap.size w w' := by
  have hl : (Instr.lookup 57 (.map (some w.heap.size)) (.int .i64 4) true).run Try.prog (w.alloc (.map opsMap 7)) = .ok (.tuple #[.func (.func 57) #[] #[], .bool true]) (w.alloc (.map opsMap 7)) :=
    look_hit _ _ _ _ _ opsMap 7 _ 0 _ Try.underlying57 Try.underlying3 (by unfold World.alloc; simp) rfl
  have HC := Aside0.mk hc
  clear hc
  go_enter Try.func11, Try.ntmps11
  go_wp2_with (first | (go_at_call 37; refine (num_operators_calls _).mono ?_; rintro e w' ⟨rfl, rfl⟩) | (go_at_call 26; refine (num_Wrap_same _ _).mono ?_; rintro e w' ⟨rfl, rfl⟩) | (go_at_call 57; refine (HC.out _).mono ?_; rintro e w' ⟨rfl, rfl⟩))
  go_ret
  exact ⟨rfl, (Below.refl _ _).alloc (Nat.le_refl _) _⟩

set_option maxHeartbeats 400000 in
set_option maxRecDepth 100000 in
theorem num_Op_sub (a1 a2 r : Int) (w : World) (hc : ∀ W : World, Calls Try.prog 58 #[.int .i64 (wrap32 a1), .int .i64 (wrap32 a2)] W fun e w' => e = .returned (.int .i64 r) ∧ W = w') :
    Calls Try.prog 11 #[.int .i64 5, .int .i64 a1, .int .i64 a2] w fun e w' => e = .returned (.int .i64 (wrap32 r)) ∧ Below w.heap.size w w' := by
  have hl : (Instr.lookup 57 (.map (some w.heap.size)) (.int .i64 5) true).run Try.prog (w.alloc (.map opsMap 7)) = .ok (.tuple #[.func (.func 58) #[] #[], .bool true]) (w.alloc (.map opsMap 7)) :=
    look_hit _ _ _ _ _ opsMap 7 _ 1 _ Try.underlying57 Try.underlying3 (by unfold World.alloc; simp) rfl
  have HC := Aside0.mk hc
  clear hc
  go_enter Try.func11, Try.ntmps11
  go_wp2_with (first | (go_at_call 37; refine (num_operators_calls _).mono ?_; rintro e w' ⟨rfl, rfl⟩) | (go_at_call 26; refine (num_Wrap_same _ _).mono ?_; rintro e w' ⟨rfl, rfl⟩) | (go_at_call 58; refine (HC.out _).mono ?_; rintro e w' ⟨rfl, rfl⟩))
  go_ret
  exact ⟨rfl, (Below.refl _ _).alloc (Nat.le_refl _) _⟩

set_option maxHeartbeats 400000 in
set_option maxRecDepth 100000 in
theorem num_Op_mul (a1 a2 r : Int) (w : World) (hc : ∀ W : World, Calls Try.prog 59 #[.int .i64 (wrap32 a1), .int .i64 (wrap32 a2)] W fun e w' => e = .returned (.int .i64 r) ∧ W = w') :
    Calls Try.prog 11 #[.int .i64 6, .int .i64 a1, .int .i64 a2] w fun e w' => e = .returned (.int .i64 (wrap32 r)) ∧ Below w.heap.size w w' := by
  have hl : (Instr.lookup 57 (.map (some w.heap.size)) (.int .i64 6) true).run Try.prog (w.alloc (.map opsMap 7)) = .ok (.tuple #[.func (.func 59) #[] #[], .bool true]) (w.alloc (.map opsMap 7)) :=
    look_hit _ _ _ _ _ opsMap 7 _ 2 _ Try.underlying57 Try.underlying3 (by unfold World.alloc; simp) rfl
  have HC := Aside0.mk hc
  clear hc
  go_enter Try.func11, Try.ntmps11
  go_wp2_with (first | (go_at_call 37; refine (num_operators_calls _).mono ?_; rintro e w' ⟨rfl, rfl⟩) | (go_at_call 26; refine (num_Wrap_same _ _).mono ?_; rintro e w' ⟨rfl, rfl⟩) | (go_at_call 59; refine (HC.out _).mono ?_; rintro e w' ⟨rfl, rfl⟩))
  go_ret
  exact ⟨rfl, (Below.refl _ _).alloc (Nat.le_refl _) _⟩

set_option maxHeartbeats 400000 in
set_option maxRecDepth 100000 in
theorem num_Op_div (a1 a2 r : Int) (w : World) (hc : ∀ W : World, Calls Try.prog 60 #[.int .i64 (wrap32 a1), .int .i64 (wrap32 a2)] W fun e w' => e = .returned (.int .i64 r) ∧ W = w') :
    Calls Try.prog 11 #[.int .i64 7, .int .i64 a1, .int .i64 a2] w fun e w' => e = .returned (.int .i64 (wrap32 r)) ∧ Below w.heap.size w w' := by
  have hl : (Instr.lookup 57 (.map (some w.heap.size)) (.int .i64 7) true).run Try.prog (w.alloc (.map opsMap 7)) = .ok (.tuple #[.func (.func 60) #[] #[], .bool true]) (w.alloc (.map opsMap 7)) :=
    look_hit _ _ _ _ _ opsMap 7 _ 3 _ Try.underlying57 Try.underlying3 (by unfold World.alloc; simp) rfl
  have HC := Aside0.mk hc
  clear hc
  go_enter Try.func11, Try.ntmps11
  go_wp2_with (first | (go_at_call 37; refine (num_operators_calls _).mono ?_; rintro e w' ⟨rfl, rfl⟩) | (go_at_call 26; refine (num_Wrap_same _ _).mono ?_; rintro e w' ⟨rfl, rfl⟩) | (go_at_call 60; refine (HC.out _).mono ?_; rintro e w' ⟨rfl, rfl⟩))
  go_ret
  exact ⟨rfl, (Below.refl _ _).alloc (Nat.le_refl _) _⟩

set_option maxHeartbeats 400000 in
set_option maxRecDepth 100000 in
theorem num_Op_mod (a1 a2 r : Int) (w : World) (hc : ∀ W : World, Calls Try.prog 61 #[.int .i64 (wrap32 a1), .int .i64 (wrap32 a2)] W fun e w' => e = .returned (.int .i64 r) ∧ W = w') :
    Calls Try.prog 11 #[.int .i64 8, .int .i64 a1, .int .i64 a2] w fun e w' => e = .returned (.int .i64 (wrap32 r)) ∧ Below w.heap.size w w' := by
  have hl : (Instr.lookup 57 (.map (some w.heap.size)) (.int .i64 8) true).run Try.prog (w.alloc (.map opsMap 7)) = .ok (.tuple #[.func (.func 61) #[] #[], .bool true]) (w.alloc (.map opsMap 7)) :=
    look_hit _ _ _ _ _ opsMap 7 _ 4 _ Try.underlying57 Try.underlying3 (by unfold World.alloc; simp) rfl
  have HC := Aside0.mk hc
  clear hc
  go_enter Try.func11, Try.ntmps11
  go_wp2_with (first | (go_at_call 37; refine (num_operators_calls _).mono ?_; rintro e w' ⟨rfl, rfl⟩) | (go_at_call 26; refine (num_Wrap_same _ _).mono ?_; rintro e w' ⟨rfl, rfl⟩) | (go_at_call 61; refine (HC.out _).mono ?_; rintro e w' ⟨rfl, rfl⟩))
  go_ret
  exact ⟨rfl, (Below.refl _ _).alloc (Nat.le_refl _) _⟩

set_option maxHeartbeats 400000 in
set_option maxRecDepth 100000 in
theorem num_Op_min (a1 a2 r : Int) (w : World) (hc : ∀ W : World, Calls Try.prog 62 #[.int .i64 (wrap32 a1), .int .i64 (wrap32 a2)] W fun e w' => e = .returned (.int .i64 r) ∧ W = w') :
    Calls Try.prog 11 #[.int .i64 9, .int .i64 a1, .int .i64 a2] w fun e w' => e = .returned (.int .i64 (wrap32 r)) ∧ Below w.heap.size w w' := by
  have hl : (Instr.lookup 57 (.map (some w.heap.size)) (.int .i64 9) true).run Try.prog (w.alloc (.map opsMap 7)) = .ok (.tuple #[.func (.func 62) #[] #[], .bool true]) (w.alloc (.map opsMap 7)) :=
    look_hit _ _ _ _ _ opsMap 7 _ 5 _ Try.underlying57 Try.underlying3 (by unfold World.alloc; simp) rfl
  have HC := Aside0.mk hc
  clear hc
  go_enter Try.func11, Try.ntmps11
  go_wp2_with (first | (go_at_call 37; refine (num_operators_calls _).mono ?_; rintro e w' ⟨rfl, rfl⟩) | (go_at_call 26; refine (num_Wrap_same _ _).mono ?_; rintro e w' ⟨rfl, rfl⟩) | (go_at_call 62; refine (HC.out _).mono ?_; rintro e w' ⟨rfl, rfl⟩))
  go_ret
  exact ⟨rfl, (Below.refl _ _).alloc (Nat.le_refl _) _⟩

set_option maxHeartbeats 400000 in
set_option maxRecDepth 100000 in
theorem num_Op_max (a1 a2 r : Int) (w : World) (hc : ∀ W : World, Calls Try.prog 63 #[.int .i64 (wrap32 a1), .int .i64 (wrap32 a2)] W fun e w' => e = .returned (.int .i64 r) ∧ W = w') :
    Calls Try.prog 11 #[.int .i64 10, .int .i64 a1, .int .i64 a2] w fun e w' => e = .returned (.int .i64 (wrap32 r)) ∧ Below w.heap.size w w' := by
  have hl : (Instr.lookup 57 (.map (some w.heap.size)) (.int .i64 10) true).run Try.prog (w.alloc (.map opsMap 7)) = .ok (.tuple #[.func (.func 63) #[] #[], .bool true]) (w.alloc (.map opsMap 7)) :=
    look_hit _ _ _ _ _ opsMap 7 _ 6 _ Try.underlying57 Try.underlying3 (by unfold World.alloc; simp) rfl
  have HC := Aside0.mk hc
  clear hc
  go_enter Try.func11, Try.ntmps11
  go_wp2_with (first | (go_at_call 37; refine (num_operators_calls _).mono ?_; rintro e w' ⟨rfl, rfl⟩) | (go_at_call 26; refine (num_Wrap_same _ _).mono ?_; rintro e w' ⟨rfl, rfl⟩) | (go_at_call 63; refine (HC.out _).mono ?_; rintro e w' ⟨rfl, rfl⟩))
  go_ret
  exact ⟨rfl, (Below.refl _ _).alloc (Nat.le_refl _) _⟩

theorem num_Op.calls (a0 : Int) (a1 : Int) (a2 : Int) (r : Int) (w : World) (h : num_Op.f a0 a1 a2 = some r) :
    Calls Try.prog 11 #[.int .i64 a0, .int .i64 a1, .int .i64 a2] w fun e w' => e = .returned (.int .i64 r) ∧ Below w.heap.size w w' := by
  obtain rfl := Option.some.inj h
  clear h
  have hx := wrap32_range a1
  have hy := wrap32_range a2
  by_cases h0 : a0 < 4 ∨ 10 < a0
  · have e0 : wrap32 (opI a0 (wrap32 a1) (wrap32 a2)) = 0 := by
      unfold opI
      rw [if_neg (by omega), if_neg (by omega), if_neg (by omega), if_neg (by omega), if_neg (by omega), if_neg (by omega), if_neg (by omega)]; unfold wrap32; omega
    rw [e0]
    exact num_Op_miss a0 a1 a2 w h0
  · rcases (show a0 = 4 ∨ a0 = 5 ∨ a0 = 6 ∨ a0 = 7 ∨ a0 = 8 ∨ a0 = 9 ∨ a0 = 10 by omega) with rfl | rfl | rfl | rfl | rfl | rfl | rfl
    · exact num_Op_add a1 a2 _ w (fun W => op_add _ _ W hx hy)
    · exact num_Op_sub a1 a2 _ w (fun W => op_sub _ _ W hx hy)
    · exact num_Op_mul a1 a2 _ w (fun W => op_mul _ _ W hx hy)
    · exact num_Op_div a1 a2 _ w (fun W => op_div _ _ W hx hy)
    · exact num_Op_mod a1 a2 _ w (fun W => op_mod _ _ W hx hy)
    · exact num_Op_min a1 a2 _ w (fun W => op_min _ _ W)
    · exact num_Op_max a1 a2 _ w (fun W => op_max _ _ W)

end Go.Proofs.Ytbbnefpjnjjibaa.NumOp
/-! Sets of values: plain definitions. -/
namespace Go.Proofs.Ytbbnefpjnjjibaa.Span
set_option linter.unusedVariables false
set_option linter.unusedSimpArgs false
set_option linter.unusedSectionVars false
set_option linter.unnecessarySimpa false
open Go.Proofs.Ytbbnefpjnjjibaa.Ev
/-- Of 32 bits. -/
def w32 (n : Int) : Int := (n + 2147483648) % 4294967296 - 2147483648
/-- What the operators give, before it is wrapped. -/
def opJ (op x y : Int) : Int := if op = 4 then x + y else if op = 5 then x - y else if op = 6 then x * y else if op = 7 then (if y = 0 then 0 else Int.tdiv x y) else if op = 8 then (if y = 0 then x else Int.tmod x y) else if op = 9 then (if y < x then y else x) else if op = 10 then (if x < y then y else x) else 0
def opG (op a b : Int) : Int := w32 (opJ op (w32 a) (w32 b))
structure Abs where
  lo : Int
  hi : Int
  m : Int
  r : Int
  mask : Int
  deriving DecidableEq
abbrev MinI : Int := -2147483648
abbrev MaxI : Int := 2147483647
/-- Valid sets. -/
def VA (a : Abs) : Prop :=
  -2147483648 ≤ a.lo ∧ a.lo ≤ a.hi ∧ a.hi ≤ 2147483647 ∧ 0 ≤ a.mask ∧ a.mask ≤ 255 ∧ 1 ≤ a.m ∧
  (a.lo = a.hi → a.m = 1 ∧ a.r = 0) ∧ (a.lo ≠ a.hi → a.m ≤ a.hi - a.lo ∧ (a.hi - a.lo) % a.m = 0 ∧ a.r = a.lo % a.m)
instance (a : Abs) : Decidable (VA a) := by unfold VA; exact inferInstance
def validF (a : Abs) : Bool := decide (VA a)
def gcdL (a : Int) (l : List Int) : Int := (l.foldl (fun (g : Nat) (b : Int) => Nat.gcd g b.natAbs) a.natAbs : Nat)
def stepF (a : Abs) : Int := if a.lo = a.hi then 0 else a.m
def topF (lo hi m : Int) : Int := if m > 0 then hi - (hi - lo) % m else hi
def byF (lo hi m mask : Int) : Abs :=
  if lo = topF lo hi m then ⟨lo, lo, 1, 0, mask⟩ else ⟨lo, topF lo hi m, m, lo % m, mask⟩
def likeF (r m lo hi mask : Int) : Abs := byF (lo + (r - lo) % m) hi m mask
def orM (a b : Int) : Int := (a.toNat ||| b.toNat : Nat)
def andM (a b : Int) : Int := (a.toNat &&& b.toNat : Nat)
def subB (a b : Int) : Bool := (a.toNat ||| b.toNat) == b.toNat
def withinF (a : Abs) (v : Int) : Bool := decide (a.lo ≤ v) && (decide (v ≤ a.hi) && decide ((v - a.lo) % a.m = 0))
def hasF (a : Abs) (v mask : Int) : Bool := withinF a v && subB mask a.mask
def absI (a : Int) : Int := a.natAbs
def apartF (a b : Abs) : Int := gcdL (stepF a) [stepF b, absI (a.lo - b.lo)]
def joinF (a b : Abs) : Abs := byF (min a.lo b.lo) (max a.hi b.hi) (apartF a b) (orM a.mask b.mask)
def leqF (a b : Abs) : Bool := decide (joinF a b = b)
def ofF (v mask : Int) : Abs := ⟨v, v, 1, 0, mask⟩
def allF (mask : Int) : Abs := ⟨-2147483648, 2147483647, 1, 0, mask⟩
def valB (a : Int) : Bool := decide (-2147483648 ≤ a) && decide (a ≤ 2147483647)
def andW (a b : Int) : Int := bitI .and .i64 a b
def boundF (mask lo hi m : Int) : Abs := if valB lo && valB hi then byF lo hi m mask else likeF lo (gcdL 4294967296 [m]) (-2147483648) 2147483647 mask
def addF (a b : Abs) (mask : Int) : Abs := boundF mask (a.lo + b.lo) (a.hi + b.hi) (gcdL (stepF a) [stepF b])
def subF (a b : Abs) (mask : Int) : Abs := boundF mask (a.lo - b.hi) (a.hi - b.lo) (gcdL (stepF a) [stepF b])
def mulF (a b : Abs) (mask : Int) : Abs :=
  boundF mask (min (min (min (a.lo * b.lo) (a.lo * b.hi)) (a.hi * b.lo)) (a.hi * b.hi)) (max (max (max (a.lo * b.lo) (a.lo * b.hi)) (a.hi * b.lo)) (a.hi * b.hi))
    (gcdL (absI a.lo * stepF b) [absI b.lo * stepF a, stepF a * stepF b])
def divLo (a b : Abs) : Int := if stepF b = 0 ∧ b.lo ≠ 0 then min (a.lo.tdiv b.lo) (a.hi.tdiv b.lo) else if a.lo < 0 ∨ b.lo < 0 then - max (absI a.lo) (absI a.hi) else 0
def divHi (a b : Abs) : Int := if stepF b = 0 ∧ b.lo ≠ 0 then max (a.lo.tdiv b.lo) (a.hi.tdiv b.lo) else if a.lo < 0 ∨ b.lo < 0 then max (absI a.lo) (absI a.hi) else a.hi
def divF (a b : Abs) (mask : Int) : Abs := if valB (divLo a b) && valB (divHi a b) then byF (divLo a b) (divHi a b) 1 mask else allF mask
def remF (a b : Abs) (mask : Int) : Abs :=
  if stepF b ≠ 0 then byF (min a.lo 0) (max a.hi 0) 1 mask
  else if absI b.lo = 0 ∨ (0 ≤ a.lo ∧ a.hi < absI b.lo) then { a with mask := mask }
  else likeF a.lo (gcdL (stepF a) [absI b.lo]) (max (min a.lo 0) (1 - absI b.lo)) (min (max a.hi 0) (absI b.lo - 1)) mask
def lesserF (a b : Abs) (mask : Int) : Abs := byF (min a.lo b.lo) (min a.hi b.hi) (apartF a b) mask
def greaterF (a b : Abs) (mask : Int) : Abs := byF (max a.lo b.lo) (max a.hi b.hi) (apartF a b) mask
def opA (op : Int) (a b : Abs) : Abs :=
  if (stepF a = 0 ∧ stepF b = 0) ∨ op < 4 ∨ 10 < op then ofF (opG op a.lo b.lo) (orM a.mask b.mask)
  else if op = 4 then addF a b (orM a.mask b.mask) else if op = 5 then subF a b (orM a.mask b.mask) else if op = 6 then mulF a b (orM a.mask b.mask)
  else if op = 7 then divF a b (orM a.mask b.mask) else if op = 8 then remF a b (orM a.mask b.mask) else if op = 9 then lesserF a b (orM a.mask b.mask) else greaterF a b (orM a.mask b.mask)
def madeLo (lo : Int) : Int := w32 lo
def madeM (m : Int) : Int := 1 + m % 1048576
def madeF (lo n m mask : Int) : Abs :=
  byF (w32 lo) (min (w32 lo + n % 2147483648 / madeM m * madeM m) (2147483647 - (2147483647 - w32 lo) % madeM m)) (madeM m) (mask % 256)
def atV (a : Abs) (n : Int) : Int := a.lo + n % ((a.hi - a.lo) / a.m + 1) * a.m
/-- What is asked of the arguments. -/
def okN (n : Int) : Bool := decide (-1099511627776 ≤ n) && decide (n ≤ 1099511627776)
def okW (n : Int) : Bool := decide (-4611686018427387904 ≤ n) && decide (n ≤ 4611686018427387904)
def okV (n : Int) : Bool := decide (-9223372036854775807 ≤ n) && decide (n ≤ 9223372036854775807)
def okMod (m : Int) : Bool := decide (0 < m) && okW m
def okBy (lo hi m : Int) : Bool := okN lo && (okN hi && (okV m && (decide (lo ≤ hi) && (decide (0 ≤ m) && decide (m = 0 → lo = hi)))))
def okLike (r m lo hi : Int) : Bool := okW r && (okN lo && (okN hi && (decide (0 < m) && (okW m && decide (lo + (r - lo) % m ≤ hi)))))
def okBnd (lo hi m : Int) : Bool := okW lo && (okW hi && (okV m && (decide (lo ≤ hi) && (decide (0 ≤ m) && decide (m = 0 → lo = hi)))))
def okL (l : List Int) : Bool := l.all okV && decide (l.length ≤ 1000)
def okM (n : Int) : Bool := decide (0 ≤ n) && decide (n ≤ 255)
def okMul (a b : Abs) : Bool := okW (stepF a * stepF b)
theorem okN_iff {n : Int} : okN n = true ↔ -1099511627776 ≤ n ∧ n ≤ 1099511627776 := by simp [okN]
theorem okW_iff {n : Int} : okW n = true ↔ -4611686018427387904 ≤ n ∧ n ≤ 4611686018427387904 := by simp [okW]
theorem okV_iff {n : Int} : okV n = true ↔ -9223372036854775807 ≤ n ∧ n ≤ 9223372036854775807 := by simp [okV]
theorem wrap_of {n : Int} (h0 : -9223372036854775808 ≤ n) (h1 : n ≤ 9223372036854775807) : IntKind.i64.wrap n = n := by
  have e : IntKind.i64.wrap n = if n % 18446744073709551616 ≥ 9223372036854775808 then n % 18446744073709551616 - 18446744073709551616 else n % 18446744073709551616 := by
    simp [IntKind.wrap, IntKind.bits, IntKind.signed]
  rw [e]; split <;> omega
theorem emod_le {x m : Int} (h : 0 ≤ x) (hm : 0 < m) : x % m ≤ x := by
  have h1 := Int.mul_ediv_add_emod x m
  have h2 : 0 ≤ m * (x / m) := Int.mul_nonneg (by omega) (Int.ediv_nonneg h (by omega))
  omega
theorem mnI_eq (a b : Int) : mnI a b = min a b := by unfold mnI; split <;> omega
theorem mxI_eq (a b : Int) : mxI a b = max a b := by unfold mxI; split <;> omega
end Go.Proofs.Ytbbnefpjnjjibaa.Span
/-! Expressions and conditions as trees; what slices of them hold. -/
namespace Go.Proofs.Ytbbnefpjnjjibaa.Num
set_option linter.unusedVariables false
set_option linter.unusedSimpArgs false
set_option linter.unusedSectionVars false
set_option linter.unnecessarySimpa false
open Go.Proofs.Ytbbnefpjnjjibaa.Ev Go.RowKit Go.Proofs.Ytbbnefpjnjjibaa.Span
inductive E where
  | mk (op n v : Int) (a : List E)
inductive C where
  | mk (op : Int) (a : List E) (c : List C)
def E.op : E → Int | .mk o _ _ _ => o
def E.n : E → Int | .mk _ n _ _ => n
def E.v : E → Int | .mk _ _ v _ => v
def E.a : E → List E | .mk _ _ _ a => a
def C.op : C → Int | .mk o _ _ => o
def C.a : C → List E | .mk _ a _ => a
def C.c : C → List C | .mk _ _ c => c
def zE : E := .mk 0 0 0 []
def zC : C := .mk 0 [] []
inductive Tok where
  | ints (l : List Int)
  | es (l : List E)
  | cs (l : List C)
def tlen : Tok → Nat
  | .ints l => l.length
  | .es l => l.length
  | .cs l => l.length
def tsz : Tok → Nat
  | .ints _ => 1
  | .es _ => 4
  | .cs _ => 3
def tcells : Tok → Nat → List (AV Tok)
  | .ints l, i => [.int .i64 (l.getD i 0)]
  | .es l, i => [.int .i64 (l.getD i zE).op, .int .i64 (l.getD i zE).n, .int .i64 (l.getD i zE).v, .slc false (.es (l.getD i zE).a)]
  | .cs l, i => [.int .i64 (l.getD i zC).op, .slc false (.es (l.getD i zC).a), .slc false (.cs (l.getD i zC).c)]
def tsub : Tok → Nat → Nat → Tok
  | .ints l, a, b => .ints ((l.drop a).take (b - a))
  | .es l, a, b => .es ((l.drop a).take (b - a))
  | .cs l, a, b => .cs ((l.drop a).take (b - a))
theorem getD_sub {β : Type} (l : List β) (d : β) {a b i : Nat} (h : i < b - a) : ((l.drop a).take (b - a)).getD i d = l.getD (a + i) d := by
  simp only [List.getD_eq_getElem?_getD, List.getElem?_take, List.getElem?_drop, h, if_true]
def Itp : Interp Tok where
  len := tlen
  sz := tsz
  cells := tcells
  closed := fun t i L => by cases t <;> rfl
  sub := tsub
  sub_len := fun t a b h1 h2 => by cases t <;> simp only [tlen, tsub, List.length_take, List.length_drop] at * <;> omega
  sub_sz := fun t a b => by cases t <;> rfl
  sub_cells := fun t a b i h1 h2 h3 => by cases t <;> simp only [tcells, tsub, getD_sub _ _ h3]
abbrev V := AV Tok
abbrev Sp := List V → Tr V
@[reducible] def iA (n : Int) : V := .int .i64 n
theorem hm : Try.prog.follows .mixedOrders = true := by kernel_rfl
def encE (e : E) : V := .agg [iA e.op, iA e.n, iA e.v, .slc false (.es e.a)]
def encC (c : C) : V := .agg [iA c.op, .slc false (.es c.a), .slc false (.cs c.c)]
/-- What reads x reads y. -/
def Conv (x y : V) : Prop := ∀ {w : World} {M : Nat → Prop} {e : Nat → Option Nat} {v : Value}, Rep Itp w M e x v → Rep Itp w M e y v
theorem Conv.refl (x : V) : Conv x x := fun h => h
theorem conv_slc (f : Bool) (t : Tok) : Conv (.slc f t) (.slc false t) := by
  intro w M e v h
  cases h with
  | slcN _ _ ad cap h _ => exact .slcN _ _ ad cap h (fun h => by cases h)
  | slc _ _ b o cap vs h1 h2 h3 h4 => exact .slc _ _ b o cap vs h1 (fun h => by cases h) h3 h4
inductive ConvL : List V → List V → Prop
  | nil : ConvL [] []
  | cons {x y : V} {xs ys : List V} (h : Conv x y) (hs : ConvL xs ys) : ConvL (x :: xs) (y :: ys)
theorem ConvL.rep {xs ys : List V} (h : ConvL xs ys) {w : World} {M : Nat → Prop} {e : Nat → Option Nat} : ∀ {vs : List Value}, RepL Itp w M e xs vs → RepL Itp w M e ys vs := by
  induction h with
  | nil => intro vs h; exact h
  | cons h hs ih =>
    intro vs hr
    cases vs with
    | nil => simp [RepL] at hr
    | cons u us => exact RepL.cons (h (hr.2 0 _ u rfl rfl)) (ih ⟨by have := hr.1; simpa using this, fun j z t hz ht => hr.2 (j + 1) z t (by simpa using hz) (by simpa using ht)⟩)
theorem conv_agg {xs ys : List V} (h : ConvL xs ys) : Conv (.agg xs) (.agg ys) := by
  intro w M e v hr
  obtain ⟨cs, rfl, hc⟩ := hr.agg_inv
  exact Rep.aggL.2 (h.rep hc)
theorem ConvL.get {xs ys : List V} (h : ConvL xs ys) : ∀ {j : Nat} {y : V}, ys[j]? = some y → ∃ x, xs[j]? = some x ∧ Conv x y := by
  induction h with
  | nil => intro j y h; simp at h
  | cons h hs ih =>
    intro j y hy
    cases j with
    | zero => simp at hy; subst hy; exact ⟨_, rfl, h⟩
    | succ j => simp at hy; obtain ⟨x, hx, hc⟩ := ih hy; exact ⟨x, by simpa using hx, hc⟩
theorem conv_nil (z : Nat) (f : Bool) (t : Tok) (h : tlen t = 0) : Conv (.sli z []) (.slc f t) := by
  intro w M e v hr
  generalize hq : (AV.sli z [] : V) = q at hr
  cases hr with
  | sliN _ => exact .slcN _ _ _ _ h (fun _ => rfl)
  | sli _ xs b o vs _ _ =>
    obtain ⟨_, rfl⟩ := AV.sli.inj hq
    have := Rep.slc (I := Itp) (w := w) (M := M) (e := e) f t b o 0 (fun _ _ => Go.undef) (Nat.le_of_eq h) (fun _ => h) (fun i j x hi _ => absurd hi (by show ¬ i < tlen t; omega)) (fun i j x hi _ => absurd hi (by show ¬ i < tlen t; omega))
    rw [show Itp.len t = 0 from h] at this
    exact this
  | _ => cases hq
theorem conv_sli {sz : Nat} {xs : List (List V)} {t : Tok} (hl : tlen t = xs.length) (hs : tsz t = sz) (hc : ∀ i y, xs[i]? = some y → ConvL y (tcells t i)) : Conv (.sli sz xs) (.slc false t) := by
  intro w M e v hr
  generalize hq : (AV.sli sz xs : V) = q at hr
  cases hr with
  | sliN _ =>
    obtain ⟨_, rfl⟩ := AV.sli.inj hq
    exact .slcN _ _ _ _ hl (fun _ => rfl)
  | sli _ ys b o vs h1 h2 =>
    obtain ⟨rfl, rfl⟩ := AV.sli.inj hq
    rw [show xs.length = Itp.len t from hl.symm]
    refine .slc false t b o (Itp.len t) vs (Nat.le_refl _) (fun h => by cases h) (fun i j x hi hx => ?_) (fun i j x hi hx => ?_)
    · have hi' : i < xs.length := hl ▸ hi
      obtain ⟨y, hy, _⟩ := (hc i _ (List.getElem?_eq_getElem hi')).get hx
      rw [show Itp.sz t = sz from hs]
      exact h1 i j _ y (List.getElem?_eq_getElem hi') hy
    · have hi' : i < xs.length := hl ▸ hi
      obtain ⟨y, hy, hcv⟩ := (hc i _ (List.getElem?_eq_getElem hi')).get hx
      exact hcv (h2 i j _ y (List.getElem?_eq_getElem hi') hy)
  | _ => cases hq
/-- Contracts of arguments and results that read as others. -/
theorem call_conv {f : FuncId} {xs ys : List V} {x y : V} (h : CallOk Itp Try.prog f ys y) (hc : ConvL xs ys) (hr : Conv y x) : CallOk Itp Try.prog f xs x := by
  intro w M vs hM ha
  exact (h w M vs hM (hc.rep ha)).mono fun e w' ⟨u, he, hb, hu⟩ => ⟨u, he, hb, hr hu⟩
theorem getD_some {β : Type} {l : List β} {i : Nat} {d x : β} (h : l[i]? = some x) : l.getD i d = x := by rw [List.getD_eq_getElem?_getD, h]; rfl
/- Reading back: slices written out or not. -/
def decI1 : List V → Option Int
  | [.int .i64 n] => some n
  | _ => none
def mapO {α β : Type} (f : α → Option β) : List α → Option (List β)
  | [] => some []
  | x :: r => match f x, mapO f r with
    | some y, some s => some (y :: s)
    | _, _ => none
theorem mapO_get {α β : Type} {f : α → Option β} : ∀ {l : List α} {s : List β}, mapO f l = some s → s.length = l.length ∧ ∀ (i : Nat) x, l[i]? = some x → ∃ y, s[i]? = some y ∧ f x = some y
  | [], s, h => by simp only [mapO, Option.some.injEq] at h; subst h; exact ⟨rfl, fun i x h => by simp at h⟩
  | x :: r, s, h => by
    rw [mapO] at h
    split at h
    · rename_i y s' hy hs
      obtain rfl := Option.some.inj h
      obtain ⟨h1, h2⟩ := mapO_get hs
      refine ⟨by simp [h1], fun i z hz => ?_⟩
      cases i with
      | zero => simp at hz; subst hz; exact ⟨y, rfl, hy⟩
      | succ i => simp at hz; obtain ⟨q, hq, hf⟩ := h2 i z hz; exact ⟨q, by simpa using hq, hf⟩
    · cases h
def decI : V → Option (List Int)
  | .slc _ (.ints l) => some l
  | .sli _ [] => some []
  | .sli 1 xs => mapO decI1 xs
  | _ => none
def decE : Nat → V → Option (List E)
  | _, .slc _ (.es l) => some l
  | _, .sli _ [] => some []
  | n + 1, .sli 4 xs => mapO (fun y => match y with
    | [.int .i64 o, .int .i64 p, .int .i64 q, x] => (decE n x).map (E.mk o p q)
    | _ => none) xs
  | _, _ => none
def decC : Nat → V → Option (List C)
  | _, .slc _ (.cs l) => some l
  | _, .sli _ [] => some []
  | n + 1, .sli 3 xs => mapO (fun y => match y with
    | [.int .i64 o, x, z] => (match decE n x, decC n z with | some a, some c => some (C.mk o a c) | _, _ => none)
    | _ => none) xs
  | _, _ => none
theorem decI_conv {x : V} {l : List Int} (h : decI x = some l) : Conv x (.slc false (.ints l)) := by
  unfold decI at h
  split at h
  · obtain rfl := Option.some.inj h; exact conv_slc _ _
  · obtain rfl := Option.some.inj h; exact conv_nil _ _ _ rfl
  · rename_i xs _
    obtain ⟨h1, h2⟩ := mapO_get h
    refine conv_sli (t := .ints l) h1 rfl fun i y hy => ?_
    obtain ⟨n, hn, hd⟩ := h2 i y hy
    unfold decI1 at hd
    split at hd
    · obtain rfl := Option.some.inj hd
      simp only [tcells, getD_some hn]
      exact .cons (Conv.refl _) .nil
    · cases hd
  · cases h
theorem decE_conv : ∀ (n : Nat) (x : V) (l : List E), decE n x = some l → Conv x (.slc false (.es l)) := by
  intro n
  induction n with
  | zero =>
    intro x l h
    unfold decE at h
    split at h
    · obtain rfl := Option.some.inj h; exact conv_slc _ _
    · obtain rfl := Option.some.inj h; exact conv_nil _ _ _ rfl
    · rename_i heq; cases heq
    · cases h
  | succ n ih =>
    intro x l h
    unfold decE at h
    split at h
    · obtain rfl := Option.some.inj h; exact conv_slc _ _
    · obtain rfl := Option.some.inj h; exact conv_nil _ _ _ rfl
    · rename_i n' xs _ heq
      cases heq
      obtain ⟨h1, h2⟩ := mapO_get h
      refine conv_sli (t := .es l) h1 rfl fun i y hy => ?_
      obtain ⟨b, hb, hd⟩ := h2 i y hy
      split at hd
      · rename_i o p q z
        obtain ⟨a, ha, rfl⟩ := map_some_inv hd
        simp only [tcells, getD_some hb, E.op, E.n, E.v, E.a]
        exact .cons (Conv.refl _) (.cons (Conv.refl _) (.cons (Conv.refl _) (.cons (ih _ _ ha) .nil)))
      · cases hd
    · cases h
theorem decC_conv : ∀ (n : Nat) (x : V) (l : List C), decC n x = some l → Conv x (.slc false (.cs l)) := by
  intro n
  induction n with
  | zero =>
    intro x l h
    unfold decC at h
    split at h
    · obtain rfl := Option.some.inj h; exact conv_slc _ _
    · obtain rfl := Option.some.inj h; exact conv_nil _ _ _ rfl
    · rename_i heq; cases heq
    · cases h
  | succ n ih =>
    intro x l h
    unfold decC at h
    split at h
    · obtain rfl := Option.some.inj h; exact conv_slc _ _
    · obtain rfl := Option.some.inj h; exact conv_nil _ _ _ rfl
    · rename_i n' xs _ heq
      cases heq
      obtain ⟨h1, h2⟩ := mapO_get h
      refine conv_sli (t := .cs l) h1 rfl fun i y hy => ?_
      obtain ⟨b, hb, hd⟩ := h2 i y hy
      split at hd
      · rename_i o x z
        split at hd
        · rename_i a c ha hc
          obtain rfl := Option.some.inj hd
          simp only [tcells, getD_some hb, C.op, C.a, C.c]
          exact .cons (Conv.refl _) (.cons (decE_conv _ _ _ ha) (.cons (ih _ _ hc) .nil))
        · cases hd
      · cases hd
    · cases h
/-- A struct of an expression, of a condition. -/
def asE : V → Option E
  | .agg [.int .i64 o, .int .i64 p, .int .i64 q, x] => (decE 6 x).map (E.mk o p q)
  | _ => none
def asC : V → Option C
  | .agg [.int .i64 o, x, z] => (match decE 6 x, decC 6 z with | some a, some c => some (C.mk o a c) | _, _ => none)
  | _ => none
theorem asE_conv {x : V} {e : E} (h : asE x = some e) : Conv x (encE e) := by
  unfold asE at h
  split at h
  · obtain ⟨a, ha, rfl⟩ := map_some_inv h
    exact conv_agg (.cons (Conv.refl _) (.cons (Conv.refl _) (.cons (Conv.refl _) (.cons (decE_conv _ _ _ ha) .nil))))
  · cases h
theorem asC_conv {x : V} {c : C} (h : asC x = some c) : Conv x (encC c) := by
  unfold asC at h
  split at h
  · split at h
    · rename_i a c ha hc
      obtain rfl := Option.some.inj h
      exact conv_agg (.cons (Conv.refl _) (.cons (decE_conv _ _ _ ha) (.cons (decC_conv _ _ _ hc) .nil)))
    · cases h
  · cases h
end Go.Proofs.Ytbbnefpjnjjibaa.Num
/-! What the functions of package num do with trees, and what they are said to do. -/
namespace Go.Proofs.Ytbbnefpjnjjibaa.Num
set_option linter.unusedVariables false
set_option linter.unusedSimpArgs false
set_option linter.unusedSectionVars false
set_option linter.unnecessarySimpa false
open Go.Proofs.Ytbbnefpjnjjibaa.Ev Go.RowKit Go.Proofs.Ytbbnefpjnjjibaa.Span
def w64 (n : Int) : Int := IntKind.i64.wrap n
mutual
def bE : E → Nat
  | .mk _ _ _ a => 1 + bL a
def bL : List E → Nat
  | [] => 0
  | x :: r => bE x + bL r
end
mutual
def bC : C → Nat
  | .mk _ a c => 1 + bL a + bCL c
def bCL : List C → Nat
  | [] => 0
  | x :: r => bC x + bCL r
end
mutual
def wsE : E → Int
  | .mk _ _ _ a => wsL a 1
def wsL : List E → Int → Int
  | [], n => n
  | x :: r, n => wsL r (w64 (n + wsE x))
end
mutual
def wsC : C → Int
  | .mk _ a c => wsCL c (wsL a 1)
def wsCL : List C → Int → Int
  | [], n => n
  | x :: r, n => wsCL r (w64 (n + wsC x))
end
def elt (l : List Int) (n : Int) : Int := if 0 ≤ n ∧ n < l.length then l.getD n.toNat 0 else 0
def kidE (l : List E) (n : Int) : E := if 0 ≤ n ∧ n < l.length then l.getD n.toNat zE else zE
def kidC (l : List C) (n : Int) : C := if 0 ≤ n ∧ n < l.length then l.getD n.toNat zC else zC
def binB (op : Int) : Bool := decide (4 ≤ op) && decide (op ≤ 10)
mutual
def evE (vs ls : List Int) : E → Int
  | .mk op n v a => if op = 1 then w32 v else if op = 2 then w32 (elt vs n) else if op = 3 then w32 (elt ls n) else if binB op = true then opG op (ev0 vs ls a) (ev1 vs ls a) else 0
def ev0 (vs ls : List Int) : List E → Int
  | [] => 0
  | x :: _ => evE vs ls x
def ev1 (vs ls : List Int) : List E → Int
  | [] => 0
  | _ :: r => ev0 vs ls r
end
mutual
def hoC (vs ls : List Int) : C → Bool
  | .mk op a c => if op = 1 then true else if op = 2 then decide (ev0 vs ls a < ev1 vs ls a) else if op = 3 then decide (ev0 vs ls a ≤ ev1 vs ls a) else if op = 4 then decide (ev0 vs ls a = ev1 vs ls a)
    else if op = 5 then !ho0 vs ls c else if op = 6 then ho0 vs ls c && ho1 vs ls c else if op = 7 then ho0 vs ls c || ho1 vs ls c else false
def ho0 (vs ls : List Int) : List C → Bool
  | [] => false
  | x :: _ => hoC vs ls x
def ho1 (vs ls : List Int) : List C → Bool
  | [] => false
  | _ :: r => ho0 vs ls r
end
mutual
def dpE : E → Int
  | .mk op _ _ a => if binB op = true then max (max 0 (dp0 a)) (dp1 a) + 1 else 1
def dp0 : List E → Int
  | [] => 0
  | x :: _ => dpE x
def dp1 : List E → Int
  | [] => 0
  | _ :: r => dp0 r
end
mutual
def dpC : C → Int
  | .mk op a c => if op = 2 ∨ op = 3 ∨ op = 4 then max (max 0 (dp0 a)) (dp1 a) + 1 else if op = 5 then max 0 (dpc0 c) + 1 else if op = 6 ∨ op = 7 then max (max 0 (dpc0 c)) (dpc1 c) + 1 else 1
def dpc0 : List C → Int
  | [] => 0
  | x :: _ => dpC x
def dpc1 : List C → Int
  | [] => 0
  | _ :: r => dpc0 r
end
theorem eta_E (e : E) : E.mk e.op e.n e.v e.a = e := by cases e; rfl
theorem eta_C (c : C) : C.mk c.op c.a c.c = c := by cases c; rfl
theorem bL_mem : ∀ {l : List E} {x : E}, x ∈ l → bE x ≤ bL l
  | [], _, h => by cases h
  | y :: r, x, h => by
    rw [bL]
    rcases List.mem_cons.1 h with rfl | h
    · omega
    · have := bL_mem h; omega
theorem bCL_mem : ∀ {l : List C} {x : C}, x ∈ l → bC x ≤ bCL l
  | [], _, h => by cases h
  | y :: r, x, h => by
    rw [bCL]
    rcases List.mem_cons.1 h with rfl | h
    · omega
    · have := bCL_mem h; omega
theorem bE_pos (e : E) : 1 ≤ bE e := by cases e; rw [bE]; omega
theorem bC_pos (c : C) : 1 ≤ bC c := by cases c; rw [bC]; omega
/-- What the calls get smaller by. -/
def rE (e : E) : Nat := 2 * bE e + (bif binB e.op then 1 else 0)
def rC (c : C) : Nat := 2 * bC c + (bif decide (5 ≤ c.op) && decide (c.op ≤ 7) then 1 else 0)
theorem kidE_mem (a : List E) (i : Int) : kidE a i ∈ a ∨ kidE a i = zE := by
  unfold kidE
  split
  · rename_i h
    have hi : i.toNat < a.length := by omega
    exact .inl (by rw [List.getD_eq_getElem?_getD, List.getElem?_eq_getElem hi]; exact List.getElem_mem hi)
  · exact .inr rfl
theorem kidC_mem (a : List C) (i : Int) : kidC a i ∈ a ∨ kidC a i = zC := by
  unfold kidC
  split
  · rename_i h
    have hi : i.toNat < a.length := by omega
    exact .inl (by rw [List.getD_eq_getElem?_getD, List.getElem?_eq_getElem hi]; exact List.getElem_mem hi)
  · exact .inr rfl
theorem rE_le (e : E) : rE e ≤ 2 * bE e + 1 := by unfold rE; cases binB e.op <;> simp
theorem rC_le (c : C) : rC c ≤ 2 * bC c + 1 := by unfold rC; cases (decide (5 ≤ c.op) && decide (c.op ≤ 7)) <;> simp
theorem kidE_rank {op n v : Int} {a : List E} (h : binB op = true) (i : Int) : rE (kidE a i) < rE (.mk op n v a) := by
  have e : rE (.mk op n v a) = 2 * bE (.mk op n v a) + 1 := by unfold rE; rw [show (E.mk op n v a).op = op from rfl, h]; rfl
  rw [e, bE]
  rcases kidE_mem a i with hm | hm
  · have := bL_mem hm; have := rE_le (kidE a i); omega
  · rw [hm, show rE zE = 2 from rfl]; omega
theorem kidC_rank {op : Int} {a : List E} {c : List C} (h : 5 ≤ op ∧ op ≤ 7) (i : Int) : rC (kidC c i) < rC (.mk op a c) := by
  have e : rC (.mk op a c) = 2 * bC (.mk op a c) + 1 := by unfold rC; rw [show (C.mk op a c).op = op from rfl, decide_eq_true h.1, decide_eq_true h.2]; rfl
  rw [e, bC]
  rcases kidC_mem c i with hm | hm
  · have := bCL_mem hm; have := rC_le (kidC c i); omega
  · rw [hm, show rC zC = 2 from rfl]; omega
theorem ev_zero (vs ls : List Int) : evE vs ls zE = 0 := rfl
theorem ev0_kid (vs ls : List Int) (a : List E) : ev0 vs ls a = evE vs ls (kidE a 0) := by
  cases a with
  | nil => rfl
  | cons x r => simp [kidE, ev0]
theorem ev1_kid (vs ls : List Int) (a : List E) : ev1 vs ls a = evE vs ls (kidE a 1) := by
  match a with
  | [] => rfl
  | [x] => simp [kidE, ev1, ev0, ev_zero]
  | x :: y :: r =>
    simp only [kidE, ev1, ev0, List.length_cons]
    rw [if_pos (by omega)]; rfl
theorem ho_zero (vs ls : List Int) : hoC vs ls zC = false := rfl
theorem ho0_kid (vs ls : List Int) (a : List C) : ho0 vs ls a = hoC vs ls (kidC a 0) := by
  cases a with
  | nil => rfl
  | cons x r => simp [kidC, ho0]
theorem ho1_kid (vs ls : List Int) (a : List C) : ho1 vs ls a = hoC vs ls (kidC a 1) := by
  match a with
  | [] => rfl
  | [x] => simp [kidC, ho1, ho0, ho_zero]
  | x :: y :: r =>
    simp only [kidC, ho1, ho0, List.length_cons]
    rw [if_pos (by omega)]; rfl
/- What the functions are said to do. -/
def spOp : Sp
  | [.int .i64 op, .int .i64 a, .int .i64 b] => .ret (iA (opG op a b))
  | _ => .fail
def spWrap : Sp
  | [.int .i64 a] => .ret (iA (w32 a))
  | _ => .fail
def spBin : Sp
  | [.int .i64 a] => .ret (.bool (binB a))
  | _ => .fail
def spAtE : Sp
  | [x, .int .i64 i] => (match decE 6 x with | some a => .ret (encE (kidE a i)) | none => .fail)
  | _ => .fail
def spAtC : Sp
  | [x, .int .i64 i] => (match decC 6 x with | some a => .ret (encC (kidC a i)) | none => .fail)
  | _ => .fail
def spAtI : Sp
  | [x, .int .i64 i] => (match decI x with | some a => .ret (iA (elt a i)) | none => .fail)
  | _ => .fail
def spEvalK (k : Nat) : Sp
  | [x, y, z] => (match asE x, decI y, decI z with | some e, some vs, some ls => .br (Nat.blt (rE e) k) (.ret (iA (evE vs ls e))) .fail | _, _, _ => .fail)
  | _ => .fail
def spEval : Sp
  | [x, y, z] => (match asE x, decI y, decI z with | some e, some vs, some ls => .ret (iA (evE vs ls e)) | _, _, _ => .fail)
  | _ => .fail
def spH1 : Sp
  | [.int .i64 i, .elt [.int .i64 op, .slc false (.es a), .slc false (.cs c)] 0, .elt [.slc false (.ints vs)] 0, .elt [.slc false (.ints ls)] 0] => .ret (iA (evE vs ls (kidE a i)))
  | _ => .fail
def spH2 (k : Nat) : Sp
  | [.int .i64 i, .elt [.int .i64 op, .slc false (.es a), .slc false (.cs c)] 0, .elt [.slc false (.ints vs)] 0, .elt [.slc false (.ints ls)] 0] => .br (Nat.blt (rC (kidC c i)) k) (.ret (.bool (hoC vs ls (kidC c i)))) .fail
  | _ => .fail
def spHoldsK (k : Nat) : Sp
  | [x, y, z] => (match asC x, decI y, decI z with | some e, some vs, some ls => .br (Nat.blt (rC e) k) (.ret (.bool (hoC vs ls e))) .fail | _, _, _ => .fail)
  | _ => .fail
def spHolds : Sp
  | [x, y, z] => (match asC x, decI y, decI z with | some e, some vs, some ls => .ret (.bool (hoC vs ls e)) | _, _, _ => .fail)
  | _ => .fail
abbrev LT := List (FuncId × Sp)
def N1 : LT := [(11, spOp), (26, spWrap), (43, spBin), (39, spAtE), (41, spAtC), (42, spAtI)]
def N1e (k : Nat) : LT := (16, spEvalK k) :: N1
def N2 : LT := (16, spEval) :: N1
def N3 : LT := (38, spH1) :: N2
def N3k (k : Nat) : LT := (14, spHoldsK k) :: N3
def N3h (k : Nat) : LT := (40, spH2 k) :: N3
def N4 : LT := (14, spHolds) :: N3
end Go.Proofs.Ytbbnefpjnjjibaa.Num
/-! Contracts of package num over trees: residuals. -/
namespace Go.Proofs.Ytbbnefpjnjjibaa.Num
set_option linter.unusedVariables false
set_option linter.unusedSimpArgs false
set_option linter.unusedSectionVars false
set_option linter.unnecessarySimpa false
open Go.Proofs.Ytbbnefpjnjjibaa.Ev Go.RowKit Go.Proofs.Ytbbnefpjnjjibaa.Span
set_option maxRecDepth 100000
set_option maxHeartbeats 4000000
theorem wrap_ev (v : Int) : evFn Itp Try.prog (fromList []) (fun _ => []) noLoops Try.f26 [iA v] some =
    some (AV.int IntKind.i64 (IntKind.i64.wrap (IntKind.i32.wrap v))) := by
  kernel_rfl
theorem bin_ev (v : Int) : evFn Itp Try.prog (fromList []) (fun _ => []) noLoops Try.f43 [iA v] some =
    bif decide (v ≥ 4) then some (AV.bool (decide (v ≤ 10))) else some (AV.bool false) := by
  kernel_rfl
theorem atE_ev (i : Int) (a : List E) : evFn Itp Try.prog (fromList []) (fun _ => []) noLoops Try.f39 [.slc false (.es a), iA i] some =
    bif decide (i ≥ 0) then bif decide (i < (↑(Itp.len (Tok.es a)) : Int)) then bif decide (0 ≤ i) && decide (i < (↑(Itp.len (Tok.es a)) : Int)) then some (AV.agg [AV.int IntKind.i64 (a.getD i.toNat zE).op, AV.int IntKind.i64 (a.getD i.toNat zE).n, AV.int IntKind.i64 (a.getD i.toNat zE).v, AV.slc false (Tok.es (a.getD i.toNat zE).a)]) else none else some (AV.agg [AV.int IntKind.i64 0, AV.int IntKind.i64 0, AV.int IntKind.i64 0, AV.sli 0 []]) else some (AV.agg [AV.int IntKind.i64 0, AV.int IntKind.i64 0, AV.int IntKind.i64 0, AV.sli 0 []]) := by
  kernel_rfl
theorem atC_ev (i : Int) (a : List C) : evFn Itp Try.prog (fromList []) (fun _ => []) noLoops Try.f41 [.slc false (.cs a), iA i] some =
    bif decide (i ≥ 0) then bif decide (i < (↑(Itp.len (Tok.cs a)) : Int)) then bif decide (0 ≤ i) && decide (i < (↑(Itp.len (Tok.cs a)) : Int)) then some (AV.agg [AV.int IntKind.i64 (a.getD i.toNat zC).op, AV.slc false (Tok.es (a.getD i.toNat zC).a), AV.slc false (Tok.cs (a.getD i.toNat zC).c)]) else none else some (AV.agg [AV.int IntKind.i64 0, AV.sli 0 [], AV.sli 0 []]) else some (AV.agg [AV.int IntKind.i64 0, AV.sli 0 [], AV.sli 0 []]) := by
  kernel_rfl
theorem atI_ev (i : Int) (a : List Int) : evFn Itp Try.prog (fromList []) (fun _ => []) noLoops Try.f42 [.slc false (.ints a), iA i] some =
    bif decide (i ≥ 0) then bif decide (i < (↑(Itp.len (Tok.ints a)) : Int)) then bif decide (0 ≤ i) && decide (i < (↑(Itp.len (Tok.ints a)) : Int)) then some (AV.int IntKind.i64 (a.getD i.toNat 0)) else none else some (AV.int IntKind.i64 0) else some (AV.int IntKind.i64 0) := by
  kernel_rfl
theorem eval_ev (k : Nat) (op n v : Int) (a : List E) (vs ls : List Int) : evFn Itp Try.prog (fromList (N1e k)) (fun _ => []) noLoops Try.f16 [.agg [.int .i64 op, .int .i64 n, .int .i64 v, .slc false (.es a)], .slc false (.ints vs), .slc false (.ints ls)] some =
    bif op == 1 then some (AV.int IntKind.i64 (w32 v)) else bif op == 2 then some (AV.int IntKind.i64 (w32 (elt vs n))) else bif op == 3 then some (AV.int IntKind.i64 (w32 (elt ls n))) else bif !binB op then some (AV.int IntKind.i64 0) else bif (rE (E.mk (kidE a 0).op (kidE a 0).n (kidE a 0).v (kidE a 0).a)).blt k then bif (rE (E.mk (kidE a 1).op (kidE a 1).n (kidE a 1).v (kidE a 1).a)).blt k then some (AV.int IntKind.i64 (opG op (evE vs ls (E.mk (kidE a 0).op (kidE a 0).n (kidE a 0).v (kidE a 0).a)) (evE vs ls (E.mk (kidE a 1).op (kidE a 1).n (kidE a 1).v (kidE a 1).a)))) else none else none := by
  kernel_rfl
theorem h1_ev (i op : Int) (a : List E) (c : List C) (vs ls : List Int) : evFn Itp Try.prog (fromList N2) (fun _ => []) noLoops Try.f38 [iA i, .elt [.int .i64 op, .slc false (.es a), .slc false (.cs c)] 0, .elt [.slc false (.ints vs)] 0, .elt [.slc false (.ints ls)] 0] some =
    some (AV.int IntKind.i64 (evE vs ls (E.mk (kidE a i).op (kidE a i).n (kidE a i).v (kidE a i).a))) := by
  kernel_rfl
theorem h2_ev (k : Nat) (i op : Int) (a : List E) (c : List C) (vs ls : List Int) : evFn Itp Try.prog (fromList (N3k k)) (fun _ => []) noLoops Try.f40 [iA i, .elt [.int .i64 op, .slc false (.es a), .slc false (.cs c)] 0, .elt [.slc false (.ints vs)] 0, .elt [.slc false (.ints ls)] 0] some =
    bif (rC (C.mk (kidC c i).op (kidC c i).a (kidC c i).c)).blt k then some (AV.bool (hoC vs ls (C.mk (kidC c i).op (kidC c i).a (kidC c i).c))) else none := by
  kernel_rfl
theorem holds_ev (k : Nat) (op : Int) (a : List E) (c : List C) (vs ls : List Int) : evFn Itp Try.prog (fromList (N3h k)) (fun _ => []) noLoops Try.f14 [.agg [.int .i64 op, .slc false (.es a), .slc false (.cs c)], .slc false (.ints vs), .slc false (.ints ls)] some =
    bif op == 1 then some (AV.bool true) else bif op == 2 then some (AV.bool (decide (evE vs ls (kidE a 0) < evE vs ls (kidE a 1)))) else bif op == 3 then some (AV.bool (decide (evE vs ls (kidE a 0) ≤ evE vs ls (kidE a 1)))) else bif op == 4 then some (AV.bool (evE vs ls (kidE a 0) == evE vs ls (kidE a 1))) else bif op == 5 then bif (rC (kidC c 0)).blt k then some (AV.bool !hoC vs ls (kidC c 0)) else none else bif op == 6 then bif (rC (kidC c 0)).blt k then bif hoC vs ls (kidC c 0) then bif (rC (kidC c 1)).blt k then some (AV.bool (hoC vs ls (kidC c 1))) else none else some (AV.bool false) else none else bif op == 7 then bif (rC (kidC c 0)).blt k then bif hoC vs ls (kidC c 0) then some (AV.bool true) else bif (rC (kidC c 1)).blt k then some (AV.bool (hoC vs ls (kidC c 1))) else none else none else some (AV.bool false) := by
  kernel_rfl
end Go.Proofs.Ytbbnefpjnjjibaa.Num
/-! Contracts of package num over trees, proved. -/
namespace Go.Proofs.Ytbbnefpjnjjibaa.Num
set_option linter.unusedVariables false
set_option linter.unusedSimpArgs false
set_option linter.unusedSectionVars false
set_option linter.unnecessarySimpa false
open Go.Proofs.Ytbbnefpjnjjibaa.Ev Go.RowKit Go.Proofs.Ytbbnefpjnjjibaa.Span
set_option maxRecDepth 100000
set_option maxHeartbeats 4000000
theorem en (f : FuncId) (fn : Func) (hf : Try.prog.funcs[f]? = some fn) (hb : fn.body.isNone = false := by kernel_rfl) (hn : (fn.name == "runtime.NumGoroutine") = false := by kernel_rfl) : Enterable Try.prog f := enterable hf hb hn
theorem S0 : SpecOk Itp Try.prog (fromList []) := specOk_nil
theorem ok_numOp : FnOk Itp Try.prog 11 spOp := by
  intro args v hv w M vs hM hargs
  unfold spOp at hv
  split at hv
  · rename_i op a b
    cases hv
    match vs, hargs with
    | ⟨[x, y, z]⟩, hargs =>
      have h0 := (hargs.2 0 _ x rfl rfl).int_inv
      have h1 := (hargs.2 1 _ y rfl rfl).int_inv
      have h2 := (hargs.2 2 _ z rfl rfl).int_inv
      subst h0 h1 h2
      exact (NumOp.num_Op.calls op a b _ w rfl).mono fun e w' ⟨he, hb⟩ => ⟨_, he, hb, (by rw [show wrap32 (NumOp.opI op (wrap32 a) (wrap32 b)) = opG op a b from (by unfold opG opJ w32 wrap32 NumOp.opI; rfl)]; exact .int _ _)⟩
    | ⟨[]⟩, hargs => simp [RepL] at hargs
    | ⟨[_]⟩, hargs => simp [RepL] at hargs
    | ⟨[_, _]⟩, hargs => simp [RepL] at hargs
    | ⟨_ :: _ :: _ :: _ :: _⟩, hargs => simp [RepL] at hargs
  · exact hv.elim
theorem wrap_i32 (v : Int) : IntKind.i64.wrap (IntKind.i32.wrap v) = w32 v := by
  have e : IntKind.i32.wrap v = if v % 4294967296 ≥ 2147483648 then v % 4294967296 - 4294967296 else v % 4294967296 := by
    simp [IntKind.wrap, IntKind.bits, IntKind.signed]
  rw [e]
  split
  · rw [wrap_of (by omega) (by omega)]; unfold w32; omega
  · rw [wrap_of (by omega) (by omega)]; unfold w32; omega
theorem ok_wrap : FnOk Itp Try.prog 26 spWrap := fnOk S0 hm Try.func26 spWrap fun args v hv => by
  unfold spWrap at hv
  split at hv
  · rename_i a
    have hv := has_ret hv
    subst hv
    exact (wrap_ev a).trans (by rw [wrap_i32])
  · exact hv.elim
theorem ok_bin : FnOk Itp Try.prog 43 spBin := fnOk S0 hm Try.func43 spBin fun args v hv => by
  unfold spBin at hv
  split at hv
  · rename_i a
    have hv := has_ret hv
    subst hv
    refine (bin_ev a).trans ?_
    unfold binB
    by_cases c : 4 ≤ a
    · simp [c]
    · simp [c]
  · exact hv.elim
/-- A contract without loops, for written arguments. -/
theorem flat {L : LT} (hS : SpecOk Itp Try.prog (fromList L)) {f : FuncId} {fn : Func} (hf : Try.prog.funcs[f]? = some fn) {args : List V} {v : V} (h : evFn Itp Try.prog (fromList L) (fun _ => []) noLoops fn args some = some v) : CallOk Itp Try.prog f args v :=
  fn_sound hS hm hf (fun c _ => loopOk_none c) h
theorem ok_atE : FnOk Itp Try.prog 39 spAtE := by
  intro args v hv
  unfold spAtE at hv
  split at hv
  · rename_i x i
    split at hv
    · rename_i a ha
      have hv := has_ret hv
      subst hv
      by_cases c : 0 ≤ i ∧ i < a.length
      · refine call_conv (flat S0 Try.func39 ((atE_ev i a).trans ?_)) (.cons (decE_conv _ _ _ ha) (.cons (Conv.refl _) .nil)) (Conv.refl _)
        simp only [show Itp.len (Tok.es a) = a.length from rfl, c.1, c.2, ge_iff_le, decide_true, Bool.and_self, cond_true, kidE, and_self, if_true]
        rfl
      · refine call_conv (y := .agg [iA 0, iA 0, iA 0, .sli 0 []]) (flat S0 Try.func39 ((atE_ev i a).trans ?_)) (.cons (decE_conv _ _ _ ha) (.cons (Conv.refl _) .nil)) ?_
        · simp only [show Itp.len (Tok.es a) = a.length from rfl, ge_iff_le]
          by_cases c0 : 0 ≤ i
          · have c1 : ¬ i < a.length := fun h => c ⟨c0, h⟩
            simp [c0, c1]
          · simp [c0]
        · rw [kidE, if_neg c]
          exact conv_agg (.cons (Conv.refl _) (.cons (Conv.refl _) (.cons (Conv.refl _) (.cons (conv_nil _ _ _ rfl) .nil))))
    · exact hv.elim
  · exact hv.elim
theorem ok_atC : FnOk Itp Try.prog 41 spAtC := by
  intro args v hv
  unfold spAtC at hv
  split at hv
  · rename_i x i
    split at hv
    · rename_i a ha
      have hv := has_ret hv
      subst hv
      by_cases c : 0 ≤ i ∧ i < a.length
      · refine call_conv (flat S0 Try.func41 ((atC_ev i a).trans ?_)) (.cons (decC_conv _ _ _ ha) (.cons (Conv.refl _) .nil)) (Conv.refl _)
        simp only [show Itp.len (Tok.cs a) = a.length from rfl, c.1, c.2, ge_iff_le, decide_true, Bool.and_self, cond_true, kidC, and_self, if_true]
        rfl
      · refine call_conv (y := .agg [iA 0, .sli 0 [], .sli 0 []]) (flat S0 Try.func41 ((atC_ev i a).trans ?_)) (.cons (decC_conv _ _ _ ha) (.cons (Conv.refl _) .nil)) ?_
        · simp only [show Itp.len (Tok.cs a) = a.length from rfl, ge_iff_le]
          by_cases c0 : 0 ≤ i
          · have c1 : ¬ i < a.length := fun h => c ⟨c0, h⟩
            simp [c0, c1]
          · simp [c0]
        · rw [kidC, if_neg c]
          exact conv_agg (.cons (Conv.refl _) (.cons (conv_nil _ _ _ rfl) (.cons (conv_nil _ _ _ rfl) .nil)))
    · exact hv.elim
  · exact hv.elim
theorem ok_atI : FnOk Itp Try.prog 42 spAtI := by
  intro args v hv
  unfold spAtI at hv
  split at hv
  · rename_i x i
    split at hv
    · rename_i a ha
      have hv := has_ret hv
      subst hv
      refine call_conv (flat S0 Try.func42 ((atI_ev i a).trans ?_)) (.cons (decI_conv ha) (.cons (Conv.refl _) .nil)) (Conv.refl _)
      simp only [show Itp.len (Tok.ints a) = a.length from rfl, ge_iff_le, elt, iA]
      by_cases c0 : 0 ≤ i
      · by_cases c1 : i < a.length
        · simp [c0, c1]
        · simp [c0, c1]
      · simp [c0]
    · exact hv.elim
  · exact hv.elim
theorem A1 : SpecOk Itp Try.prog (fromList N1) :=
  specOk_cons (en _ _ Try.func11) ok_numOp <| specOk_cons (en _ _ Try.func26) ok_wrap <| specOk_cons (en _ _ Try.func43) ok_bin <| specOk_cons (en _ _ Try.func39) ok_atE <|
  specOk_cons (en _ _ Try.func41) ok_atC <| specOk_cons (en _ _ Try.func42) ok_atI specOk_nil
theorem eval_key (k : Nat) (hk : FnOk Itp Try.prog 16 (spEvalK k)) (e : E) (vs ls : List Int) (he : rE e < k + 1) : CallOk Itp Try.prog 16 [encE e, .slc false (.ints vs), .slc false (.ints ls)] (iA (evE vs ls e)) := by
  obtain ⟨op, n, v, a⟩ := e
  refine flat (specOk_cons (en _ _ Try.func16) hk A1) Try.func16 ((eval_ev k op n v a vs ls).trans ?_)
  simp only [eta_E]
  rw [evE]
  by_cases c1 : op = 1
  · simp [c1]
  by_cases c2 : op = 2
  · simp [c2]
  by_cases c3 : op = 3
  · simp [c3]
  rw [beq_eq_false_iff_ne.mpr c1, beq_eq_false_iff_ne.mpr c2, beq_eq_false_iff_ne.mpr c3, if_neg c1, if_neg c2, if_neg c3]
  cases hb : binB op with
  | false => rfl
  | true =>
    have r0 : (rE (kidE a 0)).blt k = true := Nat.blt_eq.mpr (by have := kidE_rank (n := n) (v := v) (a := a) hb 0; omega)
    have r1 : (rE (kidE a 1)).blt k = true := Nat.blt_eq.mpr (by have := kidE_rank (n := n) (v := v) (a := a) hb 1; omega)
    simp only [r0, r1, Bool.not_true, cond_false, cond_true, if_true, ev0_kid, ev1_kid, iA]
theorem ok_evalK : ∀ k, FnOk Itp Try.prog 16 (spEvalK k)
  | 0 => by
    intro args v hv
    unfold spEvalK at hv
    split at hv
    · split at hv
      · obtain ⟨h, _⟩ := has_br hv
        have := Nat.blt_eq.mp h; omega
      · exact hv.elim
    · exact hv.elim
  | k + 1 => by
    intro args v hv
    unfold spEvalK at hv
    split at hv
    · split at hv
      · rename_i e vs ls h1 h2 h3
        obtain ⟨h, hv⟩ := has_br hv
        have hv := has_ret hv
        subst hv
        exact call_conv (eval_key k (ok_evalK k) e vs ls (Nat.blt_eq.mp h)) (.cons (asE_conv h1) (.cons (decI_conv h2) (.cons (decI_conv h3) .nil))) (Conv.refl _)
      · exact hv.elim
    · exact hv.elim
theorem ok_eval : FnOk Itp Try.prog 16 spEval := by
  intro args v hv
  unfold spEval at hv
  split at hv
  · split at hv
    · rename_i e vs ls h1 h2 h3
      have hv := has_ret hv
      subst hv
      exact call_conv (eval_key (rE e) (ok_evalK _) e vs ls (Nat.lt_succ_self _)) (.cons (asE_conv h1) (.cons (decI_conv h2) (.cons (decI_conv h3) .nil))) (Conv.refl _)
    · exact hv.elim
  · exact hv.elim
theorem A2 : SpecOk Itp Try.prog (fromList N2) := specOk_cons (en _ _ Try.func16) ok_eval A1
theorem ok_h1 : FnOk Itp Try.prog 38 spH1 := by
  intro args v hv
  unfold spH1 at hv
  split at hv
  · rename_i i op a c vs ls
    have hv := has_ret hv
    subst hv
    exact flat A2 Try.func38 ((h1_ev i op a c vs ls).trans (by rw [eta_E]))
  · exact hv.elim
theorem A3 : SpecOk Itp Try.prog (fromList N3) := specOk_cons (en _ _ Try.func38) ok_h1 A2
theorem ok_h2 (k : Nat) (hk : FnOk Itp Try.prog 14 (spHoldsK k)) : FnOk Itp Try.prog 40 (spH2 k) := by
  intro args v hv
  unfold spH2 at hv
  split at hv
  · rename_i i op a c vs ls
    obtain ⟨h, hv⟩ := has_br hv
    have hv := has_ret hv
    subst hv
    exact flat (specOk_cons (en _ _ Try.func14) hk A3) Try.func40 ((h2_ev k i op a c vs ls).trans (by rw [eta_C, h]; rfl))
  · exact hv.elim
theorem holds_key (k : Nat) (hk : FnOk Itp Try.prog 14 (spHoldsK k)) (c : C) (vs ls : List Int) (he : rC c < k + 1) : CallOk Itp Try.prog 14 [encC c, .slc false (.ints vs), .slc false (.ints ls)] (.bool (hoC vs ls c)) := by
  obtain ⟨op, a, c⟩ := c
  refine flat (specOk_cons (en _ _ Try.func40) (ok_h2 k hk) A3) Try.func14 ((holds_ev k op a c vs ls).trans ?_)
  rw [hoC]
  by_cases c1 : op = 1
  · simp [c1]
  by_cases c2 : op = 2
  · simp [c2, ev0_kid, ev1_kid]
  by_cases c3 : op = 3
  · simp [c3, ev0_kid, ev1_kid]
  by_cases c4 : op = 4
  · simp only [c4, ev0_kid, ev1_kid]; rfl
  rw [beq_eq_false_iff_ne.mpr c1, beq_eq_false_iff_ne.mpr c2, beq_eq_false_iff_ne.mpr c3, beq_eq_false_iff_ne.mpr c4, if_neg c1, if_neg c2, if_neg c3, if_neg c4]
  simp only [cond_false]
  by_cases hop : 5 ≤ op ∧ op ≤ 7
  · have r0 : (rC (kidC c 0)).blt k = true := Nat.blt_eq.mpr (by have := kidC_rank (a := a) (c := c) hop 0; omega)
    have r1 : (rC (kidC c 1)).blt k = true := Nat.blt_eq.mpr (by have := kidC_rank (a := a) (c := c) hop 1; omega)
    simp only [r0, r1, cond_true, ho0_kid, ho1_kid]
    by_cases c5 : op = 5
    · simp [c5]
    by_cases c6 : op = 6
    · simp only [c6]
      cases hoC vs ls (kidC c 0) <;> rfl
    have c7 : op = 7 := by omega
    subst c7
    cases hoC vs ls (kidC c 0) <;> rfl
  · have c5 : op ≠ 5 := by omega
    have c6 : op ≠ 6 := by omega
    have c7 : op ≠ 7 := by omega
    rw [beq_eq_false_iff_ne.mpr c5, beq_eq_false_iff_ne.mpr c6, beq_eq_false_iff_ne.mpr c7, if_neg c5, if_neg c6, if_neg c7]
    rfl
theorem ok_holdsK : ∀ k, FnOk Itp Try.prog 14 (spHoldsK k)
  | 0 => by
    intro args v hv
    unfold spHoldsK at hv
    split at hv
    · split at hv
      · obtain ⟨h, _⟩ := has_br hv
        have := Nat.blt_eq.mp h; omega
      · exact hv.elim
    · exact hv.elim
  | k + 1 => by
    intro args v hv
    unfold spHoldsK at hv
    split at hv
    · split at hv
      · rename_i e vs ls h1 h2 h3
        obtain ⟨h, hv⟩ := has_br hv
        have hv := has_ret hv
        subst hv
        exact call_conv (holds_key k (ok_holdsK k) e vs ls (Nat.blt_eq.mp h)) (.cons (asC_conv h1) (.cons (decI_conv h2) (.cons (decI_conv h3) .nil))) (Conv.refl _)
      · exact hv.elim
    · exact hv.elim
theorem ok_holds : FnOk Itp Try.prog 14 spHolds := by
  intro args v hv
  unfold spHolds at hv
  split at hv
  · split at hv
    · rename_i e vs ls h1 h2 h3
      have hv := has_ret hv
      subst hv
      exact call_conv (holds_key (rC e) (ok_holdsK _) e vs ls (Nat.lt_succ_self _)) (.cons (asC_conv h1) (.cons (decI_conv h2) (.cons (decI_conv h3) .nil))) (Conv.refl _)
    · exact hv.elim
  · exact hv.elim
theorem A4 : SpecOk Itp Try.prog (fromList N4) := specOk_cons (en _ _ Try.func14) ok_holds A3
end Go.Proofs.Ytbbnefpjnjjibaa.Num
/-! Sizes and depths of trees: what is said of them. -/
namespace Go.Proofs.Ytbbnefpjnjjibaa.Num
set_option linter.unusedVariables false
set_option linter.unusedSimpArgs false
set_option linter.unusedSectionVars false
set_option linter.unnecessarySimpa false
open Go.Proofs.Ytbbnefpjnjjibaa.Ev Go.RowKit Go.Proofs.Ytbbnefpjnjjibaa.Span
def big : Nat := 1099511627776
def mxL : List E → Int → Int
  | [], d => d
  | x :: r, d => mxL r (max d (dpE x))
def mxCL : List C → Int → Int
  | [], d => d
  | x :: r, d => mxCL r (max d (dpC x))
def opsE (e : E) : List E := if binB e.op = true then e.a.take 2 else []
def ptE (c : C) : List E := if c.op = 2 ∨ c.op = 3 ∨ c.op = 4 then c.a.take 2 else []
def ptC (c : C) : List C := if c.op = 5 then c.c.take 1 else if c.op = 6 ∨ c.op = 7 then c.c.take 2 else []
def spNum : Sp
  | [.int .i64 v] => .ret (encE (.mk 1 0 v []))
  | _ => .fail
def spTwo : Sp
  | [.int .i64 op, x, y] => (match asE x, asE y with | some a, some b => .ret (encE (.mk op 0 0 [a, b])) | _, _ => .fail)
  | _ => .fail
def spNot : Sp
  | [x] => (match asC x with | some c => .ret (encC (.mk 5 [] [c])) | none => .fail)
  | _ => .fail
def spBoth : Sp
  | [.int .i64 op, x, y] => (match asC x, asC y with | some a, some b => .ret (encC (.mk op [] [a, b])) | _, _ => .fail)
  | _ => .fail
def spOpds : Sp
  | [x] => (match asE x with | some e => .ret (.slc false (.es (opsE e))) | none => .fail)
  | _ => .fail
def spParts : Sp
  | [x] => (match asC x with | some c => .ret (.tup [.slc false (.es (ptE c)), .slc false (.cs (ptC c))]) | none => .fail)
  | _ => .fail
def spSizeK (k : Nat) : Sp
  | [x] => (match asE x with | some e => .br (Nat.blt (bE e) k && Nat.ble (bE e) big) (.ret (iA (wsE e))) .fail | none => .fail)
  | _ => .fail
def spSize : Sp
  | [x] => (match asE x with | some e => .br (Nat.ble (bE e) big) (.ret (iA (wsE e))) .fail | none => .fail)
  | _ => .fail
def spSizeCK (k : Nat) : Sp
  | [x] => (match asC x with | some e => .br (Nat.blt (bC e) k && Nat.ble (bC e) big) (.ret (iA (wsC e))) .fail | none => .fail)
  | _ => .fail
def spSizeC : Sp
  | [x] => (match asC x with | some e => .br (Nat.ble (bC e) big) (.ret (iA (wsC e))) .fail | none => .fail)
  | _ => .fail
def spDepK (k : Nat) : Sp
  | [x] => (match asE x with | some e => .br (Nat.blt (bE e) k && Nat.ble (bE e) big) (.ret (iA (dpE e))) .fail | none => .fail)
  | _ => .fail
def spDep : Sp
  | [x] => (match asE x with | some e => .br (Nat.ble (bE e) big) (.ret (iA (dpE e))) .fail | none => .fail)
  | _ => .fail
def spDepCK (k : Nat) : Sp
  | [x] => (match asC x with | some e => .br (Nat.blt (bC e) k && Nat.ble (bC e) big) (.ret (iA (dpC e))) .fail | none => .fail)
  | _ => .fail
def spDepC : Sp
  | [x] => (match asC x with | some e => .br (Nat.ble (bC e) big) (.ret (iA (dpC e))) .fail | none => .fail)
  | _ => .fail
def spTrue : Sp
  | [] => .ret (.bool true)
  | _ => .fail
/- The loops. -/
def szK : Nat → List Nat
  | 3 => [1, 3, 4]
  | 1003 => [3]
  | _ => []
def okI (i : Int) (n : Nat) : Bool := decide (0 ≤ i) && decide (i ≤ (n : Int))
def szL3 (k : Nat) (vals : List V) (hp : Hp Tok) : Tr (Lf Tok) :=
  match vals, hp with
  | [.ref 0 0, .int .i64 n, .int .i64 i], [some [.int .i64 op, .int .i64 p, .int .i64 q, .slc false (.es a)], none] =>
    .br (okI i a.length && (Nat.blt (bL a) k && Nat.ble (bL a) big)) (.ret (.exit 0, [iA (wsL (a.drop i.toNat) n)], [some [.int .i64 op, .int .i64 p, .int .i64 q, .slc false (.es a)], none])) .fail
  | _, _ => .fail
def szlsp (k : Nat) : Nat → List V → Hp Tok → Tr (Lf Tok)
  | 3 => szL3 k
  | _ => noLoops 0
def scK : Nat → List Nat
  | 3 => [1, 3, 4]
  | 1003 => [1, 3]
  | 7 => [1, 3, 5]
  | 1007 => [3]
  | _ => []
def scL3 (vals : List V) (hp : Hp Tok) : Tr (Lf Tok) :=
  match vals, hp with
  | [.ref 0 0, .int .i64 n, .int .i64 i], [some [.int .i64 op, .slc false (.es a), .slc false (.cs c)], none] =>
    .br (okI i a.length && Nat.ble (bL a) big) (.ret (.exit 0, [.ref 0 0, iA (wsL (a.drop i.toNat) n)], [some [.int .i64 op, .slc false (.es a), .slc false (.cs c)], none])) .fail
  | _, _ => .fail
def scL7 (k : Nat) (vals : List V) (hp : Hp Tok) : Tr (Lf Tok) :=
  match vals, hp with
  | [.ref 0 0, .int .i64 n, .int .i64 i], [some [.int .i64 op, .slc false (.es a), .slc false (.cs c)], none] =>
    .br (okI i c.length && (Nat.blt (bCL c) k && Nat.ble (bCL c) big)) (.ret (.exit 2, [iA (wsCL (c.drop i.toNat) n)], [some [.int .i64 op, .slc false (.es a), .slc false (.cs c)], none])) .fail
  | _, _ => .fail
def sclsp (k : Nat) : Nat → List V → Hp Tok → Tr (Lf Tok)
  | 3 => scL3
  | 7 => scL7 k
  | _ => noLoops 0
def dpK : Nat → List Nat
  | 3 => [3, 7, 8, 9]
  | 1003 => [3]
  | _ => []
def okD (d : Int) : Bool := decide (0 ≤ d) && decide (d ≤ 1099511627776)
def dpL3 (k : Nat) (vals : List V) (hp : Hp Tok) : Tr (Lf Tok) :=
  match vals, hp with
  | [.int .i64 d, .slc false (.es a), .int .i64 m, .int .i64 i], [some [.int .i64 op, .int .i64 p, .int .i64 q, .slc false (.es b)], none] =>
    .br (okI i a.length && (decide (m = (a.length : Int)) && (okD d && (Nat.blt (bL a) k && Nat.ble (bL a) big)))) (.ret (.exit 0, [iA (mxL (a.drop i.toNat) d)], [some [.int .i64 op, .int .i64 p, .int .i64 q, .slc false (.es b)], none])) .fail
  | _, _ => .fail
def dplsp (k : Nat) : Nat → List V → Hp Tok → Tr (Lf Tok)
  | 3 => dpL3 k
  | _ => noLoops 0
def dcK : Nat → List Nat
  | 4 => [3, 5, 15, 16, 17]
  | 1004 => [3, 5]
  | 9 => [3, 26, 27, 28]
  | 1009 => [3]
  | _ => []
def dcL4 (vals : List V) (hp : Hp Tok) : Tr (Lf Tok) :=
  match vals, hp with
  | [.int .i64 d, .slc false (.cs z), .slc false (.es a), .int .i64 m, .int .i64 i], [some [.int .i64 op, .slc false (.es x), .slc false (.cs y)], none] =>
    .br (okI i a.length && (decide (m = (a.length : Int)) && (okD d && Nat.ble (bL a) big))) (.ret (.exit 0, [iA (mxL (a.drop i.toNat) d), .slc false (.cs z)], [some [.int .i64 op, .slc false (.es x), .slc false (.cs y)], none])) .fail
  | _, _ => .fail
def dcL9 (k : Nat) (vals : List V) (hp : Hp Tok) : Tr (Lf Tok) :=
  match vals, hp with
  | [.int .i64 d, .slc false (.cs z), .int .i64 m, .int .i64 i], [some [.int .i64 op, .slc false (.es x), .slc false (.cs y)], none] =>
    .br (okI i z.length && (decide (m = (z.length : Int)) && (okD d && (Nat.blt (bCL z) k && Nat.ble (bCL z) big)))) (.ret (.exit 2, [iA (mxCL (z.drop i.toNat) d)], [some [.int .i64 op, .slc false (.es x), .slc false (.cs y)], none])) .fail
  | _, _ => .fail
def dclsp (k : Nat) : Nat → List V → Hp Tok → Tr (Lf Tok)
  | 4 => dcL4
  | 9 => dcL9 k
  | _ => noLoops 0
def N5 : LT := (13, spNum) :: (36, spTwo) :: (19, spNot) :: (20, spBoth) :: (54, spOpds) :: (44, spParts) :: N4
def N5k (k : Nat) : LT := (15, spSizeK k) :: N5
def N6 : LT := (15, spSize) :: N5
def N6k (k : Nat) : LT := (18, spSizeCK k) :: N6
def N7 : LT := (18, spSizeC) :: N6
def N7k (k : Nat) : LT := (30, spDepK k) :: N7
def N8 : LT := (30, spDep) :: N7
def N8k (k : Nat) : LT := (21, spDepCK k) :: N8
def N9 : LT := (21, spDepC) :: N8
def N10 : LT := (10, spTrue) :: N9
end Go.Proofs.Ytbbnefpjnjjibaa.Num
/-! Sizes and depths: residuals. -/
namespace Go.Proofs.Ytbbnefpjnjjibaa.Num
set_option linter.unusedVariables false
set_option linter.unusedSimpArgs false
set_option linter.unusedSectionVars false
set_option linter.unnecessarySimpa false
open Go.Proofs.Ytbbnefpjnjjibaa.Ev Go.RowKit Go.Proofs.Ytbbnefpjnjjibaa.Span
set_option maxRecDepth 100000
set_option maxHeartbeats 4000000
theorem num_ev (v : Int) : evFn Itp Try.prog (fromList []) (fun _ => []) noLoops Try.f13 [iA v] some =
    some (AV.agg [AV.int IntKind.i64 1, AV.int IntKind.i64 0, AV.int IntKind.i64 v, AV.sli 0 []]) := by
  kernel_rfl
theorem two_ev (op a0 a1 a2 b0 b1 b2 : Int) (a b : List E) : evFn Itp Try.prog (fromList []) (fun _ => []) noLoops Try.f36 [iA op, .agg [.int .i64 a0, .int .i64 a1, .int .i64 a2, .slc false (.es a)], .agg [.int .i64 b0, .int .i64 b1, .int .i64 b2, .slc false (.es b)]] some =
    some (AV.agg [AV.int IntKind.i64 op, AV.int IntKind.i64 0, AV.int IntKind.i64 0, AV.sli 4 [[AV.int IntKind.i64 a0, AV.int IntKind.i64 a1, AV.int IntKind.i64 a2, AV.slc false (Tok.es a)], [AV.int IntKind.i64 b0, AV.int IntKind.i64 b1, AV.int IntKind.i64 b2, AV.slc false (Tok.es b)]]]) := by
  kernel_rfl
theorem not_ev (op : Int) (a : List E) (c : List C) : evFn Itp Try.prog (fromList []) (fun _ => []) noLoops Try.f19 [.agg [.int .i64 op, .slc false (.es a), .slc false (.cs c)]] some =
    some (AV.agg [AV.int IntKind.i64 5, AV.sli 0 [], AV.sli 3 [[AV.int IntKind.i64 op, AV.slc false (Tok.es a), AV.slc false (Tok.cs c)]]]) := by
  kernel_rfl
theorem both_ev (o a0 b0 : Int) (a a' : List E) (b b' : List C) : evFn Itp Try.prog (fromList []) (fun _ => []) noLoops Try.f20 [iA o, .agg [.int .i64 a0, .slc false (.es a), .slc false (.cs b)], .agg [.int .i64 b0, .slc false (.es a'), .slc false (.cs b')]] some =
    some (AV.agg [AV.int IntKind.i64 o, AV.sli 0 [], AV.sli 3 [[AV.int IntKind.i64 a0, AV.slc false (Tok.es a), AV.slc false (Tok.cs b)], [AV.int IntKind.i64 b0, AV.slc false (Tok.es a'), AV.slc false (Tok.cs b')]]]) := by
  kernel_rfl
theorem opds_ev (op n v : Int) (a : List E) : evFn Itp Try.prog (fromList N4) (fun _ => []) noLoops Try.f54 [.agg [.int .i64 op, .int .i64 n, .int .i64 v, .slc false (.es a)]] some =
    bif !binB op then some (AV.sli 0 []) else bif decide (0 ≤ mnI (↑(Itp.len (Tok.es a)) : Int) 2) && decide (mnI (↑(Itp.len (Tok.es a)) : Int) 2 ≤ (↑(Itp.len (Tok.es a)) : Int)) then some (AV.slc false (Itp.sub (Tok.es a) 0 (mnI (↑(Itp.len (Tok.es a)) : Int) 2).toNat)) else none := by
  kernel_rfl
theorem parts_ev (op : Int) (a : List E) (c : List C) : evFn Itp Try.prog (fromList N4) (fun _ => []) noLoops Try.f44 [.agg [.int .i64 op, .slc false (.es a), .slc false (.cs c)]] some =
    bif op == 2 then bif op == 2 then bif decide (0 ≤ mnI (↑(Itp.len (Tok.es a)) : Int) 2) && decide (mnI (↑(Itp.len (Tok.es a)) : Int) 2 ≤ (↑(Itp.len (Tok.es a)) : Int)) then some (AV.tup [AV.slc false (Itp.sub (Tok.es a) 0 (mnI (↑(Itp.len (Tok.es a)) : Int) 2).toNat), AV.sli 0 []]) else none else bif op == 5 then bif decide (0 ≤ mnI (↑(Itp.len (Tok.cs c)) : Int) 1) && decide (mnI (↑(Itp.len (Tok.cs c)) : Int) 1 ≤ (↑(Itp.len (Tok.cs c)) : Int)) then some (AV.tup [AV.sli 0 [], AV.slc false (Itp.sub (Tok.cs c) 0 (mnI (↑(Itp.len (Tok.cs c)) : Int) 1).toNat)]) else none else bif op == 6 then bif op == 6 then bif decide (0 ≤ mnI (↑(Itp.len (Tok.cs c)) : Int) 2) && decide (mnI (↑(Itp.len (Tok.cs c)) : Int) 2 ≤ (↑(Itp.len (Tok.cs c)) : Int)) then some (AV.tup [AV.sli 0 [], AV.slc false (Itp.sub (Tok.cs c) 0 (mnI (↑(Itp.len (Tok.cs c)) : Int) 2).toNat)]) else none else some (AV.tup [AV.sli 0 [], AV.sli 0 []]) else bif op == 7 then bif decide (0 ≤ mnI (↑(Itp.len (Tok.cs c)) : Int) 2) && decide (mnI (↑(Itp.len (Tok.cs c)) : Int) 2 ≤ (↑(Itp.len (Tok.cs c)) : Int)) then some (AV.tup [AV.sli 0 [], AV.slc false (Itp.sub (Tok.cs c) 0 (mnI (↑(Itp.len (Tok.cs c)) : Int) 2).toNat)]) else none else some (AV.tup [AV.sli 0 [], AV.sli 0 []]) else bif op == 3 then bif op == 3 then bif decide (0 ≤ mnI (↑(Itp.len (Tok.es a)) : Int) 2) && decide (mnI (↑(Itp.len (Tok.es a)) : Int) 2 ≤ (↑(Itp.len (Tok.es a)) : Int)) then some (AV.tup [AV.slc false (Itp.sub (Tok.es a) 0 (mnI (↑(Itp.len (Tok.es a)) : Int) 2).toNat), AV.sli 0 []]) else none else bif op == 5 then bif decide (0 ≤ mnI (↑(Itp.len (Tok.cs c)) : Int) 1) && decide (mnI (↑(Itp.len (Tok.cs c)) : Int) 1 ≤ (↑(Itp.len (Tok.cs c)) : Int)) then some (AV.tup [AV.sli 0 [], AV.slc false (Itp.sub (Tok.cs c) 0 (mnI (↑(Itp.len (Tok.cs c)) : Int) 1).toNat)]) else none else bif op == 6 then bif op == 6 then bif decide (0 ≤ mnI (↑(Itp.len (Tok.cs c)) : Int) 2) && decide (mnI (↑(Itp.len (Tok.cs c)) : Int) 2 ≤ (↑(Itp.len (Tok.cs c)) : Int)) then some (AV.tup [AV.sli 0 [], AV.slc false (Itp.sub (Tok.cs c) 0 (mnI (↑(Itp.len (Tok.cs c)) : Int) 2).toNat)]) else none else some (AV.tup [AV.sli 0 [], AV.sli 0 []]) else bif op == 7 then bif decide (0 ≤ mnI (↑(Itp.len (Tok.cs c)) : Int) 2) && decide (mnI (↑(Itp.len (Tok.cs c)) : Int) 2 ≤ (↑(Itp.len (Tok.cs c)) : Int)) then some (AV.tup [AV.sli 0 [], AV.slc false (Itp.sub (Tok.cs c) 0 (mnI (↑(Itp.len (Tok.cs c)) : Int) 2).toNat)]) else none else some (AV.tup [AV.sli 0 [], AV.sli 0 []]) else bif op == 4 then bif decide (0 ≤ mnI (↑(Itp.len (Tok.es a)) : Int) 2) && decide (mnI (↑(Itp.len (Tok.es a)) : Int) 2 ≤ (↑(Itp.len (Tok.es a)) : Int)) then some (AV.tup [AV.slc false (Itp.sub (Tok.es a) 0 (mnI (↑(Itp.len (Tok.es a)) : Int) 2).toNat), AV.sli 0 []]) else none else bif op == 5 then bif decide (0 ≤ mnI (↑(Itp.len (Tok.cs c)) : Int) 1) && decide (mnI (↑(Itp.len (Tok.cs c)) : Int) 1 ≤ (↑(Itp.len (Tok.cs c)) : Int)) then some (AV.tup [AV.sli 0 [], AV.slc false (Itp.sub (Tok.cs c) 0 (mnI (↑(Itp.len (Tok.cs c)) : Int) 1).toNat)]) else none else bif op == 6 then bif op == 6 then bif decide (0 ≤ mnI (↑(Itp.len (Tok.cs c)) : Int) 2) && decide (mnI (↑(Itp.len (Tok.cs c)) : Int) 2 ≤ (↑(Itp.len (Tok.cs c)) : Int)) then some (AV.tup [AV.sli 0 [], AV.slc false (Itp.sub (Tok.cs c) 0 (mnI (↑(Itp.len (Tok.cs c)) : Int) 2).toNat)]) else none else some (AV.tup [AV.sli 0 [], AV.sli 0 []]) else bif op == 7 then bif decide (0 ≤ mnI (↑(Itp.len (Tok.cs c)) : Int) 2) && decide (mnI (↑(Itp.len (Tok.cs c)) : Int) 2 ≤ (↑(Itp.len (Tok.cs c)) : Int)) then some (AV.tup [AV.sli 0 [], AV.slc false (Itp.sub (Tok.cs c) 0 (mnI (↑(Itp.len (Tok.cs c)) : Int) 2).toNat)]) else none else some (AV.tup [AV.sli 0 [], AV.sli 0 []]) := by
  kernel_rfl
theorem size_turn (k : Nat) (n i op p q : Int) (a : List E) (F : List V → Hp Tok → Option (Lf Tok)) : evTurn Itp Try.prog (fromList (N5k k)) szK (szlsp k) Try.f15 3 2 F [.ref 0 0, iA n, iA i] [some [.int .i64 op, .int .i64 p, .int .i64 q, .slc false (.es a)], none] =
    bif decide (i < (↑(Itp.len (Tok.es a)) : Int)) then bif decide (0 ≤ i) && decide (i < (↑(Itp.len (Tok.es a)) : Int)) then bif (bE (E.mk (a.getD i.toNat zE).op (a.getD i.toNat zE).n (a.getD i.toNat zE).v (a.getD i.toNat zE).a)).blt k && (bE (E.mk (a.getD i.toNat zE).op (a.getD i.toNat zE).n (a.getD i.toNat zE).v (a.getD i.toNat zE).a)).ble big then F [AV.ref 0 0, AV.int IntKind.i64 (IntKind.i64.wrap (n + wsE (E.mk (a.getD i.toNat zE).op (a.getD i.toNat zE).n (a.getD i.toNat zE).v (a.getD i.toNat zE).a))), AV.int IntKind.i64 (IntKind.i64.wrap (i + 1))] [some [AV.int IntKind.i64 op, AV.int IntKind.i64 p, AV.int IntKind.i64 q, AV.slc false (Tok.es a)], none] else none else none else some (X.exit 0, [AV.int IntKind.i64 n], [some [AV.int IntKind.i64 op, AV.int IntKind.i64 p, AV.int IntKind.i64 q, AV.slc false (Tok.es a)], none]) := by
  kernel_rfl
theorem size_ev (k : Nat) (op p q : Int) (a : List E) : evFn Itp Try.prog (fromList (N5k k)) szK (szlsp k) Try.f15 [.agg [.int .i64 op, .int .i64 p, .int .i64 q, .slc false (.es a)]] some =
    bif okI 0 a.length && ((bL a).blt k && (bL a).ble big) then some (AV.int IntKind.i64 (wsL (List.drop 0 a) 1)) else none := by
  kernel_rfl
theorem sizec3_turn (k : Nat) (n i op : Int) (a : List E) (c : List C) (F : List V → Hp Tok → Option (Lf Tok)) : evTurn Itp Try.prog (fromList (N6k k)) scK (sclsp k) Try.f18 3 2 F [.ref 0 0, iA n, iA i] [some [.int .i64 op, .slc false (.es a), .slc false (.cs c)], none] =
    bif decide (i < (↑(Itp.len (Tok.es a)) : Int)) then bif decide (0 ≤ i) && decide (i < (↑(Itp.len (Tok.es a)) : Int)) then bif (bE (E.mk (a.getD i.toNat zE).op (a.getD i.toNat zE).n (a.getD i.toNat zE).v (a.getD i.toNat zE).a)).ble big then F [AV.ref 0 0, AV.int IntKind.i64 (IntKind.i64.wrap (n + wsE (E.mk (a.getD i.toNat zE).op (a.getD i.toNat zE).n (a.getD i.toNat zE).v (a.getD i.toNat zE).a))), AV.int IntKind.i64 (IntKind.i64.wrap (i + 1))] [some [AV.int IntKind.i64 op, AV.slc false (Tok.es a), AV.slc false (Tok.cs c)], none] else none else none else some (X.exit 0, [AV.ref 0 0, AV.int IntKind.i64 n], [some [AV.int IntKind.i64 op, AV.slc false (Tok.es a), AV.slc false (Tok.cs c)], none]) := by
  kernel_rfl
theorem sizec7_turn (k : Nat) (n i op : Int) (a : List E) (c : List C) (F : List V → Hp Tok → Option (Lf Tok)) : evTurn Itp Try.prog (fromList (N6k k)) scK (sclsp k) Try.f18 7 2 F [.ref 0 0, iA n, iA i] [some [.int .i64 op, .slc false (.es a), .slc false (.cs c)], none] =
    bif decide (i < (↑(Itp.len (Tok.cs c)) : Int)) then bif decide (0 ≤ i) && decide (i < (↑(Itp.len (Tok.cs c)) : Int)) then bif (bC (C.mk (c.getD i.toNat zC).op (c.getD i.toNat zC).a (c.getD i.toNat zC).c)).blt k && (bC (C.mk (c.getD i.toNat zC).op (c.getD i.toNat zC).a (c.getD i.toNat zC).c)).ble big then F [AV.ref 0 0, AV.int IntKind.i64 (IntKind.i64.wrap (n + wsC (C.mk (c.getD i.toNat zC).op (c.getD i.toNat zC).a (c.getD i.toNat zC).c))), AV.int IntKind.i64 (IntKind.i64.wrap (i + 1))] [some [AV.int IntKind.i64 op, AV.slc false (Tok.es a), AV.slc false (Tok.cs c)], none] else none else none else some (X.exit 2, [AV.int IntKind.i64 n], [some [AV.int IntKind.i64 op, AV.slc false (Tok.es a), AV.slc false (Tok.cs c)], none]) := by
  kernel_rfl
theorem sizec_ev (k : Nat) (op : Int) (a : List E) (c : List C) : evFn Itp Try.prog (fromList (N6k k)) scK (sclsp k) Try.f18 [.agg [.int .i64 op, .slc false (.es a), .slc false (.cs c)]] some =
    bif okI 0 a.length && (bL a).ble big then bif okI 0 c.length && ((bCL c).blt k && (bCL c).ble big) then some (AV.int IntKind.i64 (wsCL (List.drop 0 c) (wsL (List.drop 0 a) 1))) else none else none := by
  kernel_rfl
theorem dep_turn (k : Nat) (d m i op p q : Int) (a b : List E) (F : List V → Hp Tok → Option (Lf Tok)) : evTurn Itp Try.prog (fromList (N7k k)) dpK (dplsp k) Try.f30 3 2 F [iA d, .slc false (.es a), iA m, iA i] [some [.int .i64 op, .int .i64 p, .int .i64 q, .slc false (.es b)], none] =
    bif decide (i < m) then bif decide (0 ≤ i) && decide (i < (↑(Itp.len (Tok.es a)) : Int)) then bif (bE (E.mk (a.getD i.toNat zE).op (a.getD i.toNat zE).n (a.getD i.toNat zE).v (a.getD i.toNat zE).a)).blt k && (bE (E.mk (a.getD i.toNat zE).op (a.getD i.toNat zE).n (a.getD i.toNat zE).v (a.getD i.toNat zE).a)).ble big then F [AV.int IntKind.i64 (mxI d (dpE (E.mk (a.getD i.toNat zE).op (a.getD i.toNat zE).n (a.getD i.toNat zE).v (a.getD i.toNat zE).a))), AV.slc false (Tok.es a), AV.int IntKind.i64 m, AV.int IntKind.i64 (IntKind.i64.wrap (i + 1))] [some [AV.int IntKind.i64 op, AV.int IntKind.i64 p, AV.int IntKind.i64 q, AV.slc false (Tok.es b)], none] else none else none else some (X.exit 0, [AV.int IntKind.i64 d], [some [AV.int IntKind.i64 op, AV.int IntKind.i64 p, AV.int IntKind.i64 q, AV.slc false (Tok.es b)], none]) := by
  kernel_rfl
theorem dep_ev (k : Nat) (op p q : Int) (a : List E) : evFn Itp Try.prog (fromList (N7k k)) dpK (dplsp k) Try.f30 [.agg [.int .i64 op, .int .i64 p, .int .i64 q, .slc false (.es a)]] some =
    bif okI 0 (opsE (E.mk op p q a)).length && (decide ((↑(Itp.len (Tok.es (opsE (E.mk op p q a)))) : Int) = (↑(opsE (E.mk op p q a)).length : Int)) && ((bL (opsE (E.mk op p q a))).blt k && (bL (opsE (E.mk op p q a))).ble big)) then some (AV.int IntKind.i64 (IntKind.i64.wrap (mxL (List.drop 0 (opsE (E.mk op p q a))) 0 + 1))) else none := by
  kernel_rfl
theorem depc4_turn (k : Nat) (d m i op : Int) (a x : List E) (z y : List C) (F : List V → Hp Tok → Option (Lf Tok)) : evTurn Itp Try.prog (fromList (N8k k)) dcK (dclsp k) Try.f21 4 2 F [iA d, .slc false (.cs z), .slc false (.es a), iA m, iA i] [some [.int .i64 op, .slc false (.es x), .slc false (.cs y)], none] =
    bif decide (i < m) then bif decide (0 ≤ i) && decide (i < (↑(Itp.len (Tok.es a)) : Int)) then bif (bE (E.mk (a.getD i.toNat zE).op (a.getD i.toNat zE).n (a.getD i.toNat zE).v (a.getD i.toNat zE).a)).ble big then F [AV.int IntKind.i64 (mxI d (dpE (E.mk (a.getD i.toNat zE).op (a.getD i.toNat zE).n (a.getD i.toNat zE).v (a.getD i.toNat zE).a))), AV.slc false (Tok.cs z), AV.slc false (Tok.es a), AV.int IntKind.i64 m, AV.int IntKind.i64 (IntKind.i64.wrap (i + 1))] [some [AV.int IntKind.i64 op, AV.slc false (Tok.es x), AV.slc false (Tok.cs y)], none] else none else none else some (X.exit 0, [AV.int IntKind.i64 d, AV.slc false (Tok.cs z)], [some [AV.int IntKind.i64 op, AV.slc false (Tok.es x), AV.slc false (Tok.cs y)], none]) := by
  kernel_rfl
theorem depc9_turn (k : Nat) (d m i op : Int) (x : List E) (z y : List C) (F : List V → Hp Tok → Option (Lf Tok)) : evTurn Itp Try.prog (fromList (N8k k)) dcK (dclsp k) Try.f21 9 2 F [iA d, .slc false (.cs z), iA m, iA i] [some [.int .i64 op, .slc false (.es x), .slc false (.cs y)], none] =
    bif decide (i < m) then bif decide (0 ≤ i) && decide (i < (↑(Itp.len (Tok.cs z)) : Int)) then bif (bC (C.mk (z.getD i.toNat zC).op (z.getD i.toNat zC).a (z.getD i.toNat zC).c)).blt k && (bC (C.mk (z.getD i.toNat zC).op (z.getD i.toNat zC).a (z.getD i.toNat zC).c)).ble big then F [AV.int IntKind.i64 (mxI d (dpC (C.mk (z.getD i.toNat zC).op (z.getD i.toNat zC).a (z.getD i.toNat zC).c))), AV.slc false (Tok.cs z), AV.int IntKind.i64 m, AV.int IntKind.i64 (IntKind.i64.wrap (i + 1))] [some [AV.int IntKind.i64 op, AV.slc false (Tok.es x), AV.slc false (Tok.cs y)], none] else none else none else some (X.exit 2, [AV.int IntKind.i64 d], [some [AV.int IntKind.i64 op, AV.slc false (Tok.es x), AV.slc false (Tok.cs y)], none]) := by
  kernel_rfl
theorem depc_ev (k : Nat) (op : Int) (a : List E) (c : List C) : evFn Itp Try.prog (fromList (N8k k)) dcK (dclsp k) Try.f21 [.agg [.int .i64 op, .slc false (.es a), .slc false (.cs c)]] some =
    bif okI 0 (ptE (C.mk op a c)).length && (decide ((↑(Itp.len (Tok.es (ptE (C.mk op a c)))) : Int) = (↑(ptE (C.mk op a c)).length : Int)) && (bL (ptE (C.mk op a c))).ble big) then bif okI 0 (ptC (C.mk op a c)).length && (decide ((↑(Itp.len (Tok.cs (ptC (C.mk op a c)))) : Int) = (↑(ptC (C.mk op a c)).length : Int)) && (okD (mxL (List.drop 0 (ptE (C.mk op a c))) 0) && ((bCL (ptC (C.mk op a c))).blt k && (bCL (ptC (C.mk op a c))).ble big))) then some (AV.int IntKind.i64 (IntKind.i64.wrap (mxCL (List.drop 0 (ptC (C.mk op a c))) (mxL (List.drop 0 (ptE (C.mk op a c))) 0) + 1))) else none else none := by
  kernel_rfl
end Go.Proofs.Ytbbnefpjnjjibaa.Num
/-! Sizes and depths: contracts. -/
namespace Go.Proofs.Ytbbnefpjnjjibaa.Num
set_option linter.unusedVariables false
set_option linter.unusedSimpArgs false
set_option linter.unusedSectionVars false
set_option linter.unnecessarySimpa false
open Go.Proofs.Ytbbnefpjnjjibaa.Ev Go.RowKit Go.Proofs.Ytbbnefpjnjjibaa.Span
set_option maxRecDepth 100000
set_option maxHeartbeats 4000000
theorem drop_step {β : Type} (l : List β) (d : β) {i : Int} (h0 : 0 ≤ i) (h1 : i < l.length) : l.drop i.toNat = l.getD i.toNat d :: l.drop (i + 1).toNat ∧ l.getD i.toNat d ∈ l := by
  have hi : i.toNat < l.length := by omega
  have e : l.getD i.toNat d = l[i.toNat] := by rw [List.getD_eq_getElem?_getD, List.getElem?_eq_getElem hi]; rfl
  rw [e]
  exact ⟨by rw [List.drop_eq_getElem_cons hi, show (i + 1).toNat = i.toNat + 1 by omega], List.getElem_mem hi⟩
theorem drop_end {β : Type} (l : List β) {i : Int} (h : ¬ i < l.length) : l.drop i.toNat = [] := List.drop_eq_nil_of_le (by omega)
theorem len_bL : ∀ a : List E, a.length ≤ bL a
  | [] => Nat.le_refl _
  | x :: r => by rw [bL, List.length_cons]; have := len_bL r; have := bE_pos x; omega
theorem len_bCL : ∀ a : List C, a.length ≤ bCL a
  | [] => Nat.le_refl _
  | x :: r => by rw [bCL, List.length_cons]; have := len_bCL r; have := bC_pos x; omega
theorem bL_take : ∀ (n : Nat) (a : List E), bL (a.take n) ≤ bL a
  | 0, a => by simp [bL]
  | n + 1, [] => by simp
  | n + 1, x :: r => by rw [List.take_succ_cons, bL, bL]; have := bL_take n r; omega
theorem bCL_take : ∀ (n : Nat) (a : List C), bCL (a.take n) ≤ bCL a
  | 0, a => by simp [bCL]
  | n + 1, [] => by simp
  | n + 1, x :: r => by rw [List.take_succ_cons, bCL, bCL]; have := bCL_take n r; omega
mutual
theorem dpE_range : ∀ e : E, 1 ≤ dpE e ∧ dpE e ≤ bE e
  | .mk op n v a => by
    have h := dpL_range a
    rw [dpE, bE]
    split <;> omega
theorem dpL_range : ∀ a : List E, (0 ≤ dp0 a ∧ dp0 a ≤ bL a) ∧ (0 ≤ dp1 a ∧ dp1 a ≤ bL a)
  | [] => by simp [dp0, dp1, bL]
  | x :: r => by
    have h1 := dpE_range x
    have h2 := dpL_range r
    rw [dp0, dp1, bL]
    omega
end
mutual
theorem dpC_range : ∀ c : C, 1 ≤ dpC c ∧ dpC c ≤ bC c
  | .mk op a c => by
    have h := dpL_range a
    have h' := dpCL_range c
    rw [dpC, bC]
    split
    · omega
    · split
      · omega
      · split <;> omega
theorem dpCL_range : ∀ a : List C, (0 ≤ dpc0 a ∧ dpc0 a ≤ bCL a) ∧ (0 ≤ dpc1 a ∧ dpc1 a ≤ bCL a)
  | [] => by simp [dpc0, dpc1, bCL]
  | x :: r => by
    have h1 := dpC_range x
    have h2 := dpCL_range r
    rw [dpc0, dpc1, bCL]
    omega
end
theorem okI_iff {i : Int} {n : Nat} : okI i n = true ↔ 0 ≤ i ∧ i ≤ n := by simp [okI]
theorem okD_iff {i : Int} : okD i = true ↔ 0 ≤ i ∧ i ≤ 1099511627776 := by simp [okD]
theorem lenE (a : List E) : (Itp.len (Tok.es a) : Int) = a.length := rfl
theorem lenC (a : List C) : (Itp.len (Tok.cs a) : Int) = a.length := rfl
theorem ok_num : FnOk Itp Try.prog 13 spNum := by
  intro args v hv
  unfold spNum at hv
  split at hv
  · rename_i a
    have hv := has_ret hv
    subst hv
    exact call_conv (flat S0 Try.func13 (num_ev a)) (.cons (Conv.refl _) .nil) (conv_agg (.cons (Conv.refl _) (.cons (Conv.refl _) (.cons (Conv.refl _) (.cons (conv_nil _ _ _ rfl) .nil)))))
  · exact hv.elim
theorem ok_two : FnOk Itp Try.prog 36 spTwo := by
  intro args v hv
  unfold spTwo at hv
  split at hv
  · rename_i op x y
    split at hv
    · rename_i a b ha hb
      have hv := has_ret hv
      subst hv
      obtain ⟨a0, a1, a2, a3⟩ := a
      obtain ⟨b0, b1, b2, b3⟩ := b
      refine call_conv (flat S0 Try.func36 (two_ev op a0 a1 a2 b0 b1 b2 a3 b3)) (.cons (Conv.refl _) (.cons (asE_conv ha) (.cons (asE_conv hb) .nil))) (conv_agg (.cons (Conv.refl _) (.cons (Conv.refl _) (.cons (Conv.refl _) (.cons ?_ .nil)))))
      exact decE_conv 6 _ _ rfl
    · exact hv.elim
  · exact hv.elim
theorem ok_not : FnOk Itp Try.prog 19 spNot := by
  intro args v hv
  unfold spNot at hv
  split at hv
  · split at hv
    · rename_i c hc
      have hv := has_ret hv
      subst hv
      obtain ⟨op, a, c⟩ := c
      refine call_conv (flat S0 Try.func19 (not_ev op a c)) (.cons (asC_conv hc) .nil) (conv_agg (.cons (Conv.refl _) (.cons (conv_nil _ _ _ rfl) (.cons ?_ .nil))))
      exact decC_conv 6 _ _ rfl
    · exact hv.elim
  · exact hv.elim
theorem ok_both : FnOk Itp Try.prog 20 spBoth := by
  intro args v hv
  unfold spBoth at hv
  split at hv
  · rename_i op x y
    split at hv
    · rename_i c d hc hd
      have hv := has_ret hv
      subst hv
      obtain ⟨a0, a, b⟩ := c
      obtain ⟨b0, a', b'⟩ := d
      refine call_conv (flat S0 Try.func20 (both_ev op a0 b0 a a' b b')) (.cons (Conv.refl _) (.cons (asC_conv hc) (.cons (asC_conv hd) .nil))) (conv_agg (.cons (Conv.refl _) (.cons (conv_nil _ _ _ rfl) (.cons ?_ .nil))))
      exact decC_conv 6 _ _ rfl
    · exact hv.elim
  · exact hv.elim
theorem sub_take {n : Nat} (a : List E) : Itp.sub (Tok.es a) 0 (mnI (Itp.len (Tok.es a) : Int) n).toNat = .es (a.take n) ∧ decide (0 ≤ mnI (Itp.len (Tok.es a) : Int) n) = true ∧ decide (mnI (Itp.len (Tok.es a) : Int) n ≤ (Itp.len (Tok.es a) : Int)) = true := by
  have h : mnI (Itp.len (Tok.es a) : Int) n = (min a.length n : Nat) := by rw [mnI_eq, lenE]; omega
  refine ⟨?_, decide_eq_true (by omega), decide_eq_true (by rw [h, lenE]; omega)⟩
  rw [h]
  show Tok.es ((a.drop 0).take ((min a.length n : Nat) - 0)) = _
  rw [List.drop_zero, Nat.sub_zero, Nat.min_comm, ← List.take_eq_take_min]
theorem sub_takeC {n : Nat} (a : List C) : Itp.sub (Tok.cs a) 0 (mnI (Itp.len (Tok.cs a) : Int) n).toNat = .cs (a.take n) ∧ decide (0 ≤ mnI (Itp.len (Tok.cs a) : Int) n) = true ∧ decide (mnI (Itp.len (Tok.cs a) : Int) n ≤ (Itp.len (Tok.cs a) : Int)) = true := by
  have h : mnI (Itp.len (Tok.cs a) : Int) n = (min a.length n : Nat) := by rw [mnI_eq, lenC]; omega
  refine ⟨?_, decide_eq_true (by omega), decide_eq_true (by rw [h, lenC]; omega)⟩
  rw [h]
  show Tok.cs ((a.drop 0).take ((min a.length n : Nat) - 0)) = _
  rw [List.drop_zero, Nat.sub_zero, Nat.min_comm, ← List.take_eq_take_min]
theorem conv_tup {x y x' y' : V} (h : Conv x x') (k : Conv y y') : Conv (.tup [x, y]) (.tup [x', y']) := by
  intro w M e v hr
  obtain ⟨cs, rfl, hc⟩ := hr.tup_inv
  have := (ConvL.cons h (.cons k .nil)).rep hc
  exact .tup _ _ (by simpa using this.1) fun j z u hz hu => this.2 j z u hz (by simpa using hu)
theorem ok_opds : FnOk Itp Try.prog 54 spOpds := by
  intro args v hv
  unfold spOpds at hv
  split at hv
  · split at hv
    · rename_i e he
      have hv := has_ret hv
      subst hv
      obtain ⟨op, n, q, a⟩ := e
      cases hb : binB op with
      | true =>
        refine call_conv (flat A4 Try.func54 ((opds_ev op n q a).trans ?_)) (.cons (asE_conv he) .nil) (Conv.refl _)
        obtain ⟨h1, h2, h3⟩ := sub_take (n := 2) a
        have ho : opsE (.mk op n q a) = a.take 2 := by simp [opsE, E.op, E.a, hb]
        simp only [show ((2 : Nat) : Int) = 2 from rfl] at h1 h2 h3
        rw [ho]
        rw [h1]
        simp only [hb, Bool.not_true, cond_false, h2, h3, Bool.and_self, cond_true]
      | false =>
        refine call_conv (y := .sli 0 []) (flat A4 Try.func54 ((opds_ev op n q a).trans ?_)) (.cons (asE_conv he) .nil) ?_
        · simp only [hb, Bool.not_false, cond_true]
        · have : opsE (.mk op n q a) = [] := by simp [opsE, E.op, hb]
          rw [this]; exact @conv_nil 0 false (.es []) rfl
    · exact hv.elim
  · exact hv.elim
theorem ok_parts : FnOk Itp Try.prog 44 spParts := by
  intro args v hv
  unfold spParts at hv
  split at hv
  · split at hv
    · rename_i e he
      have hv := has_ret hv
      subst hv
      obtain ⟨op, a, c⟩ := e
      obtain ⟨h1, h2, h3⟩ := sub_take (n := 2) a
      obtain ⟨i1, i2, i3⟩ := sub_takeC (n := 2) c
      obtain ⟨j1, j2, j3⟩ := sub_takeC (n := 1) c
      simp only [show ((2 : Nat) : Int) = 2 from rfl, show ((1 : Nat) : Int) = 1 from rfl] at h1 h2 h3 i1 i2 i3 j1 j2 j3
      by_cases c1 : op = 2 ∨ op = 3 ∨ op = 4
      · refine call_conv (y := .tup [.slc false (.es (a.take 2)), .sli 0 []]) (flat A4 Try.func44 ((parts_ev op a c).trans ?_)) (.cons (asC_conv he) .nil) (conv_tup ?_ ?_)
        · rw [h1]
          rcases c1 with rfl | rfl | rfl <;> simp only [h2, h3, Bool.and_self, cond_true, beq_self_eq_true, cond_false, show ((3 : Int) == 2) = false from rfl, show ((4 : Int) == 2) = false from rfl, show ((4 : Int) == 3) = false from rfl]
        · have : ptE (.mk op a c) = a.take 2 := if_pos c1
          rw [this]; intro w M e v h; exact h
        · have : ptC (.mk op a c) = [] := by
            unfold ptC
            rw [show (C.mk op a c).op = op from rfl, if_neg (by omega), if_neg (by omega)]
          rw [this]; exact @conv_nil 0 false (.cs []) rfl
      · have hE : ptE (.mk op a c) = [] := if_neg c1
        have n2 : op ≠ 2 := by omega
        have n3 : op ≠ 3 := by omega
        have n4 : op ≠ 4 := by omega
        refine call_conv (y := .tup [.sli 0 [], (if op = 5 ∨ op = 6 ∨ op = 7 then .slc false (.cs (ptC (.mk op a c))) else .sli 0 [])]) (flat A4 Try.func44 ((parts_ev op a c).trans ?_)) (.cons (asC_conv he) .nil) (conv_tup ?_ ?_)
        · rw [i1, j1]
          by_cases c5 : op = 5
          · subst c5
            simp only [j2, j3, i2, i3, Bool.and_self, cond_true, cond_false, show ((5 : Int) == 2) = false from rfl, show ((5 : Int) == 3) = false from rfl, show ((5 : Int) == 4) = false from rfl, beq_self_eq_true]; rfl
          by_cases c6 : op = 6
          · subst c6
            simp [ptC, C.op, C.c, i2, i3]
          by_cases c7 : op = 7
          · subst c7
            simp [ptC, C.op, C.c, i2, i3]
          · have m2 : (op == 2) = false := beq_eq_false_iff_ne.mpr n2
            have m3 : (op == 3) = false := beq_eq_false_iff_ne.mpr n3
            have m4 : (op == 4) = false := beq_eq_false_iff_ne.mpr n4
            have m5 : (op == 5) = false := beq_eq_false_iff_ne.mpr c5
            have m6 : (op == 6) = false := beq_eq_false_iff_ne.mpr c6
            have m7 : (op == 7) = false := beq_eq_false_iff_ne.mpr c7
            simp only [m2, m3, m4, m5, m6, m7, cond_false]
            rw [if_neg (by omega)]
        · rw [hE]; exact @conv_nil 0 false (.es []) rfl
        · split
          · intro w M e v h; exact h
          · rename_i h
            have : ptC (.mk op a c) = [] := by
              unfold ptC
              rw [show (C.mk op a c).op = op from rfl, if_neg (by omega), if_neg (by omega)]
            rw [this]; exact @conv_nil 0 false (.cs []) rfl
    · exact hv.elim
  · exact hv.elim
theorem A5 : SpecOk Itp Try.prog (fromList N5) :=
  specOk_cons (en _ _ Try.func13) ok_num <| specOk_cons (en _ _ Try.func36) ok_two <| specOk_cons (en _ _ Try.func19) ok_not <| specOk_cons (en _ _ Try.func20) ok_both <|
  specOk_cons (en _ _ Try.func54) ok_opds <| specOk_cons (en _ _ Try.func44) ok_parts A4
end Go.Proofs.Ytbbnefpjnjjibaa.Num
/-! Sizes and depths: the contracts of the functions with loops. -/
namespace Go.Proofs.Ytbbnefpjnjjibaa.Num
set_option linter.unusedVariables false
set_option linter.unusedSimpArgs false
set_option linter.unusedSectionVars false
set_option linter.unnecessarySimpa false
open Go.Proofs.Ytbbnefpjnjjibaa.Ev Go.RowKit Go.Proofs.Ytbbnefpjnjjibaa.Span
set_option maxRecDepth 100000
set_option maxHeartbeats 4000000
theorem body_ok {f : Func} {c : Code} (h : f.body = some c) : c = f.body.getD .skip := by rw [h]; rfl
theorem size3_key (k : Nat) (op p q : Int) (a : List E) (h1 : (bL a).blt k = true) (h2 : (bL a).ble big = true) : ∀ (m : Nat) (n i : Int), 0 ≤ i → i ≤ a.length → (a.length - i).toNat < m →
    ∃ j, evBody Itp Try.prog (fromList (N5k k)) szK (szlsp k) Try.f15 3 2 j [.ref 0 0, iA n, iA i] [some [.int .i64 op, .int .i64 p, .int .i64 q, .slc false (.es a)], none] = some (.exit 0, [iA (wsL (a.drop i.toNat) n)], [some [.int .i64 op, .int .i64 p, .int .i64 q, .slc false (.es a)], none]) := by
  have g1 := Nat.blt_eq.mp h1
  have g2 := Nat.le_of_ble_eq_true h2
  have hlen := len_bL a
  unfold big at g2
  intro m
  induction m with
  | zero => intro n i _ _ h; exact absurd h (Nat.not_lt_zero _)
  | succ m ih =>
    intro n i h0 hle hlt
    by_cases c : i < a.length
    · obtain ⟨hd, hm⟩ := drop_step a zE h0 c
      have hb := bL_mem hm
      obtain ⟨j, hj⟩ := ih (IntKind.i64.wrap (n + wsE (a.getD i.toNat zE))) (i + 1) (by omega) (by omega) (by omega)
      refine ⟨j + 1, ?_⟩
      rw [evBody_succ, hd, wsL]
      refine (size_turn k n i op p q a _).trans ?_
      have r1 : (bE (a.getD i.toNat zE)).blt k = true := Nat.blt_eq.mpr (by omega)
      have r2 : (bE (a.getD i.toNat zE)).ble big = true := Nat.ble_eq.mpr (by unfold big; omega)
      have e1 : decide (i < (Itp.len (Tok.es a) : Int)) = true := decide_eq_true c
      simp only [eta_E, e1, r1, r2, h0, decide_true, Bool.and_self, cond_true, wrap_of (n := i + 1) (by omega) (by omega)]
      exact hj
    · refine ⟨1, ?_⟩
      rw [evBody_succ, drop_end a c, wsL]
      refine (size_turn k n i op p q a _).trans ?_
      have e1 : decide (i < (Itp.len (Tok.es a) : Int)) = false := decide_eq_false c
      simp only [e1, cond_false]
theorem szlsp_ok (k : Nat) (id : Nat) (vals : List V) (hp : Hp Tok) (l : Lf Tok) (h : (szlsp k id vals hp).Has l) : ∃ n, evBody Itp Try.prog (fromList (N5k k)) szK (szlsp k) Try.f15 id hp.length n vals hp = some l := by
  unfold szlsp at h
  split at h
  · unfold szL3 at h
    split at h
    · rename_i n i op p q a
      obtain ⟨h1, hv⟩ := has_br h
      have hv := has_ret hv
      subst hv
      simp only [Bool.and_eq_true, okI_iff] at h1
      exact size3_key k op p q a h1.2.1 h1.2.2 _ n i h1.1.1 h1.1.2 (Nat.lt_succ_self _)
    · exact h.elim
  · exact h.elim
theorem size_key (k : Nat) (hk : FnOk Itp Try.prog 15 (spSizeK k)) (e : E) (he : bE e < k + 1) (hb : bE e ≤ big) : CallOk Itp Try.prog 15 [encE e] (iA (wsE e)) := by
  obtain ⟨op, p, q, a⟩ := e
  rw [bE] at he hb
  have hlen := len_bL a
  unfold big at hb
  refine fn_sound (keep := szK) (lsp := szlsp k) (specOk_cons (en _ _ Try.func15) hk A5) hm Try.func15 (fun c hc => loopOk_of hc (by rw [body_ok hc]; kernel_rfl) (szlsp_ok k)) ((size_ev k op p q a).trans ?_)
  have e1 : okI 0 a.length = true := okI_iff.2 (by omega)
  have e2 : (bL a).blt k = true := Nat.blt_eq.mpr (by omega)
  have e3 : (bL a).ble big = true := Nat.ble_eq.mpr (by unfold big; omega)
  simp only [e1, e2, e3, Bool.and_self, cond_true, List.drop_zero, wsE, iA]
theorem ok_sizeK : ∀ k, FnOk Itp Try.prog 15 (spSizeK k)
  | 0 => by
    intro args v hv
    unfold spSizeK at hv
    split at hv
    · split at hv
      · obtain ⟨h, _⟩ := has_br hv
        simp only [Bool.and_eq_true] at h
        have := Nat.blt_eq.mp h.1; omega
      · exact hv.elim
    · exact hv.elim
  | k + 1 => by
    intro args v hv
    unfold spSizeK at hv
    split at hv
    · split at hv
      · rename_i e h1
        obtain ⟨h, hv⟩ := has_br hv
        have hv := has_ret hv
        subst hv
        simp only [Bool.and_eq_true] at h
        exact call_conv (size_key k (ok_sizeK k) e (Nat.blt_eq.mp h.1) (Nat.le_of_ble_eq_true h.2)) (.cons (asE_conv h1) .nil) (Conv.refl _)
      · exact hv.elim
    · exact hv.elim
theorem ok_size : FnOk Itp Try.prog 15 spSize := by
  intro args v hv
  unfold spSize at hv
  split at hv
  · split at hv
    · rename_i e h1
      obtain ⟨h, hv⟩ := has_br hv
      have hv := has_ret hv
      subst hv
      exact call_conv (size_key (bE e) (ok_sizeK _) e (Nat.lt_succ_self _) (Nat.le_of_ble_eq_true h)) (.cons (asE_conv h1) .nil) (Conv.refl _)
    · exact hv.elim
  · exact hv.elim
theorem A6 : SpecOk Itp Try.prog (fromList N6) := specOk_cons (en _ _ Try.func15) ok_size A5
theorem sizec3_key (k : Nat) (op : Int) (a : List E) (z : List C) (h2 : (bL a).ble big = true) : ∀ (m : Nat) (n i : Int), 0 ≤ i → i ≤ a.length → (a.length - i).toNat < m →
    ∃ j, evBody Itp Try.prog (fromList (N6k k)) scK (sclsp k) Try.f18 3 2 j [.ref 0 0, iA n, iA i] [some [.int .i64 op, .slc false (.es a), .slc false (.cs z)], none] = some (.exit 0, [.ref 0 0, iA (wsL (a.drop i.toNat) n)], [some [.int .i64 op, .slc false (.es a), .slc false (.cs z)], none]) := by
  have g2 := Nat.le_of_ble_eq_true h2
  have hlen := len_bL a
  unfold big at g2
  intro m
  induction m with
  | zero => intro n i _ _ h; exact absurd h (Nat.not_lt_zero _)
  | succ m ih =>
    intro n i h0 hle hlt
    by_cases c : i < a.length
    · obtain ⟨hd, hm⟩ := drop_step a zE h0 c
      have hb := bL_mem hm
      obtain ⟨j, hj⟩ := ih (IntKind.i64.wrap (n + wsE (a.getD i.toNat zE))) (i + 1) (by omega) (by omega) (by omega)
      refine ⟨j + 1, ?_⟩
      rw [evBody_succ, hd, wsL]
      refine (sizec3_turn k n i op a z _).trans ?_
      have r2 : (bE (a.getD i.toNat zE)).ble big = true := Nat.ble_eq.mpr (by unfold big; omega)
      have e1 : decide (i < (Itp.len (Tok.es a) : Int)) = true := decide_eq_true c
      simp only [eta_E, e1, r2, h0, decide_true, Bool.and_self, cond_true, wrap_of (n := i + 1) (by omega) (by omega)]
      exact hj
    · refine ⟨1, ?_⟩
      rw [evBody_succ, drop_end a c, wsL]
      refine (sizec3_turn k n i op a z _).trans ?_
      have e1 : decide (i < (Itp.len (Tok.es a) : Int)) = false := decide_eq_false c
      simp only [e1, cond_false]
theorem sizec7_key (k : Nat) (op : Int) (a : List E) (z : List C) (h1 : (bCL z).blt k = true) (h2 : (bCL z).ble big = true) : ∀ (m : Nat) (n i : Int), 0 ≤ i → i ≤ z.length → (z.length - i).toNat < m →
    ∃ j, evBody Itp Try.prog (fromList (N6k k)) scK (sclsp k) Try.f18 7 2 j [.ref 0 0, iA n, iA i] [some [.int .i64 op, .slc false (.es a), .slc false (.cs z)], none] = some (.exit 2, [iA (wsCL (z.drop i.toNat) n)], [some [.int .i64 op, .slc false (.es a), .slc false (.cs z)], none]) := by
  have g1 := Nat.blt_eq.mp h1
  have g2 := Nat.le_of_ble_eq_true h2
  have hlen := len_bCL z
  unfold big at g2
  intro m
  induction m with
  | zero => intro n i _ _ h; exact absurd h (Nat.not_lt_zero _)
  | succ m ih =>
    intro n i h0 hle hlt
    by_cases c : i < z.length
    · obtain ⟨hd, hm⟩ := drop_step z zC h0 c
      have hb := bCL_mem hm
      obtain ⟨j, hj⟩ := ih (IntKind.i64.wrap (n + wsC (z.getD i.toNat zC))) (i + 1) (by omega) (by omega) (by omega)
      refine ⟨j + 1, ?_⟩
      rw [evBody_succ, hd, wsCL]
      refine (sizec7_turn k n i op a z _).trans ?_
      have r1 : (bC (z.getD i.toNat zC)).blt k = true := Nat.blt_eq.mpr (by omega)
      have r2 : (bC (z.getD i.toNat zC)).ble big = true := Nat.ble_eq.mpr (by unfold big; omega)
      have e1 : decide (i < (Itp.len (Tok.cs z) : Int)) = true := decide_eq_true c
      simp only [eta_C, e1, r1, r2, h0, decide_true, Bool.and_self, cond_true, wrap_of (n := i + 1) (by omega) (by omega)]
      exact hj
    · refine ⟨1, ?_⟩
      rw [evBody_succ, drop_end z c, wsCL]
      refine (sizec7_turn k n i op a z _).trans ?_
      have e1 : decide (i < (Itp.len (Tok.cs z) : Int)) = false := decide_eq_false c
      simp only [e1, cond_false]
theorem sclsp_ok (k : Nat) (id : Nat) (vals : List V) (hp : Hp Tok) (l : Lf Tok) (h : (sclsp k id vals hp).Has l) : ∃ n, evBody Itp Try.prog (fromList (N6k k)) scK (sclsp k) Try.f18 id hp.length n vals hp = some l := by
  unfold sclsp at h
  split at h
  · unfold scL3 at h
    split at h
    · rename_i n i op a z
      obtain ⟨h1, hv⟩ := has_br h
      have hv := has_ret hv
      subst hv
      simp only [Bool.and_eq_true, okI_iff] at h1
      exact sizec3_key k op a z h1.2 _ n i h1.1.1 h1.1.2 (Nat.lt_succ_self _)
    · exact h.elim
  · unfold scL7 at h
    split at h
    · rename_i n i op a z
      obtain ⟨h1, hv⟩ := has_br h
      have hv := has_ret hv
      subst hv
      simp only [Bool.and_eq_true, okI_iff] at h1
      exact sizec7_key k op a z h1.2.1 h1.2.2 _ n i h1.1.1 h1.1.2 (Nat.lt_succ_self _)
    · exact h.elim
  · exact h.elim
theorem sizec_key (k : Nat) (hk : FnOk Itp Try.prog 18 (spSizeCK k)) (e : C) (he : bC e < k + 1) (hb : bC e ≤ big) : CallOk Itp Try.prog 18 [encC e] (iA (wsC e)) := by
  obtain ⟨op, a, z⟩ := e
  rw [bC] at he hb
  have hlen := len_bL a
  have hlen' := len_bCL z
  unfold big at hb
  refine fn_sound (keep := scK) (lsp := sclsp k) (specOk_cons (en _ _ Try.func18) hk A6) hm Try.func18 (fun c hc => loopOk_of hc (by rw [body_ok hc]; kernel_rfl) (sclsp_ok k)) ((sizec_ev k op a z).trans ?_)
  have e1 : okI 0 a.length = true := okI_iff.2 (by omega)
  have e1' : okI 0 z.length = true := okI_iff.2 (by omega)
  have e2 : (bCL z).blt k = true := Nat.blt_eq.mpr (by omega)
  have e3 : (bL a).ble big = true := Nat.ble_eq.mpr (by unfold big; omega)
  have e4 : (bCL z).ble big = true := Nat.ble_eq.mpr (by unfold big; omega)
  simp only [e1, e1', e2, e3, e4, Bool.and_self, cond_true, List.drop_zero, wsC, iA]
theorem ok_sizeCK : ∀ k, FnOk Itp Try.prog 18 (spSizeCK k)
  | 0 => by
    intro args v hv
    unfold spSizeCK at hv
    split at hv
    · split at hv
      · obtain ⟨h, _⟩ := has_br hv
        simp only [Bool.and_eq_true] at h
        have := Nat.blt_eq.mp h.1; omega
      · exact hv.elim
    · exact hv.elim
  | k + 1 => by
    intro args v hv
    unfold spSizeCK at hv
    split at hv
    · split at hv
      · rename_i e h1
        obtain ⟨h, hv⟩ := has_br hv
        have hv := has_ret hv
        subst hv
        simp only [Bool.and_eq_true] at h
        exact call_conv (sizec_key k (ok_sizeCK k) e (Nat.blt_eq.mp h.1) (Nat.le_of_ble_eq_true h.2)) (.cons (asC_conv h1) .nil) (Conv.refl _)
      · exact hv.elim
    · exact hv.elim
theorem ok_sizeC : FnOk Itp Try.prog 18 spSizeC := by
  intro args v hv
  unfold spSizeC at hv
  split at hv
  · split at hv
    · rename_i e h1
      obtain ⟨h, hv⟩ := has_br hv
      have hv := has_ret hv
      subst hv
      exact call_conv (sizec_key (bC e) (ok_sizeCK _) e (Nat.lt_succ_self _) (Nat.le_of_ble_eq_true h)) (.cons (asC_conv h1) .nil) (Conv.refl _)
    · exact hv.elim
  · exact hv.elim
theorem A7 : SpecOk Itp Try.prog (fromList N7) := specOk_cons (en _ _ Try.func18) ok_sizeC A6
end Go.Proofs.Ytbbnefpjnjjibaa.Num
/-! Depths: contracts. -/
namespace Go.Proofs.Ytbbnefpjnjjibaa.Num
set_option linter.unusedVariables false
set_option linter.unusedSimpArgs false
set_option linter.unusedSectionVars false
set_option linter.unnecessarySimpa false
open Go.Proofs.Ytbbnefpjnjjibaa.Ev Go.RowKit Go.Proofs.Ytbbnefpjnjjibaa.Span
set_option maxRecDepth 100000
set_option maxHeartbeats 4000000
theorem mxL_two (a : List E) : mxL (a.take 2) 0 = max (max 0 (dp0 a)) (dp1 a) := by
  match a with
  | [] => rfl
  | [x] => have := dpE_range x; simp only [List.take, mxL, dp0, dp1]; omega
  | x :: y :: r => rfl
theorem mxCL_two (a : List C) (d : Int) (h : 0 ≤ d) : mxCL (a.take 2) d = max (max d (dpc0 a)) (dpc1 a) := by
  match a with
  | [] => simp only [List.take, mxCL, dpc0, dpc1]; omega
  | [x] => have := dpC_range x; simp only [List.take, mxCL, dpc0, dpc1]; omega
  | x :: y :: r => rfl
theorem mxCL_one (a : List C) (d : Int) (h : 0 ≤ d) : mxCL (a.take 1) d = max d (dpc0 a) := by
  match a with
  | [] => simp only [List.take, mxCL, dpc0]; omega
  | x :: r => rfl
theorem dep3_key (k : Nat) (op p q : Int) (a b : List E) (h1 : (bL a).blt k = true) (h2 : (bL a).ble big = true) : ∀ (m : Nat) (d i : Int), 0 ≤ i → i ≤ a.length → (a.length - i).toNat < m →
    ∃ j, evBody Itp Try.prog (fromList (N7k k)) dpK (dplsp k) Try.f30 3 2 j [iA d, .slc false (.es a), iA (a.length : Int), iA i] [some [.int .i64 op, .int .i64 p, .int .i64 q, .slc false (.es b)], none] = some (.exit 0, [iA (mxL (a.drop i.toNat) d)], [some [.int .i64 op, .int .i64 p, .int .i64 q, .slc false (.es b)], none]) := by
  have g1 := Nat.blt_eq.mp h1
  have g2 := Nat.le_of_ble_eq_true h2
  have hlen := len_bL a
  unfold big at g2
  intro m
  induction m with
  | zero => intro n i _ _ h; exact absurd h (Nat.not_lt_zero _)
  | succ m ih =>
    intro d i h0 hle hlt
    by_cases c : i < a.length
    · obtain ⟨hd, hm⟩ := drop_step a zE h0 c
      have hb := bL_mem hm
      obtain ⟨j, hj⟩ := ih (max d (dpE (a.getD i.toNat zE))) (i + 1) (by omega) (by omega) (by omega)
      refine ⟨j + 1, ?_⟩
      rw [evBody_succ, hd, mxL]
      refine (dep_turn k d _ i op p q a b _).trans ?_
      have r1 : (bE (a.getD i.toNat zE)).blt k = true := Nat.blt_eq.mpr (by omega)
      have r2 : (bE (a.getD i.toNat zE)).ble big = true := Nat.ble_eq.mpr (by unfold big; omega)
      have e1 : decide (i < (Itp.len (Tok.es a) : Int)) = true := decide_eq_true c
      simp only [eta_E, e1, c, r1, r2, h0, decide_true, Bool.and_self, cond_true, mxI_eq, wrap_of (n := i + 1) (by omega) (by omega)]
      exact hj
    · refine ⟨1, ?_⟩
      rw [evBody_succ, drop_end a c, mxL]
      refine (dep_turn k d _ i op p q a b _).trans ?_
      simp only [c, decide_false, cond_false]
theorem dplsp_ok (k : Nat) (id : Nat) (vals : List V) (hp : Hp Tok) (l : Lf Tok) (h : (dplsp k id vals hp).Has l) : ∃ n, evBody Itp Try.prog (fromList (N7k k)) dpK (dplsp k) Try.f30 id hp.length n vals hp = some l := by
  unfold dplsp at h
  split at h
  · unfold dpL3 at h
    split at h
    · rename_i d a m i op p q b
      obtain ⟨h1, hv⟩ := has_br h
      have hv := has_ret hv
      subst hv
      simp only [Bool.and_eq_true, okI_iff, decide_eq_true_eq] at h1
      obtain ⟨⟨h0, h1⟩, rfl, _, h3, h4⟩ := h1
      exact dep3_key k op p q a b h3 h4 _ d i h0 h1 (Nat.lt_succ_self _)
    · exact h.elim
  · exact h.elim
theorem dep_key (k : Nat) (hk : FnOk Itp Try.prog 30 (spDepK k)) (e : E) (he : bE e < k + 1) (hb : bE e ≤ big) : CallOk Itp Try.prog 30 [encE e] (iA (dpE e)) := by
  have hr := dpE_range e
  obtain ⟨op, p, q, a⟩ := e
  have hL : bL (opsE (.mk op p q a)) ≤ bL a := by
    unfold opsE
    split
    · exact bL_take 2 a
    · simp [bL]
  have hlen := len_bL (opsE (.mk op p q a))
  have hdp : mxL (opsE (.mk op p q a)) 0 + 1 = dpE (.mk op p q a) := by
    unfold opsE
    rw [dpE, show (E.mk op p q a).op = op from rfl, show (E.mk op p q a).a = a from rfl]
    cases binB op with
    | true => rw [if_pos rfl, if_pos rfl, mxL_two]
    | false => rfl
  rw [bE] at he hb
  unfold big at hb
  rw [bE] at hr
  refine fn_sound (keep := dpK) (lsp := dplsp k) (specOk_cons (en _ _ Try.func30) hk A7) hm Try.func30 (fun c hc => loopOk_of hc (by rw [body_ok hc]; kernel_rfl) (dplsp_ok k)) ((dep_ev k op p q a).trans ?_)
  have e1 : okI 0 (opsE (.mk op p q a)).length = true := okI_iff.2 (by omega)
  have e2 : (bL (opsE (.mk op p q a))).blt k = true := Nat.blt_eq.mpr (by omega)
  have e3 : (bL (opsE (.mk op p q a))).ble big = true := Nat.ble_eq.mpr (by unfold big; omega)
  have e4 : decide ((Itp.len (Tok.es (opsE (.mk op p q a))) : Int) = ((opsE (.mk op p q a)).length : Int)) = true := decide_eq_true rfl
  simp only [e1, e2, e3, e4, Bool.and_self, cond_true, List.drop_zero, hdp]
  rw [wrap_of (by omega) (by omega)]
theorem ok_depK : ∀ k, FnOk Itp Try.prog 30 (spDepK k)
  | 0 => by
    intro args v hv
    unfold spDepK at hv
    split at hv
    · split at hv
      · obtain ⟨h, _⟩ := has_br hv
        simp only [Bool.and_eq_true] at h
        have := Nat.blt_eq.mp h.1; omega
      · exact hv.elim
    · exact hv.elim
  | k + 1 => by
    intro args v hv
    unfold spDepK at hv
    split at hv
    · split at hv
      · rename_i e h1
        obtain ⟨h, hv⟩ := has_br hv
        have hv := has_ret hv
        subst hv
        simp only [Bool.and_eq_true] at h
        exact call_conv (dep_key k (ok_depK k) e (Nat.blt_eq.mp h.1) (Nat.le_of_ble_eq_true h.2)) (.cons (asE_conv h1) .nil) (Conv.refl _)
      · exact hv.elim
    · exact hv.elim
theorem ok_dep : FnOk Itp Try.prog 30 spDep := by
  intro args v hv
  unfold spDep at hv
  split at hv
  · split at hv
    · rename_i e h1
      obtain ⟨h, hv⟩ := has_br hv
      have hv := has_ret hv
      subst hv
      exact call_conv (dep_key (bE e) (ok_depK _) e (Nat.lt_succ_self _) (Nat.le_of_ble_eq_true h)) (.cons (asE_conv h1) .nil) (Conv.refl _)
    · exact hv.elim
  · exact hv.elim
theorem A8 : SpecOk Itp Try.prog (fromList N8) := specOk_cons (en _ _ Try.func30) ok_dep A7
theorem depc4_key (k : Nat) (op : Int) (a x : List E) (z y : List C) (h2 : (bL a).ble big = true) : ∀ (m : Nat) (d i : Int), 0 ≤ i → i ≤ a.length → (a.length - i).toNat < m →
    ∃ j, evBody Itp Try.prog (fromList (N8k k)) dcK (dclsp k) Try.f21 4 2 j [iA d, .slc false (.cs z), .slc false (.es a), iA (a.length : Int), iA i] [some [.int .i64 op, .slc false (.es x), .slc false (.cs y)], none] = some (.exit 0, [iA (mxL (a.drop i.toNat) d), .slc false (.cs z)], [some [.int .i64 op, .slc false (.es x), .slc false (.cs y)], none]) := by
  have g2 := Nat.le_of_ble_eq_true h2
  have hlen := len_bL a
  unfold big at g2
  intro m
  induction m with
  | zero => intro n i _ _ h; exact absurd h (Nat.not_lt_zero _)
  | succ m ih =>
    intro d i h0 hle hlt
    by_cases c : i < a.length
    · obtain ⟨hd, hm⟩ := drop_step a zE h0 c
      have hb := bL_mem hm
      obtain ⟨j, hj⟩ := ih (max d (dpE (a.getD i.toNat zE))) (i + 1) (by omega) (by omega) (by omega)
      refine ⟨j + 1, ?_⟩
      rw [evBody_succ, hd, mxL]
      refine (depc4_turn k d _ i op a x z y _).trans ?_
      have r2 : (bE (a.getD i.toNat zE)).ble big = true := Nat.ble_eq.mpr (by unfold big; omega)
      have e1 : decide (i < (Itp.len (Tok.es a) : Int)) = true := decide_eq_true c
      simp only [eta_E, e1, c, r2, h0, decide_true, Bool.and_self, cond_true, mxI_eq, wrap_of (n := i + 1) (by omega) (by omega)]
      exact hj
    · refine ⟨1, ?_⟩
      rw [evBody_succ, drop_end a c, mxL]
      refine (depc4_turn k d _ i op a x z y _).trans ?_
      simp only [c, decide_false, cond_false]
theorem depc9_key (k : Nat) (op : Int) (x : List E) (z y : List C) (h1 : (bCL z).blt k = true) (h2 : (bCL z).ble big = true) : ∀ (m : Nat) (d i : Int), 0 ≤ i → i ≤ z.length → (z.length - i).toNat < m →
    ∃ j, evBody Itp Try.prog (fromList (N8k k)) dcK (dclsp k) Try.f21 9 2 j [iA d, .slc false (.cs z), iA (z.length : Int), iA i] [some [.int .i64 op, .slc false (.es x), .slc false (.cs y)], none] = some (.exit 2, [iA (mxCL (z.drop i.toNat) d)], [some [.int .i64 op, .slc false (.es x), .slc false (.cs y)], none]) := by
  have g1 := Nat.blt_eq.mp h1
  have g2 := Nat.le_of_ble_eq_true h2
  have hlen := len_bCL z
  unfold big at g2
  intro m
  induction m with
  | zero => intro n i _ _ h; exact absurd h (Nat.not_lt_zero _)
  | succ m ih =>
    intro d i h0 hle hlt
    by_cases c : i < z.length
    · obtain ⟨hd, hm⟩ := drop_step z zC h0 c
      have hb := bCL_mem hm
      obtain ⟨j, hj⟩ := ih (max d (dpC (z.getD i.toNat zC))) (i + 1) (by omega) (by omega) (by omega)
      refine ⟨j + 1, ?_⟩
      rw [evBody_succ, hd, mxCL]
      refine (depc9_turn k d _ i op x z y _).trans ?_
      have r1 : (bC (z.getD i.toNat zC)).blt k = true := Nat.blt_eq.mpr (by omega)
      have r2 : (bC (z.getD i.toNat zC)).ble big = true := Nat.ble_eq.mpr (by unfold big; omega)
      have e1 : decide (i < (Itp.len (Tok.cs z) : Int)) = true := decide_eq_true c
      simp only [eta_C, e1, c, r1, r2, h0, decide_true, Bool.and_self, cond_true, mxI_eq, wrap_of (n := i + 1) (by omega) (by omega)]
      exact hj
    · refine ⟨1, ?_⟩
      rw [evBody_succ, drop_end z c, mxCL]
      refine (depc9_turn k d _ i op x z y _).trans ?_
      simp only [c, decide_false, cond_false]
theorem dclsp_ok (k : Nat) (id : Nat) (vals : List V) (hp : Hp Tok) (l : Lf Tok) (h : (dclsp k id vals hp).Has l) : ∃ n, evBody Itp Try.prog (fromList (N8k k)) dcK (dclsp k) Try.f21 id hp.length n vals hp = some l := by
  unfold dclsp at h
  split at h
  · unfold dcL4 at h
    split at h
    · rename_i d z a m i op x y
      obtain ⟨h1, hv⟩ := has_br h
      have hv := has_ret hv
      subst hv
      simp only [Bool.and_eq_true, okI_iff, decide_eq_true_eq] at h1
      obtain ⟨⟨h0, h1⟩, rfl, _, h4⟩ := h1
      exact depc4_key k op a x z y h4 _ d i h0 h1 (Nat.lt_succ_self _)
    · exact h.elim
  · unfold dcL9 at h
    split at h
    · rename_i d z m i op x y
      obtain ⟨h1, hv⟩ := has_br h
      have hv := has_ret hv
      subst hv
      simp only [Bool.and_eq_true, okI_iff, decide_eq_true_eq] at h1
      obtain ⟨⟨h0, h1⟩, rfl, _, h3, h4⟩ := h1
      exact depc9_key k op x z y h3 h4 _ d i h0 h1 (Nat.lt_succ_self _)
    · exact h.elim
  · exact h.elim
theorem depc_key (k : Nat) (hk : FnOk Itp Try.prog 21 (spDepCK k)) (e : C) (he : bC e < k + 1) (hb : bC e ≤ big) : CallOk Itp Try.prog 21 [encC e] (iA (dpC e)) := by
  have hr := dpC_range e
  obtain ⟨op, a, z⟩ := e
  have hL : bL (ptE (.mk op a z)) ≤ bL a := by
    unfold ptE
    split
    · exact bL_take 2 a
    · simp [bL]
  have hLC : bCL (ptC (.mk op a z)) ≤ bCL z := by
    unfold ptC
    split
    · exact bCL_take 1 z
    · split
      · exact bCL_take 2 z
      · simp [bCL]
  have hlen := len_bL (ptE (.mk op a z))
  have hlen' := len_bCL (ptC (.mk op a z))
  have hD : 0 ≤ mxL (ptE (.mk op a z)) 0 ∧ mxL (ptE (.mk op a z)) 0 ≤ bL a := by
    unfold ptE
    split
    · have := dpL_range a
      rw [show (C.mk op a z).a = a from rfl, mxL_two]; omega
    · simp [mxL]
  have hdp : mxCL (ptC (.mk op a z)) (mxL (ptE (.mk op a z)) 0) + 1 = dpC (.mk op a z) := by
    rw [dpC]
    unfold ptE ptC
    rw [show (C.mk op a z).op = op from rfl, show (C.mk op a z).a = a from rfl, show (C.mk op a z).c = z from rfl]
    by_cases c1 : op = 2 ∨ op = 3 ∨ op = 4
    · rw [if_pos c1, if_pos c1, if_neg (by omega), if_neg (by omega), mxL_two]; rfl
    · rw [if_neg c1, if_neg c1]
      by_cases c5 : op = 5
      · rw [if_pos c5, if_pos c5, mxCL_one _ _ (by simp [mxL])]; rfl
      · rw [if_neg c5, if_neg c5]
        by_cases c6 : op = 6 ∨ op = 7
        · rw [if_pos c6, if_pos c6, mxCL_two _ _ (by simp [mxL])]; rfl
        · rw [if_neg c6, if_neg c6]; rfl
  rw [bC] at he hb hr
  unfold big at hb
  refine fn_sound (keep := dcK) (lsp := dclsp k) (specOk_cons (en _ _ Try.func21) hk A8) hm Try.func21 (fun c hc => loopOk_of hc (by rw [body_ok hc]; kernel_rfl) (dclsp_ok k)) ((depc_ev k op a z).trans ?_)
  have e1 : okI 0 (ptE (.mk op a z)).length = true := okI_iff.2 (by omega)
  have e1' : okI 0 (ptC (.mk op a z)).length = true := okI_iff.2 (by omega)
  have e2 : (bCL (ptC (.mk op a z))).blt k = true := Nat.blt_eq.mpr (by omega)
  have e3 : (bL (ptE (.mk op a z))).ble big = true := Nat.ble_eq.mpr (by unfold big; omega)
  have e3' : (bCL (ptC (.mk op a z))).ble big = true := Nat.ble_eq.mpr (by unfold big; omega)
  have e4 : decide ((Itp.len (Tok.es (ptE (.mk op a z))) : Int) = ((ptE (.mk op a z)).length : Int)) = true := decide_eq_true rfl
  have e4' : decide ((Itp.len (Tok.cs (ptC (.mk op a z))) : Int) = ((ptC (.mk op a z)).length : Int)) = true := decide_eq_true rfl
  have e5 : okD (mxL (ptE (.mk op a z)) 0) = true := okD_iff.2 (by omega)
  simp only [e1, e1', e2, e3, e3', e4, e4', e5, Bool.and_self, cond_true, List.drop_zero, hdp]
  rw [wrap_of (by omega) (by omega)]
theorem ok_depCK : ∀ k, FnOk Itp Try.prog 21 (spDepCK k)
  | 0 => by
    intro args v hv
    unfold spDepCK at hv
    split at hv
    · split at hv
      · obtain ⟨h, _⟩ := has_br hv
        simp only [Bool.and_eq_true] at h
        have := Nat.blt_eq.mp h.1; omega
      · exact hv.elim
    · exact hv.elim
  | k + 1 => by
    intro args v hv
    unfold spDepCK at hv
    split at hv
    · split at hv
      · rename_i e h1
        obtain ⟨h, hv⟩ := has_br hv
        have hv := has_ret hv
        subst hv
        simp only [Bool.and_eq_true] at h
        exact call_conv (depc_key k (ok_depCK k) e (Nat.blt_eq.mp h.1) (Nat.le_of_ble_eq_true h.2)) (.cons (asC_conv h1) .nil) (Conv.refl _)
      · exact hv.elim
    · exact hv.elim
theorem ok_depC : FnOk Itp Try.prog 21 spDepC := by
  intro args v hv
  unfold spDepC at hv
  split at hv
  · split at hv
    · rename_i e h1
      obtain ⟨h, hv⟩ := has_br hv
      have hv := has_ret hv
      subst hv
      exact call_conv (depc_key (bC e) (ok_depCK _) e (Nat.lt_succ_self _) (Nat.le_of_ble_eq_true h)) (.cons (asC_conv h1) .nil) (Conv.refl _)
    · exact hv.elim
  · exact hv.elim
theorem A9 : SpecOk Itp Try.prog (fromList N9) := specOk_cons (en _ _ Try.func21) ok_depC A8
theorem ex_ev  : evFn Itp Try.prog (fromList N9) (fun _ => []) noLoops Try.f10 [] some =
    some (AV.bool true) := by
  kernel_rfl
theorem ok_ex : FnOk Itp Try.prog 10 spTrue := fnOk A9 hm Try.func10 spTrue fun args v hv => by
  unfold spTrue at hv
  split at hv
  · have hv := has_ret hv
    subst hv
    exact ex_ev
  · exact hv.elim
theorem A10 : SpecOk Itp Try.prog (fromList N10) := specOk_cons (en _ _ Try.func10) ok_ex A9
end Go.Proofs.Ytbbnefpjnjjibaa.Num
/-! NumConditions: which regions are walked the second way. -/
namespace Go.Proofs.Ytbbnefpjnjjibaa.Num
set_option linter.unusedVariables false
set_option linter.unusedSimpArgs false
set_option linter.unusedSectionVars false
set_option linter.unnecessarySimpa false
open Go.Proofs.Ytbbnefpjnjjibaa.Ev
def ncK : Nat → List Nat
  | 2004 => [1]
  | 2007 => [1]
  | 2009 => [1]
  | 2011 => [1]
  | 2014 => [1]
  | _ => []
end Go.Proofs.Ytbbnefpjnjjibaa.Num
/-! The law NumConditions. -/
namespace Go.Proofs.Ytbbnefpjnjjibaa.Num
set_option linter.unusedVariables false
set_option linter.unusedSimpArgs false
set_option linter.unusedSectionVars false
set_option linter.unnecessarySimpa false
open Go.Proofs.Ytbbnefpjnjjibaa.Ev Go.RowKit Go.Proofs.Ytbbnefpjnjjibaa.Span
set_option maxRecDepth 100000
set_option maxHeartbeats 4000000
theorem cond_ev (o1 o2 : Int) (a1 a2 : List E) (c1 c2 : List C) (vs : List Int) : evFn Itp Try.prog (fromList N10) ncK noLoops Try.f7 [.agg [.int .i64 o1, .slc false (.es a1), .slc false (.cs c1)], .agg [.int .i64 o2, .slc false (.es a2), .slc false (.cs c2)], .slc false (.ints vs)] some =
    bif (bC (C.mk o1 a1 c1)).ble big then bif (bC (C.mk o2 a2 c2)).ble big || !!decide (wsC (C.mk o1 a1 c1) > 200) then bif bif bif decide (wsC (C.mk o1 a1 c1) > 200) then true else decide (wsC (C.mk o2 a2 c2) > 200) then true else decide ((↑(Itp.len (Tok.ints vs)) : Int) > 100) then some (AV.bool true) else bif bif bif bif hoC vs [] (C.mk (C.mk 5 [] [C.mk o1 a1 c1]).op (C.mk 5 [] [C.mk o1 a1 c1]).a (C.mk 5 [] [C.mk o1 a1 c1]).c) == hoC vs [] (C.mk o1 a1 c1) then true else !hoC vs [] (C.mk (C.mk 5 [] [C.mk (C.mk 5 [] [C.mk o2 a2 c2]).op (C.mk 5 [] [C.mk o2 a2 c2]).a (C.mk 5 [] [C.mk o2 a2 c2]).c]).op (C.mk 5 [] [C.mk (C.mk 5 [] [C.mk o2 a2 c2]).op (C.mk 5 [] [C.mk o2 a2 c2]).a (C.mk 5 [] [C.mk o2 a2 c2]).c]).a (C.mk 5 [] [C.mk (C.mk 5 [] [C.mk o2 a2 c2]).op (C.mk 5 [] [C.mk o2 a2 c2]).a (C.mk 5 [] [C.mk o2 a2 c2]).c]).c) == hoC vs [] (C.mk o2 a2 c2) then true else !hoC vs [] (C.mk (C.mk 6 [] [C.mk o1 a1 c1, C.mk o2 a2 c2]).op (C.mk 6 [] [C.mk o1 a1 c1, C.mk o2 a2 c2]).a (C.mk 6 [] [C.mk o1 a1 c1, C.mk o2 a2 c2]).c) == bif hoC vs [] (C.mk o1 a1 c1) then hoC vs [] (C.mk o2 a2 c2) else false then true else !hoC vs [] (C.mk (C.mk 7 [] [C.mk o1 a1 c1, C.mk o2 a2 c2]).op (C.mk 7 [] [C.mk o1 a1 c1, C.mk o2 a2 c2]).a (C.mk 7 [] [C.mk o1 a1 c1, C.mk o2 a2 c2]).c) == bif hoC vs [] (C.mk o1 a1 c1) then true else hoC vs [] (C.mk o2 a2 c2) then some (AV.bool false) else bif (bC (C.mk (C.mk 5 [] [C.mk o1 a1 c1]).op (C.mk 5 [] [C.mk o1 a1 c1]).a (C.mk 5 [] [C.mk o1 a1 c1]).c)).ble big || !!!hoC vs [] (C.mk (C.mk 5 [] [C.mk (C.mk 6 [] [C.mk o1 a1 c1, C.mk o2 a2 c2]).op (C.mk 6 [] [C.mk o1 a1 c1, C.mk o2 a2 c2]).a (C.mk 6 [] [C.mk o1 a1 c1, C.mk o2 a2 c2]).c]).op (C.mk 5 [] [C.mk (C.mk 6 [] [C.mk o1 a1 c1, C.mk o2 a2 c2]).op (C.mk 6 [] [C.mk o1 a1 c1, C.mk o2 a2 c2]).a (C.mk 6 [] [C.mk o1 a1 c1, C.mk o2 a2 c2]).c]).a (C.mk 5 [] [C.mk (C.mk 6 [] [C.mk o1 a1 c1, C.mk o2 a2 c2]).op (C.mk 6 [] [C.mk o1 a1 c1, C.mk o2 a2 c2]).a (C.mk 6 [] [C.mk o1 a1 c1, C.mk o2 a2 c2]).c]).c) == hoC vs [] (C.mk (C.mk 7 [] [C.mk (C.mk 5 [] [C.mk o1 a1 c1]).op (C.mk 5 [] [C.mk o1 a1 c1]).a (C.mk 5 [] [C.mk o1 a1 c1]).c, C.mk (C.mk 5 [] [C.mk o2 a2 c2]).op (C.mk 5 [] [C.mk o2 a2 c2]).a (C.mk 5 [] [C.mk o2 a2 c2]).c]).op (C.mk 7 [] [C.mk (C.mk 5 [] [C.mk o1 a1 c1]).op (C.mk 5 [] [C.mk o1 a1 c1]).a (C.mk 5 [] [C.mk o1 a1 c1]).c, C.mk (C.mk 5 [] [C.mk o2 a2 c2]).op (C.mk 5 [] [C.mk o2 a2 c2]).a (C.mk 5 [] [C.mk o2 a2 c2]).c]).a (C.mk 7 [] [C.mk (C.mk 5 [] [C.mk o1 a1 c1]).op (C.mk 5 [] [C.mk o1 a1 c1]).a (C.mk 5 [] [C.mk o1 a1 c1]).c, C.mk (C.mk 5 [] [C.mk o2 a2 c2]).op (C.mk 5 [] [C.mk o2 a2 c2]).a (C.mk 5 [] [C.mk o2 a2 c2]).c]).c) then bif (bC (C.mk o1 a1 c1)).ble big || !!!hoC vs [] (C.mk (C.mk 5 [] [C.mk (C.mk 6 [] [C.mk o1 a1 c1, C.mk o2 a2 c2]).op (C.mk 6 [] [C.mk o1 a1 c1, C.mk o2 a2 c2]).a (C.mk 6 [] [C.mk o1 a1 c1, C.mk o2 a2 c2]).c]).op (C.mk 5 [] [C.mk (C.mk 6 [] [C.mk o1 a1 c1, C.mk o2 a2 c2]).op (C.mk 6 [] [C.mk o1 a1 c1, C.mk o2 a2 c2]).a (C.mk 6 [] [C.mk o1 a1 c1, C.mk o2 a2 c2]).c]).a (C.mk 5 [] [C.mk (C.mk 6 [] [C.mk o1 a1 c1, C.mk o2 a2 c2]).op (C.mk 6 [] [C.mk o1 a1 c1, C.mk o2 a2 c2]).a (C.mk 6 [] [C.mk o1 a1 c1, C.mk o2 a2 c2]).c]).c) == hoC vs [] (C.mk (C.mk 7 [] [C.mk (C.mk 5 [] [C.mk o1 a1 c1]).op (C.mk 5 [] [C.mk o1 a1 c1]).a (C.mk 5 [] [C.mk o1 a1 c1]).c, C.mk (C.mk 5 [] [C.mk o2 a2 c2]).op (C.mk 5 [] [C.mk o2 a2 c2]).a (C.mk 5 [] [C.mk o2 a2 c2]).c]).op (C.mk 7 [] [C.mk (C.mk 5 [] [C.mk o1 a1 c1]).op (C.mk 5 [] [C.mk o1 a1 c1]).a (C.mk 5 [] [C.mk o1 a1 c1]).c, C.mk (C.mk 5 [] [C.mk o2 a2 c2]).op (C.mk 5 [] [C.mk o2 a2 c2]).a (C.mk 5 [] [C.mk o2 a2 c2]).c]).a (C.mk 7 [] [C.mk (C.mk 5 [] [C.mk o1 a1 c1]).op (C.mk 5 [] [C.mk o1 a1 c1]).a (C.mk 5 [] [C.mk o1 a1 c1]).c, C.mk (C.mk 5 [] [C.mk o2 a2 c2]).op (C.mk 5 [] [C.mk o2 a2 c2]).a (C.mk 5 [] [C.mk o2 a2 c2]).c]).c) then bif bif !hoC vs [] (C.mk (C.mk 5 [] [C.mk (C.mk 6 [] [C.mk o1 a1 c1, C.mk o2 a2 c2]).op (C.mk 6 [] [C.mk o1 a1 c1, C.mk o2 a2 c2]).a (C.mk 6 [] [C.mk o1 a1 c1, C.mk o2 a2 c2]).c]).op (C.mk 5 [] [C.mk (C.mk 6 [] [C.mk o1 a1 c1, C.mk o2 a2 c2]).op (C.mk 6 [] [C.mk o1 a1 c1, C.mk o2 a2 c2]).a (C.mk 6 [] [C.mk o1 a1 c1, C.mk o2 a2 c2]).c]).a (C.mk 5 [] [C.mk (C.mk 6 [] [C.mk o1 a1 c1, C.mk o2 a2 c2]).op (C.mk 6 [] [C.mk o1 a1 c1, C.mk o2 a2 c2]).a (C.mk 6 [] [C.mk o1 a1 c1, C.mk o2 a2 c2]).c]).c) == hoC vs [] (C.mk (C.mk 7 [] [C.mk (C.mk 5 [] [C.mk o1 a1 c1]).op (C.mk 5 [] [C.mk o1 a1 c1]).a (C.mk 5 [] [C.mk o1 a1 c1]).c, C.mk (C.mk 5 [] [C.mk o2 a2 c2]).op (C.mk 5 [] [C.mk o2 a2 c2]).a (C.mk 5 [] [C.mk o2 a2 c2]).c]).op (C.mk 7 [] [C.mk (C.mk 5 [] [C.mk o1 a1 c1]).op (C.mk 5 [] [C.mk o1 a1 c1]).a (C.mk 5 [] [C.mk o1 a1 c1]).c, C.mk (C.mk 5 [] [C.mk o2 a2 c2]).op (C.mk 5 [] [C.mk o2 a2 c2]).a (C.mk 5 [] [C.mk o2 a2 c2]).c]).a (C.mk 7 [] [C.mk (C.mk 5 [] [C.mk o1 a1 c1]).op (C.mk 5 [] [C.mk o1 a1 c1]).a (C.mk 5 [] [C.mk o1 a1 c1]).c, C.mk (C.mk 5 [] [C.mk o2 a2 c2]).op (C.mk 5 [] [C.mk o2 a2 c2]).a (C.mk 5 [] [C.mk o2 a2 c2]).c]).c) then true else dpC (C.mk (C.mk 5 [] [C.mk o1 a1 c1]).op (C.mk 5 [] [C.mk o1 a1 c1]).a (C.mk 5 [] [C.mk o1 a1 c1]).c) != IntKind.i64.wrap (dpC (C.mk o1 a1 c1) + 1) then some (AV.bool false) else bif bif o1 != 2 then true else decide ((↑(Itp.len (Tok.es a1)) : Int) < 2) then some (AV.bool true) else bif decide (1 < (↑(Itp.len (Tok.es a1)) : Int)) then bif decide (0 < (↑(Itp.len (Tok.es a1)) : Int)) then some (AV.bool (bif !hoC vs [] (C.mk 3 [E.mk (a1.getD 1 zE).op (a1.getD 1 zE).n (a1.getD 1 zE).v (a1.getD 1 zE).a, E.mk (a1.getD 0 zE).op (a1.getD 0 zE).n (a1.getD 0 zE).v (a1.getD 0 zE).a] []) == hoC vs [] (C.mk o1 a1 c1) then true else false)) else none else none else none else none else none else none := by
  kernel_rfl
theorem ho_not (vs ls : List Int) (c : C) : hoC vs ls (.mk 5 [] [c]) = !hoC vs ls c := by rw [hoC]; simp [ho0]
theorem ho_and (vs ls : List Int) (c d : C) : hoC vs ls (.mk 6 [] [c, d]) = (hoC vs ls c && hoC vs ls d) := by rw [hoC]; simp [ho0, ho1]
theorem ho_or (vs ls : List Int) (c d : C) : hoC vs ls (.mk 7 [] [c, d]) = (hoC vs ls c || hoC vs ls d) := by rw [hoC]; simp [ho0, ho1]
theorem dp_not (c : C) : dpC (.mk 5 [] [c]) = dpC c + 1 := by
  have := dpC_range c
  rw [dpC, if_neg (by decide), if_pos rfl, dpc0]; omega
theorem b_not (c : C) : bC (.mk 5 [] [c]) = bC c + 1 := by rw [bC, bL, bCL, bCL]; omega
theorem ho_le (vs ls : List Int) (a : List E) (c : List C) (h : 2 ≤ a.length) : hoC vs ls (.mk 3 [a.getD 1 zE, a.getD 0 zE] []) = !hoC vs ls (.mk 2 a c) := by
  match a with
  | [] => simp at h
  | [_] => simp at h
  | x :: y :: r =>
    have h3 : hoC vs ls (.mk 3 [y, x] []) = decide (evE vs ls y ≤ evE vs ls x) := by rw [hoC]; rfl
    have h2 : hoC vs ls (.mk 2 (x :: y :: r) c) = decide (evE vs ls x < evE vs ls y) := by rw [hoC]; rfl
    show hoC vs ls (.mk 3 [y, x] []) = _
    rw [h3, h2]
    by_cases k : evE vs ls x < evE vs ls y
    · rw [decide_eq_true k, decide_eq_false (by omega)]; rfl
    · rw [decide_eq_false k, decide_eq_true (by omega)]; rfl
/-- NumConditions returns true. -/
theorem cond_calls (o1 o2 : Int) (a1 a2 : List E) (c1 c2 : List C) (vs : List Int) (h1 : bC (.mk o1 a1 c1) ≤ 1048576) (h2 : bC (.mk o2 a2 c2) ≤ 1048576) :
    CallOk Itp Try.prog 7 [.agg [.int .i64 o1, .slc false (.es a1), .slc false (.cs c1)], .agg [.int .i64 o2, .slc false (.es a2), .slc false (.cs c2)], .slc false (.ints vs)] (.bool true) := by
  refine fn_sound (keep := ncK) (lsp := noLoops) A10 hm Try.func7 (fun c _ => loopOk_none c) ((cond_ev o1 o2 a1 a2 c1 c2 vs).trans ?_)
  simp only [eta_C, eta_E, ho_not, ho_and, ho_or, dp_not]
  have hw := dpC_range (.mk o1 a1 c1)
  have e1 : (bC (.mk o1 a1 c1)).ble big = true := Nat.ble_eq.mpr (by unfold big; omega)
  have e2 : (bC (.mk o2 a2 c2)).ble big = true := Nat.ble_eq.mpr (by unfold big; omega)
  have e3 : (bC (.mk 5 [] [.mk o1 a1 c1])).ble big = true := Nat.ble_eq.mpr (by rw [b_not]; unfold big; omega)
  have e4 : IntKind.i64.wrap (dpC (.mk o1 a1 c1) + 1) = dpC (.mk o1 a1 c1) + 1 := wrap_of (by omega) (by omega)
  rw [e4]
  simp only [e1, e2, e3, Bool.true_or, cond_true]
  have hle : o1 = 2 → 2 ≤ a1.length → hoC vs [] (.mk 3 [a1.getD 1 zE, a1.getD 0 zE] []) = !hoC vs [] (.mk o1 a1 c1) := fun ho hl => by rw [ho]; exact ho_le vs [] a1 c1 hl
  generalize hoC vs [] (.mk 3 [a1.getD 1 zE, a1.getD 0 zE] []) = Z at *
  generalize hoC vs [] (.mk o1 a1 c1) = X at *
  generalize hoC vs [] (.mk o2 a2 c2) = Y at *
  generalize (bif bif decide (wsC (.mk o1 a1 c1) > 200) then true else decide (wsC (.mk o2 a2 c2) > 200) then true else decide ((Itp.len (Tok.ints vs) : Int) > 100)) = G at *
  cases G with
  | true => rfl
  | false =>
    have hlast : (bif (bif o1 != 2 then true else decide ((Itp.len (Tok.es a1) : Int) < 2)) then some (.bool true : V) else
        bif decide (1 < (Itp.len (Tok.es a1) : Int)) then bif decide (0 < (Itp.len (Tok.es a1) : Int)) then some (.bool (bif !Z == X then true else false)) else none else none) = some (.bool true) := by
      by_cases ho : o1 = 2
      · by_cases hl : 2 ≤ a1.length
        · have d1 : decide ((Itp.len (Tok.es a1) : Int) < 2) = false := decide_eq_false (by rw [lenE]; omega)
          have d2 : decide (1 < (Itp.len (Tok.es a1) : Int)) = true := decide_eq_true (by rw [lenE]; omega)
          have d3 : decide (0 < (Itp.len (Tok.es a1) : Int)) = true := decide_eq_true (by rw [lenE]; omega)
          rw [d1, d2, d3, hle ho hl, ho]
          cases X <;> rfl
        · have d1 : decide ((Itp.len (Tok.es a1) : Int) < 2) = true := decide_eq_true (by rw [lenE]; omega)
          rw [d1, ho]; rfl
      · rw [show (o1 != 2) = true by simpa using ho]; rfl
    simp only [bne_self_eq_false, cond_false]
    rw [hlast]
    cases X <;> cases Y <;> rfl
end Go.Proofs.Ytbbnefpjnjjibaa.Num
/- From the reading of an argument to the trees that the contracts speak of. No condition. -/
namespace Go.Proofs.Ytbbnefpjnjjibaa.Tree
set_option linter.unusedVariables false
set_option linter.unusedSimpArgs false
set_option linter.unusedSectionVars false
set_option linter.unnecessarySimpa false
open Go.RowKit Go.Proofs.Ytbbnefpjnjjibaa.Ev Go.Proofs.Ytbbnefpjnjjibaa.Num
theorem addr_two (a : Addr) (i j : Nat) : (a.add i).add j = a.add (i + j) := by
  unfold Addr.add
  by_cases h : i = 0 <;> by_cases k : j = 0 <;> simp [h, k, Nat.add_assoc]
section
variable {H : Type} {α β : Type}
theorem bulk_pos {H : Type} (d : DataW H) : 1 ≤ Rows.uptoBulk d := by
  cases d with
  | lit l => cases l <;> simp [Rows.uptoBulk]
  | nil => simp [Rows.uptoBulk]
  | ptr d => simp [Rows.uptoBulk]
  | slice elems spare => simp [Rows.uptoBulk]
  | agg parts => simp [Rows.uptoBulk]
  | iface t d => simp [Rows.uptoBulk]
  | map entries => simp [Rows.uptoBulk]
  | held h => simp [Rows.uptoBulk]
theorem bulk_part {H : Type} {d : DataW H} {l : List (DataW H)} (h : d ∈ l) : Rows.uptoBulk d ≤ Rows.uptoBulkAll l := by
  induction l with
  | nil => cases h
  | cons x r ih =>
    simp only [Rows.uptoBulkAll]
    cases List.mem_cons.1 h with
    | inl e => subst e; omega
    | inr e => have := ih e; omega
theorem bulk_small {H : Type} {l : List (DataW H)} (hk : Rows.uptoSmall H l = true) : Rows.uptoBulkAll l ≤ 1048576 := by
  unfold Rows.uptoSmall at hk
  exact of_decide_eq_true hk
abbrev RepW (W : World) (xs : List V) (cs : List Value) : Prop := RepL Itp W (fun _ => False) (fun _ => none) xs cs
/-- Readings of type t read as values of α (by code), of a size that is at most the bulk; fuel up to m. -/
def Opens (enc : TypeId × Value → H) (P : Program) (W : World) (m : Nat) (t : TypeId) (code : α → List V) (size : α → Nat) : Prop :=
  ∀ fuel, fuel ≤ m → ∀ cs x, DataW.trod enc P W 0 (fun _ => true) true fuel t cs = some x → ∃ a, RepW W (code a) cs ∧ size a ≤ Rows.uptoBulk x.1
variable {enc : TypeId × Value → H} {P : Program} {W : World} {m : Nat} {t e : TypeId} {code : α → List V} {size : α → Nat}
theorem Opens.le {m' : Nat} (h : Opens enc P W m t code size) (hm : m' ≤ m) : Opens enc P W m' t code size := fun fuel hf => h fuel (Nat.le_trans hf hm)
theorem Opens.map {code' : β → List V} {size' : β → Nat} (h : Opens enc P W m t code size) (f : α → β) (hc : ∀ a, code' (f a) = code a) (hs : ∀ a, size' (f a) ≤ size a) : Opens enc P W m t code' size' := by
  intro fuel hf cs x hx
  obtain ⟨a, h1, h2⟩ := h fuel hf cs x hx
  exact ⟨f a, by rw [hc]; exact h1, Nat.le_trans (hs a) h2⟩
def codeI (n : Int) : List V := [.int .i64 n]
theorem opens_int (ht : P.underlying t = some (.int .i64)) : Opens enc P W m t codeI (fun _ => 1) := by
  intro fuel _ cs x h
  obtain ⟨n, rfl, rfl, hw⟩ := DataW.trod_int ht h
  exact ⟨n, RepL.cons (.int _ _) RepL.nil, bulk_pos _⟩
theorem pick {γ : Type} (R : α → γ → Prop) : ∀ l : List γ, (∀ x ∈ l, ∃ a, R a x) → ∃ bs : List α, bs.length = l.length ∧ ∀ (i : Nat) (a : α), bs[i]? = some a → ∃ x, l[i]? = some x ∧ R a x
  | [], _ => ⟨[], rfl, fun i a h => by simp at h⟩
  | x :: r, h => by
    obtain ⟨a, ha⟩ := h x List.mem_cons_self
    obtain ⟨bs, hl, hg⟩ := pick R r (fun y hy => h y (List.mem_cons_of_mem _ hy))
    refine ⟨a :: bs, by simp [hl], fun i b hb => ?_⟩
    cases i with
    | zero =>
      obtain rfl : a = b := by simpa using hb
      exact ⟨x, rfl, ha⟩
    | succ i => exact hg i b (by simpa using hb)
theorem sizes_le {γ : Type} (f : γ → DataW H) : ∀ (bs : List α) (l : List γ), bs.length = l.length → (∀ (i : Nat) (a : α), bs[i]? = some a → ∃ x, l[i]? = some x ∧ size a ≤ Rows.uptoBulk (f x)) → (bs.map size).sum ≤ Rows.uptoBulkAll (l.map f)
  | [], _, _, _ => by simp
  | a :: bs, [], h, _ => by simp at h
  | a :: bs, x :: r, h, hg => by
    obtain ⟨y, hy, h1⟩ := hg 0 a rfl
    obtain rfl : x = y := by simpa using hy
    have h2 := sizes_le f bs r (by simpa using h) (fun i b hb => hg (i + 1) b (by simpa using hb))
    simp only [List.map_cons, List.sum_cons, Rows.uptoBulkAll]
    omega
/-- Values that are read one behind the other. -/
inductive FieldsRead (enc : TypeId × Value → H) (P : Program) (W : World) (n : Nat) : List TypeId → List Value → List (DataW H × List MemPlace) → Prop
  | nil : FieldsRead enc P W n [] [] []
  | cons {t : TypeId} {ts : List TypeId} {c cs : List Value} {x : DataW H × List MemPlace} {xs : List (DataW H × List MemPlace)} (h : DataW.trod enc P W 0 (fun _ => true) true n t c = some x) (hs : FieldsRead enc P W n ts cs xs) : FieldsRead enc P W n (t :: ts) (c ++ cs) (x :: xs)
/-- Fields one behind the other, from offset o on, to the end (total). -/
def consec (P : Program) : Nat → Nat → List (Nat × TypeId) → Bool
  | o, total, [] => decide (o = total)
  | o, total, (off, t) :: r => decide (off = o) && consec P (o + P.cellsOf t) total r
theorem fieldsRead_of {n total : Nat} {cs : List Value} (hl : cs.length = total) : ∀ (fs : List (Nat × TypeId)) (o : Nat) (xs : List (DataW H × List MemPlace)), xs.length = fs.length → consec P o total fs = true → o ≤ total →
    (∀ (i : Nat) (off : Nat) (t : TypeId), fs[i]? = some (off, t) → DataW.trod enc P W 0 (fun _ => true) true n t ((cs.drop off).take (P.cellsOf t)) = xs[i]?) → FieldsRead enc P W n (fs.map (·.2)) (cs.drop o) xs
  | [], o, xs, hx, hc, ho, h => by
    have e : o = total := of_decide_eq_true hc
    obtain rfl : xs = [] := List.length_eq_zero_iff.1 hx
    rw [List.drop_of_length_le (by omega)]
    exact .nil
  | (off, t) :: r, o, [], hx, hc, ho, h => by simp at hx
  | (off, t) :: r, o, x :: xs, hx, hc, ho, h => by
    simp only [consec, Bool.and_eq_true, decide_eq_true_eq] at hc
    obtain ⟨rfl, hc⟩ := hc
    have h0 := h 0 off t rfl
    have ho2 : off + P.cellsOf t ≤ total := by
      clear h0 h hx
      suffices ∀ (r : List (Nat × TypeId)) (o : Nat), consec P o total r = true → o ≤ total from this r _ hc
      intro r
      induction r with
      | nil => intro o h; have := of_decide_eq_true h; omega
      | cons y r ih =>
        intro o h
        obtain ⟨off', t'⟩ := y
        simp only [consec, Bool.and_eq_true, decide_eq_true_eq] at h
        have := ih _ h.2
        omega
    have e : cs.drop off = (cs.drop off).take (P.cellsOf t) ++ cs.drop (off + P.cellsOf t) := by
      rw [← List.drop_drop, List.take_append_drop]
    rw [e]
    exact .cons (by simpa using h0) (fieldsRead_of hl r (off + P.cellsOf t) xs (by simpa using hx) hc ho2 (fun i off' t' hi => h (i + 1) off' t' hi))
theorem opens_slice (ht : P.underlying t = some (.slice e)) (hpos : 0 < P.cellsOf e) (tok : List α → Tok) (hl : ∀ l, tlen (tok l) = l.length) (hz : ∀ l, tsz (tok l) = P.cellsOf e) (hc : ∀ (l : List α) (i : Nat) a, l[i]? = some a → tcells (tok l) i = code a)
    (h : Opens enc P W m e code size) : Opens enc P W (m + 1) t (fun l => [.slc false (tok l)]) (fun l => (l.map size).sum + 1) := by
  intro fuel hf cs x hx
  rcases DataW.trod_slice ht hx with ⟨rfl, rfl⟩ | ⟨ad, len, cap, elems, rest, n, rfl, rfl, rfl, _, hlc, hcm, hel, hread, _, _⟩
  · exact ⟨[], RepL.cons (.slcN _ _ _ _ (hl []) (fun _ => rfl)) RepL.nil, by simp [Rows.uptoBulk]⟩
  · have key2 : ∀ iy ∈ elems.zipIdx, ∃ a : α, (∃ c : List Value, c.length = P.cellsOf e ∧ RepW W (code a) c ∧ ∀ j u, c[j]? = some u → W.cell? (ad.add (iy.2 * P.cellsOf e + j)) = some u) ∧ size a ≤ Rows.uptoBulk iy.1.1 := by
      rintro ⟨y, i⟩ hy
      have hi : elems[i]? = some y := by simpa [List.mem_zipIdx_iff_getElem?] using hy
      have hil : i < len := by rw [← hel]; exact (List.getElem?_eq_some_iff.1 hi).1
      have hr := hread i hil
      rw [hi] at hr
      obtain ⟨c, hcc0, htr⟩ := Option.bind_eq_some_iff.1 hr
      obtain ⟨a, hK, hs⟩ := h n (by omega) c y htr
      obtain ⟨_, hcl, hcc⟩ := World.cells?_some hcc0
      refine ⟨a, ⟨c, hcl, hK, fun j u hj => ?_⟩, hs⟩
      have hjl : j < P.cellsOf e := by rw [← hcl]; exact (List.getElem?_eq_some_iff.1 hj).1
      have := hcc j hjl
      rw [addr_two] at this
      rw [this, hj]
    obtain ⟨bs, hal, hag⟩ := pick (fun a (iy : (DataW H × List MemPlace) × Nat) => (∃ c : List Value, c.length = P.cellsOf e ∧ RepW W (code a) c ∧ ∀ j u, c[j]? = some u → W.cell? (ad.add (iy.2 * P.cellsOf e + j)) = some u) ∧ size a ≤ Rows.uptoBulk iy.1.1) elems.zipIdx key2
    have hlen : bs.length = len := by rw [hal, List.length_zipIdx, hel]
    have hat : ∀ (i : Nat) (a : α), bs[i]? = some a → ∃ y, elems[i]? = some y ∧ (∃ c : List Value, c.length = P.cellsOf e ∧ RepW W (code a) c ∧ ∀ j u, c[j]? = some u → W.cell? (ad.add (i * P.cellsOf e + j)) = some u) ∧ size a ≤ Rows.uptoBulk y.1 := by
      intro i a ha
      obtain ⟨⟨y, i'⟩, hy, hR⟩ := hag i a ha
      have hi2 : elems[i]? = some y ∧ i' = i := by
        rw [List.getElem?_zipIdx] at hy
        obtain ⟨z, hz, hz2⟩ := Option.map_eq_some_iff.1 hy
        have := Prod.mk.inj hz2
        exact ⟨by rw [hz, this.1], by omega⟩
      rw [hi2.2] at hR
      exact ⟨y, hi2.1, hR⟩
    refine ⟨bs, ?_, ?_⟩
    · refine RepL.cons ?_ RepL.nil
      by_cases h0 : len = 0
      · subst h0
        exact .slcN _ _ _ _ ((hl bs).trans hlen) (fun h => by cases h)
      · have hk := fun (i : Nat) (hi : i < len) => hat i (bs[i]'(by omega)) (List.getElem?_eq_getElem _)
        have hlt : tlen (tok bs) = len := (hl bs).trans hlen
        obtain ⟨b, o, sp⟩ := ad
        have hcell : ∀ (i j : Nat) x, i < len → (tcells (tok bs) i)[j]? = some x → ∃ v, W.cell? ((⟨b, o, sp⟩ : Addr).add (i * P.cellsOf e + j)) = some v ∧ Rep Itp W (fun _ => False) (fun _ => none) x v := by
          intro i j x hi hx
          obtain ⟨_, _, ⟨c, hcl, hR, hcc⟩, _⟩ := hk i hi
          rw [hc bs i _ (List.getElem?_eq_getElem (by omega))] at hx
          have hj : j < c.length := by rw [← hR.1]; exact (List.getElem?_eq_some_iff.1 hx).1
          exact ⟨c[j], hcc j _ (List.getElem?_eq_getElem hj), hR.2 j x _ hx (List.getElem?_eq_getElem hj)⟩
        have hsp : sp = none := by
          obtain ⟨_, _, ⟨c, hcl, _, hcc⟩, _⟩ := hk 0 (by omega)
          have h1 := hcc 0 (c[0]'(by omega)) (List.getElem?_eq_getElem _)
          simp only [Nat.zero_mul, Nat.zero_add, Addr.add, if_true] at h1
          unfold World.cell? at h1
          split at h1
          · split at h1
            · cases h1
            · rename_i hs; simpa using hs
          · cases h1
        subst hsp
        have hadd : ∀ i j, (⟨b, o, none⟩ : Addr).add (i * P.cellsOf e + j) = ⟨b, o + i * tsz (tok bs) + j, none⟩ := by
          intro i j
          rw [hz, ← addr_two]
          unfold Addr.add
          by_cases h1 : i * P.cellsOf e = 0 <;> by_cases h2 : j = 0 <;> simp [h1, h2]
        have e1 : (Itp.len (tok bs)) = len := hlt
        rw [show (Value.slice (some ⟨b, o, none⟩) len cap) = Value.slice (some ⟨b, o, none⟩) (Itp.len (tok bs)) cap by rw [e1]]
        refine .slc _ _ b o cap (fun i j => (W.cell? ⟨b, o + i * tsz (tok bs) + j, none⟩).getD (.int .i64 0)) (by rw [e1]; omega) (fun h => by cases h) ?_ ?_
        · intro i j x hi hx
          obtain ⟨v, h1, h2⟩ := hcell i j x (by rw [← e1]; exact hi) hx
          rw [hadd] at h1
          exact ⟨fun h => h.elim, by rw [show Itp.sz (tok bs) = tsz (tok bs) from rfl, h1]; rfl⟩
        · intro i j x hi hx
          obtain ⟨v, h1, h2⟩ := hcell i j x (by rw [← e1]; exact hi) hx
          rw [hadd] at h1
          rw [h1]
          exact h2
    · have := sizes_le (size := size) (fun x : DataW H × List MemPlace => x.1) bs elems (by rw [hlen, hel]) (fun i a ha => by
        obtain ⟨y, hy, _, hs⟩ := hat i a ha
        exact ⟨y, hy, hs⟩)
      simp only [Rows.uptoBulk]
      omega
/-- Rows of fields. -/
def OpensRow (enc : TypeId × Value → H) (P : Program) (W : World) (m : Nat) (ts : List TypeId) (code : α → List V) (size : α → Nat) : Prop :=
  ∀ fuel, fuel ≤ m → ∀ cs xs, FieldsRead enc P W fuel ts cs xs → ∃ a, RepW W (code a) cs ∧ size a ≤ Rows.uptoBulkAll (xs.map (·.1))
theorem row_nil : OpensRow enc P W m [] (fun _ : Unit => []) (fun _ => 0) := by
  intro fuel hf cs xs hr
  cases hr
  exact ⟨(), RepL.nil, by simp⟩
theorem RepL.app {xs ys : List V} {cs ds : List Value} (h : RepW W xs cs) (h2 : RepW W ys ds) : RepW W (xs ++ ys) (cs ++ ds) := by
  have hl := h.1
  refine ⟨by simp [hl, h2.1], fun j x v hx hv => ?_⟩
  by_cases hj : j < xs.length
  · rw [List.getElem?_append_left hj] at hx
    rw [List.getElem?_append_left (by omega)] at hv
    exact h.2 j x v hx hv
  · rw [List.getElem?_append_right (by omega)] at hx
    rw [List.getElem?_append_right (by omega), ← hl] at hv
    exact h2.2 _ x v hx hv
theorem row_cons {code2 : β → List V} {size2 : β → Nat} {ts : List TypeId} (h : Opens enc P W m t code size) (h2 : OpensRow enc P W m ts code2 size2) :
    OpensRow enc P W m (t :: ts) (fun p : α × β => code p.1 ++ code2 p.2) (fun p => size p.1 + size2 p.2) := by
  intro fuel hf cs xs hr
  cases hr with
  | cons hx hs =>
    obtain ⟨a, h1, h3⟩ := h fuel hf _ _ hx
    obtain ⟨b, h4, h5⟩ := h2 fuel hf _ _ hs
    exact ⟨(a, b), RepL.app h1 h4, by simp only [List.map_cons, Rows.uptoBulkAll]; omega⟩
theorem opens_struct {fs : Array Field} (ht : P.underlying t = some (.struct fs)) (hc : consec P 0 (P.cellsOf t) (fs.toList.map fun f => (f.offset, f.type)) = true)
    (h : OpensRow enc P W m (fs.toList.map (·.type)) code size) : Opens enc P W (m + 1) t code (fun a => size a + 1) := by
  intro fuel hf cs x hx
  obtain ⟨xs, n, rfl, rfl, hl, hn, hread⟩ := DataW.trod_struct ht hx
  have hr := fieldsRead_of (enc := enc) (P := P) (W := W) (n := n) hl (fs.toList.map fun f => (f.offset, f.type)) 0 xs (by simpa using hn) hc (Nat.zero_le _) (fun i off t hi => by
    rw [List.getElem?_map] at hi
    obtain ⟨f, hf, he⟩ := Option.map_eq_some_iff.1 hi
    obtain ⟨rfl, rfl⟩ := Prod.mk.inj he
    exact hread i f (by simpa using hf))
  rw [List.map_map] at hr
  obtain ⟨a, h1, h2⟩ := h n (by omega) _ _ hr
  refine ⟨a, by simpa using h1, ?_⟩
  simp only [Rows.uptoBulk]
  omega
/-- An argument, opened. -/
theorem opens_arg {v : Value} {x : DataW H} {p : List MemPlace} (h : ∀ m, Opens enc P W m t code size) (hv : DataW.Trod enc P W 0 (fun _ => true) true t v x p) : ∃ a, RepW W (code a) v.cells.toList ∧ size a ≤ Rows.uptoBulk x := by
  obtain ⟨fuel, hf⟩ := hv
  exact h fuel fuel (Nat.le_refl _) _ _ hf
end
theorem okWide_agg {P : Program} {w : World} {r : Reach} {base : Nat} {t : TypeId} {v : Value} (ht : (∃ fs, P.underlying t = some (.struct fs)) ∨ ∃ n e, P.underlying t = some (.array n e)) (h : Value.okWide P w r base t v) : ∃ cs, v = .agg cs := by
  rcases ht with ⟨fs, ht⟩ | ⟨n, e, ht⟩
  · simp only [Value.okWide, ht] at h
    obtain ⟨cs, h1, _⟩ := h
    exact ⟨cs, h1⟩
  · simp only [Value.okWide, ht] at h
    obtain ⟨cs, h1, _⟩ := h
    exact ⟨cs, h1⟩
theorem repAgg {w : World} {M : Nat → Prop} {e : Nat → Option Nat} {xs : List V} {vs : List Value} (h : RepL Itp w M e xs vs) : Rep Itp w M e (.agg xs) (.agg vs.toArray) :=
  .agg _ _ (by simpa using h.1) (fun j x v hx hv => h.2 j x v hx (by simpa using hv))
section
variable {H : Type} {enc : TypeId × Value → H} {W : World}
def codeE (e : E) : List V := [.int .i64 e.op, .int .i64 e.n, .int .i64 e.v, .slc false (.es e.a)]
def codeC (c : C) : List V := [.int .i64 c.op, .slc false (.es c.a), .slc false (.cs c.c)]
theorem bL_sum : ∀ l : List E, bL l = (l.map bE).sum
  | [] => by simp [bL]
  | x :: r => by simp [bL, bL_sum r]
theorem bCL_sum : ∀ l : List C, bCL l = (l.map bC).sum
  | [] => by simp [bCL]
  | x :: r => by simp [bCL, bCL_sum r]
theorem cells_es (l : List E) (i : Nat) (a : E) (h : l[i]? = some a) : tcells (.es l) i = codeE a := by
  simp only [tcells, codeE, List.getD_eq_getElem?_getD, h, Option.getD_some]
theorem cells_cs (l : List C) (i : Nat) (a : C) (h : l[i]? = some a) : tcells (.cs l) i = codeC a := by
  simp only [tcells, codeC, List.getD_eq_getElem?_getD, h, Option.getD_some]
theorem cells_ints (l : List Int) (i : Nat) (a : Int) (h : l[i]? = some a) : tcells (.ints l) i = codeI a := by
  simp only [tcells, codeI, List.getD_eq_getElem?_getD, h, Option.getD_some]
theorem no_fuel {α : Type} {t : TypeId} {code : α → List V} {size : α → Nat} : Opens enc Try.prog W 0 t code size := by
  intro fuel hf cs x hx
  obtain rfl : fuel = 0 := by omega
  simp [DataW.trod] at hx
theorem opens_es {n : Nat} (h : ∀ k, k < n → Opens enc Try.prog W k 29 codeE bE) : Opens enc Try.prog W n 27 (fun l => [.slc false (.es l)]) (fun l => bL l + 1) := by
  match n, h with
  | 0, _ => exact no_fuel
  | n + 1, h => exact (opens_slice Try.underlying27 (of_decide_eq_true (by kernel_rfl)) Tok.es (fun _ => rfl) (fun _ => by kernel_rfl) cells_es (h n (by omega))).map (fun l => l) (fun _ => rfl) (fun l => by show bL l + 1 ≤ _; rw [bL_sum]; exact Nat.le_refl _)
theorem opens_expr : ∀ m, Opens enc Try.prog W m 29 codeE bE := by
  intro m
  induction m using Nat.strongRecOn with
  | ind m ih =>
    match m, ih with
    | 0, _ => exact no_fuel
    | n + 1, ih =>
      exact (opens_struct Try.underlying29 (by kernel_rfl) (row_cons (opens_int Try.underlying3) (row_cons (opens_int Try.underlying3) (row_cons (opens_int Try.underlying3) (row_cons (opens_es fun k hk => ih k (by omega)) row_nil))))).map
        (fun p => E.mk p.1 p.2.1 p.2.2.1 p.2.2.2.1) (fun _ => rfl) (fun p => by show 1 + bL _ ≤ _; omega)
theorem opens_cs {n : Nat} (h : ∀ k, k < n → Opens enc Try.prog W k 34 codeC bC) : Opens enc Try.prog W n 32 (fun l => [.slc false (.cs l)]) (fun l => bCL l + 1) := by
  match n, h with
  | 0, _ => exact no_fuel
  | n + 1, h => exact (opens_slice Try.underlying32 (of_decide_eq_true (by kernel_rfl)) Tok.cs (fun _ => rfl) (fun _ => by kernel_rfl) cells_cs (h n (by omega))).map (fun l => l) (fun _ => rfl) (fun l => by show bCL l + 1 ≤ _; rw [bCL_sum]; exact Nat.le_refl _)
theorem opens_cond : ∀ m, Opens enc Try.prog W m 34 codeC bC := by
  intro m
  induction m using Nat.strongRecOn with
  | ind m ih =>
    match m, ih with
    | 0, _ => exact no_fuel
    | n + 1, ih =>
      exact (opens_struct Try.underlying34 (by kernel_rfl) (row_cons (opens_int Try.underlying3) (row_cons (opens_es fun k _ => opens_expr k) (row_cons (opens_cs fun k hk => ih k (by omega)) row_nil)))).map
        (fun p => C.mk p.1 p.2.1 p.2.2.1) (fun _ => rfl) (fun p => by show 1 + bL _ + bCL _ ≤ _; omega)
theorem len_ones : ∀ l : List Int, (l.map fun _ => 1).sum = l.length
  | [] => rfl
  | x :: r => by rw [List.map_cons, List.sum_cons, len_ones r, List.length_cons]; omega
theorem opens_ints : ∀ m, Opens enc Try.prog W m 36 (fun l => [.slc false (.ints l)]) (fun l => l.length + 1)
  | 0 => no_fuel
  | n + 1 => (opens_slice Try.underlying36 (of_decide_eq_true (by kernel_rfl)) Tok.ints (fun _ => rfl) (fun _ => by kernel_rfl) cells_ints (opens_int Try.underlying3)).map (fun l => l) (fun _ => rfl) (fun l => Nat.succ_le_succ (len_ones l ▸ Nat.le_refl _))
end
end Go.Proofs.Ytbbnefpjnjjibaa.Tree
