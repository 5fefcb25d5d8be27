/- Several texts in one: NumOp, SpanF, SpanB, SpanM, Tok, LOpen, SpanS, SpanC1, SpanC2, SpanG0, SpanG, SpanC3, SpanC4, SpanC5, SpanC6, SpanC7. -/
import Derived.Test.YtamfgbenceoleaaBunEv
import Derived.Test.YtamfgbenceoleaaProg
import Derived.Below
import Derived.Deep.Draws
import Derived.Deep.AppendLies
import Derived.Maps.AppendAt
import Derived.OwnWalk
import Derived.Laws.BytesArg
import Derived.Laws.MakeOwn
import Derived.Laws.OwnMore
import Derived.Deep.OwnRows
import Derived.Tactics
import Derived.Lib.ConvBytes
import Derived.Laws.Slices
import Derived.WalkKit
import Derived.KernelRfl
import Derived.RowKit3
import Derived.Deep.LoopGhost
import Derived.Deep.QuietTactic
import Derived.BigQuiet
import Derived.WideLaws
import Derived.Deep.DeepCutAuto
import Derived.Deep.CutBlock
import Derived.Deep.RegionHeld3
import Derived.Laws.Rows
import Derived.WideMake
import Derived.Laws.Entries
import Derived.ChangeArms
import Derived.OpenShut
import Derived.SizedLaws
import Derived.DataReads
import Derived.WideShapes
namespace Go.Proofs.Ytamfgbenceoleaa.NumOp
set_option linter.unusedVariables false
set_option linter.unusedSimpArgs false
set_option linter.unusedSectionVars false
set_option linter.unnecessarySimpa false
open Go.RowKit Go.Proofs.Ytamfgbenceoleaa
structure Aside0 (p : Prop) : Prop where mk :: (out : p)
theorem set_push_size (xs : Array Obj) (a b : Obj) : (xs.push a).setIfInBounds xs.size b = xs.push b := by
  apply Array.ext
  · simp
  · intro i h1 h2
    by_cases h : i = xs.size
    · subst h; rw [Array.getElem_setIfInBounds_self, Array.getElem_push_eq]
    · have h3 : i < xs.size := by simp at h2; omega
      rw [Array.getElem_setIfInBounds_ne (by simp; omega) (Ne.symm h), Array.getElem_push_lt h3, Array.getElem_push_lt h3]
theorem upd_alloc {P : Program} (w : World) (mty kt et : TypeId) (es : Array MapEntry) (c : Nat) (k : Int) (val : Value) (hm : P.underlying mty = some (.map kt et)) (hk : P.underlying kt = some (.int .i64)) (hf : Instr.findNow (.int .i64) (.int .i64 k) es.toList 0 = some none) :
    (Instr.mapUpdate mty (.map (some w.heap.size)) (.int .i64 k) val).run P (w.alloc (.map es c)) = .ok () (w.alloc (.map (es.push ⟨.int .i64 k, val, c⟩) (c + 1))) := by
  have hb : (w.alloc (.map es c)).heap[w.heap.size]? = some (.map es c) := by unfold World.alloc; simp
  have hc : (Instr.checkKey false 10000 kt (.int .i64 k)).run P (w.alloc (.map es c)) = .ok () (w.alloc (.map es c)) := MapKept.run_checkKey (k := .int .i64 k) hk (by simp [MapKept.IsKey]) false 9999
  simp [Instr.mapUpdate, run_underlying hm, MapKept.run_getObj_map hb, hc, MapKept.run_findKey hk hf, MapKept.run_setObj_map _ hb, Result.andThen]
  unfold World.alloc; simp only [set_push_size]
theorem look_hit {P : Program} (w : World) (mty kt et : TypeId) (r : Nat) (es : Array MapEntry) (c : Nat) (k : Int) (i : Nat) (val : Value) (hm : P.underlying mty = some (.map kt et)) (hk : P.underlying kt = some (.int .i64)) (hb : w.heap[r]? = some (.map es c)) (hf : Instr.findNow (.int .i64) (.int .i64 k) es.toList 0 = some (some (i, val))) :
    (Instr.lookup mty (.map (some r)) (.int .i64 k) true).run P w = .ok (.tuple #[val, .bool true]) w := by
  have hc : ∀ b, (Instr.checkKey b 10000 kt (.int .i64 k)).run P w = .ok () w := fun b => MapKept.run_checkKey (k := .int .i64 k) hk (by simp [MapKept.IsKey]) b 9999
  simp [Instr.lookup, run_underlying hm, MapKept.run_getObj_map hb, hc, MapKept.run_findKey hk hf, Result.andThen]
theorem look_miss {P : Program} (w : World) (mty kt et : TypeId) (r : Nat) (es : Array MapEntry) (c : Nat) (k : Int) (z : Value) (hm : P.underlying mty = some (.map kt et)) (hk : P.underlying kt = some (.int .i64)) (hz : (zeroValue et).run P w = .ok z w) (hb : w.heap[r]? = some (.map es c)) (hf : Instr.findNow (.int .i64) (.int .i64 k) es.toList 0 = some none) :
    (Instr.lookup mty (.map (some r)) (.int .i64 k) true).run P w = .ok (.tuple #[z, .bool false]) w := by
  have hc : ∀ b, (Instr.checkKey b 10000 kt (.int .i64 k)).run P w = .ok () w := fun b => MapKept.run_checkKey (k := .int .i64 k) hk (by simp [MapKept.IsKey]) b 9999
  simp [Instr.lookup, run_underlying hm, MapKept.run_getObj_map hb, hc, hz, MapKept.run_findKey hk hf, Result.andThen]

/-- The seven operators, as the map of functions has them. -/
def opsMap : Array MapEntry := #[⟨.int .i64 4, .func (.func 81) #[] #[], 0⟩, ⟨.int .i64 5, .func (.func 82) #[] #[], 1⟩, ⟨.int .i64 6, .func (.func 83) #[] #[], 2⟩, ⟨.int .i64 7, .func (.func 84) #[] #[], 3⟩, ⟨.int .i64 8, .func (.func 85) #[] #[], 4⟩, ⟨.int .i64 9, .func (.func 86) #[] #[], 5⟩, ⟨.int .i64 10, .func (.func 87) #[] #[], 6⟩]
def opsUpto (n : Nat) : Array MapEntry := (opsMap.toList.take n).toArray
set_option maxHeartbeats 400000 in
set_option maxRecDepth 100000 in
theorem num_operators_calls (w : World) :
    Calls Try.prog 46 #[] w fun e w' => e = .returned (.map (some w.heap.size)) ∧ w' = w.alloc (.map opsMap 7) := by
  have hmm := @run_makeMap_plain Try.prog w 77
  have u0 : ∀ w : World, (Instr.mapUpdate 77 (.map (some w.heap.size)) (.int .i64 4) (.func (.func 81) #[] #[])).run Try.prog (w.alloc (.map #[] 0)) = .ok () (w.alloc (.map (opsUpto 1) 1)) := fun w => upd_alloc w _ _ _ _ _ _ _ Try.underlying77 Try.underlying3 rfl
  have u1 : ∀ w : World, (Instr.mapUpdate 77 (.map (some w.heap.size)) (.int .i64 5) (.func (.func 82) #[] #[])).run Try.prog (w.alloc (.map (opsUpto 1) 1)) = .ok () (w.alloc (.map (opsUpto 2) 2)) := fun w => upd_alloc w _ _ _ _ _ _ _ Try.underlying77 Try.underlying3 rfl
  have u2 : ∀ w : World, (Instr.mapUpdate 77 (.map (some w.heap.size)) (.int .i64 6) (.func (.func 83) #[] #[])).run Try.prog (w.alloc (.map (opsUpto 2) 2)) = .ok () (w.alloc (.map (opsUpto 3) 3)) := fun w => upd_alloc w _ _ _ _ _ _ _ Try.underlying77 Try.underlying3 rfl
  have u3 : ∀ w : World, (Instr.mapUpdate 77 (.map (some w.heap.size)) (.int .i64 7) (.func (.func 84) #[] #[])).run Try.prog (w.alloc (.map (opsUpto 3) 3)) = .ok () (w.alloc (.map (opsUpto 4) 4)) := fun w => upd_alloc w _ _ _ _ _ _ _ Try.underlying77 Try.underlying3 rfl
  have u4 : ∀ w : World, (Instr.mapUpdate 77 (.map (some w.heap.size)) (.int .i64 8) (.func (.func 85) #[] #[])).run Try.prog (w.alloc (.map (opsUpto 4) 4)) = .ok () (w.alloc (.map (opsUpto 5) 5)) := fun w => upd_alloc w _ _ _ _ _ _ _ Try.underlying77 Try.underlying3 rfl
  have u5 : ∀ w : World, (Instr.mapUpdate 77 (.map (some w.heap.size)) (.int .i64 9) (.func (.func 86) #[] #[])).run Try.prog (w.alloc (.map (opsUpto 5) 5)) = .ok () (w.alloc (.map (opsUpto 6) 6)) := fun w => upd_alloc w _ _ _ _ _ _ _ Try.underlying77 Try.underlying3 rfl
  have u6 : ∀ w : World, (Instr.mapUpdate 77 (.map (some w.heap.size)) (.int .i64 10) (.func (.func 87) #[] #[])).run Try.prog (w.alloc (.map (opsUpto 6) 6)) = .ok () (w.alloc (.map opsMap 7)) := fun w => upd_alloc w _ _ _ _ _ _ _ Try.underlying77 Try.underlying3 rfl
  go_enter Try.func46, Try.ntmps46
  go_wp2
  go_ret
  exact ⟨rfl, rfl⟩
theorem opsMap_miss (k : Int) (h : k < 4 ∨ 10 < k) : Instr.findNow (.int .i64) (.int .i64 k) opsMap.toList 0 = some none := by
  have h4 : (k == 4) = false := beq_eq_false_iff_ne.mpr (by omega)
  have h5 : (k == 5) = false := beq_eq_false_iff_ne.mpr (by omega)
  have h6 : (k == 6) = false := beq_eq_false_iff_ne.mpr (by omega)
  have h7 : (k == 7) = false := beq_eq_false_iff_ne.mpr (by omega)
  have h8 : (k == 8) = false := beq_eq_false_iff_ne.mpr (by omega)
  have h9 : (k == 9) = false := beq_eq_false_iff_ne.mpr (by omega)
  have h10 : (k == 10) = false := beq_eq_false_iff_ne.mpr (by omega)
  simp [opsMap, Instr.findNow, Instr.sameNow, h4, h5, h6, h7, h8, h9, h10]
/-- What the operators give, before it is wrapped. -/
def opI (op x y : Int) : Int := if op = 4 then x + y else if op = 5 then x - y else if op = 6 then x * y else if op = 7 then (if y = 0 then 0 else Int.tdiv x y) else if op = 8 then (if y = 0 then x else Int.tmod x y) else if op = 9 then (if y < x then y else x) else if op = 10 then (if x < y then y else x) else 0
def num_Op.f (a0 : Int) (a1 : Int) (a2 : Int) : Option (Int) := some (wrap32 (opI a0 (wrap32 a1) (wrap32 a2)))
theorem wrap32_range (x : Int) : -2147483648 ≤ wrap32 x ∧ wrap32 x ≤ 2147483647 := by unfold wrap32; omega
theorem wrap32_of (x : Int) (h0 : -2147483648 ≤ x) (h1 : x ≤ 2147483647) : wrap32 x = x := by unfold wrap32; omega
theorem num_Wrap_same (x : Int) (w : World) : Calls Try.prog 47 #[.int .i64 x] w fun e w' => e = .returned (.int .i64 (wrap32 x)) ∧ w = w' := by
  have hr := wrap32_range x
  go_enter Try.func47, Try.ntmps47
  go_wp2
  go_ret
  exact ⟨by first | rfl | (congr 2; unfold wrap64; omega), rfl⟩
set_option maxHeartbeats 400000 in
set_option maxRecDepth 100000 in
theorem num_Op_miss (a0 a1 a2 : Int) (w : World) (h : a0 < 4 ∨ 10 < a0) :
    Calls Try.prog 15 #[.int .i64 a0, .int .i64 a1, .int .i64 a2] w fun e w' => e = .returned (.int .i64 0) ∧ Below w.heap.size w w' := by
  have hl : (Instr.lookup 77 (.map (some w.heap.size)) (.int .i64 a0) true).run Try.prog (w.alloc (.map opsMap 7)) = .ok (.tuple #[.nilFunc, .bool false]) (w.alloc (.map opsMap 7)) :=
    look_miss _ _ _ _ _ opsMap 7 _ _ Try.underlying77 Try.underlying3 (by kernel_rfl) (by unfold World.alloc; simp) (opsMap_miss a0 h)
  clear h
  go_enter Try.func15, Try.ntmps15
  go_wp2_with (go_at_call 46; refine (num_operators_calls _).mono ?_; rintro e w' ⟨rfl, rfl⟩)
  go_ret
  exact ⟨rfl, (Below.refl _ _).alloc (Nat.le_refl _) _⟩

theorem op_add (x y : Int) (w : World) (hx : -2147483648 ≤ x ∧ x ≤ 2147483647) (hy : -2147483648 ≤ y ∧ y ≤ 2147483647) : Calls Try.prog 81 #[.int .i64 x, .int .i64 y] w fun e w' => e = .returned (.int .i64 (x + y)) ∧ w = w' := by
  go_enter Try.func81, Try.ntmps81
  go_wp2
  go_ret
  exact ⟨by first | rfl | (congr 2; unfold wrap64; omega), rfl⟩
theorem op_sub (x y : Int) (w : World) (hx : -2147483648 ≤ x ∧ x ≤ 2147483647) (hy : -2147483648 ≤ y ∧ y ≤ 2147483647) : Calls Try.prog 82 #[.int .i64 x, .int .i64 y] w fun e w' => e = .returned (.int .i64 (x - y)) ∧ w = w' := by
  go_enter Try.func82, Try.ntmps82
  go_wp2
  go_ret
  exact ⟨by first | rfl | (congr 2; unfold wrap64; omega), rfl⟩
theorem mul_range (x y : Int) (hx : -2147483648 ≤ x ∧ x ≤ 2147483647) (hy : -2147483648 ≤ y ∧ y ≤ 2147483647) : -4611686018427387904 ≤ x * y ∧ x * y ≤ 4611686018427387904 := by
  have h : (x * y).natAbs ≤ 2147483648 * 2147483648 := by rw [Int.natAbs_mul]; exact Nat.mul_le_mul (by omega) (by omega)
  omega
theorem op_mul (x y : Int) (w : World) (hx : -2147483648 ≤ x ∧ x ≤ 2147483647) (hy : -2147483648 ≤ y ∧ y ≤ 2147483647) : Calls Try.prog 83 #[.int .i64 x, .int .i64 y] w fun e w' => e = .returned (.int .i64 (x * y)) ∧ w = w' := by
  have hm := mul_range x y hx hy
  have hw : wrap64 (x * y) = x * y := by unfold wrap64; omega
  clear hm
  have HW := Aside0.mk hw
  clear hw
  go_enter Try.func83, Try.ntmps83
  go_wp2
  go_ret
  exact ⟨by first | rfl | (rw [HW.out]; rfl) | (congr 2; unfold wrap64; omega), rfl⟩
theorem tdiv_range (x y : Int) (hx : -2147483648 ≤ x ∧ x ≤ 2147483647) : -2147483648 ≤ Int.tdiv x y ∧ Int.tdiv x y ≤ 2147483648 := by
  have h : (Int.tdiv x y).natAbs ≤ 2147483648 := by rw [Int.natAbs_tdiv]; exact Nat.le_trans (Nat.div_le_self _ _) (by omega)
  omega
theorem op_div (x y : Int) (w : World) (hx : -2147483648 ≤ x ∧ x ≤ 2147483647) (hy : -2147483648 ≤ y ∧ y ≤ 2147483647) : Calls Try.prog 84 #[.int .i64 x, .int .i64 y] w fun e w' => e = .returned (.int .i64 (if y = 0 then 0 else Int.tdiv x y)) ∧ w = w' := by
  have hd := tdiv_range x y hx
  have hw : wrap64 (Int.tdiv x y) = Int.tdiv x y := by unfold wrap64; omega
  have HW := Aside0.mk hw
  clear hw hd
  by_cases h0 : y = 0
  · subst h0
    go_enter Try.func84, Try.ntmps84
    go_wp2
    go_ret
    exact ⟨rfl, rfl⟩
  · have e1 : (y == 0) = false := beq_eq_false_iff_ne.mpr h0
    rw [if_neg h0]
    go_enter Try.func84, Try.ntmps84
    go_wp2
    go_ret
    exact ⟨by first | rfl | (rw [HW.out]; rfl), rfl⟩
theorem op_mod (x y : Int) (w : World) (hx : -2147483648 ≤ x ∧ x ≤ 2147483647) (hy : -2147483648 ≤ y ∧ y ≤ 2147483647) : Calls Try.prog 85 #[.int .i64 x, .int .i64 y] w fun e w' => e = .returned (.int .i64 (if y = 0 then x else Int.tmod x y)) ∧ w = w' := by
  by_cases h0 : y = 0
  · subst h0
    go_enter Try.func85, Try.ntmps85
    go_wp2
    go_ret
    exact ⟨rfl, rfl⟩
  · have e1 : (y == 0) = false := beq_eq_false_iff_ne.mpr h0
    rw [if_neg h0]
    go_enter Try.func85, Try.ntmps85
    go_wp2
    go_ret
    exact ⟨by first | rfl | (rw [HW.out]; rfl), rfl⟩
theorem ret_i64 {a b : Int} (h : a = b) : Ending.returned (.int .i64 a) = Ending.returned (.int .i64 b) := by rw [h]
theorem op_min (x y : Int) (w : World) : Calls Try.prog 86 #[.int .i64 x, .int .i64 y] w fun e w' => e = .returned (.int .i64 (if y < x then y else x)) ∧ w = w' := by
  go_enter Try.func86, Try.ntmps86
  go_wp2
  all_goals
    go_ret
    exact ⟨ret_i64 (by first | rfl | (simp only [mn, mx]; split <;> omega) | (split <;> omega)), rfl⟩
theorem op_max (x y : Int) (w : World) : Calls Try.prog 87 #[.int .i64 x, .int .i64 y] w fun e w' => e = .returned (.int .i64 (if x < y then y else x)) ∧ w = w' := by
  go_enter Try.func87, Try.ntmps87
  go_wp2
  all_goals
    go_ret
    exact ⟨ret_i64 (by first | rfl | (simp only [mn, mx]; split <;> omega) | (split <;> omega)), rfl⟩

set_option maxHeartbeats 400000 in
set_option maxRecDepth 100000 in
theorem num_Op_add (a1 a2 r : Int) (w : World) (hc : ∀ W : World, Calls Try.prog 81 #[.int .i64 (wrap32 a1), .int .i64 (wrap32 a2)] W fun e w' => e = .returned (.int .i64 r) ∧ W = w') :
    Calls Try.prog 15 #[.int .i64 4, .int .i64 a1, .int .i64 a2] w fun e w' => e = .returned (.int .i64 (wrap32 r)) ∧ Below w.heap.size w w' := by
  have hl : (Instr.lookup 77 (.map (some w.heap.size)) (.int .i64 4) true).run Try.prog (w.alloc (.map opsMap 7)) = .ok (.tuple #[.func (.func 81) #[] #[], .bool true]) (w.alloc (.map opsMap 7)) :=
    look_hit _ _ _ _ _ opsMap 7 _ 0 _ Try.underlying77 Try.underlying3 (by unfold World.alloc; simp) rfl
  have HC := Aside0.mk hc
  clear hc
  go_enter Try.func15, Try.ntmps15
  go_wp2_with (first | (go_at_call 46; refine (num_operators_calls _).mono ?_; rintro e w' ⟨rfl, rfl⟩) | (go_at_call 47; refine (num_Wrap_same _ _).mono ?_; rintro e w' ⟨rfl, rfl⟩) | (go_at_call 81; refine (HC.out _).mono ?_; rintro e w' ⟨rfl, rfl⟩))
  go_ret
  exact ⟨rfl, (Below.refl _ _).alloc (Nat.le_refl _) _⟩

set_option maxHeartbeats 400000 in
set_option maxRecDepth 100000 in
theorem num_Op_sub (a1 a2 r : Int) (w : World) (hc : ∀ W : World, Calls Try.prog 82 #[.int .i64 (wrap32 a1), .int .i64 (wrap32 a2)] W fun e w' => e = .returned (.int .i64 r) ∧ W = w') :
    Calls Try.prog 15 #[.int .i64 5, .int .i64 a1, .int .i64 a2] w fun e w' => e = .returned (.int .i64 (wrap32 r)) ∧ Below w.heap.size w w' := by
  have hl : (Instr.lookup 77 (.map (some w.heap.size)) (.int .i64 5) true).run Try.prog (w.alloc (.map opsMap 7)) = .ok (.tuple #[.func (.func 82) #[] #[], .bool true]) (w.alloc (.map opsMap 7)) :=
    look_hit _ _ _ _ _ opsMap 7 _ 1 _ Try.underlying77 Try.underlying3 (by unfold World.alloc; simp) rfl
  have HC := Aside0.mk hc
  clear hc
  go_enter Try.func15, Try.ntmps15
  go_wp2_with (first | (go_at_call 46; refine (num_operators_calls _).mono ?_; rintro e w' ⟨rfl, rfl⟩) | (go_at_call 47; refine (num_Wrap_same _ _).mono ?_; rintro e w' ⟨rfl, rfl⟩) | (go_at_call 82; refine (HC.out _).mono ?_; rintro e w' ⟨rfl, rfl⟩))
  go_ret
  exact ⟨rfl, (Below.refl _ _).alloc (Nat.le_refl _) _⟩

set_option maxHeartbeats 400000 in
set_option maxRecDepth 100000 in
theorem num_Op_mul (a1 a2 r : Int) (w : World) (hc : ∀ W : World, Calls Try.prog 83 #[.int .i64 (wrap32 a1), .int .i64 (wrap32 a2)] W fun e w' => e = .returned (.int .i64 r) ∧ W = w') :
    Calls Try.prog 15 #[.int .i64 6, .int .i64 a1, .int .i64 a2] w fun e w' => e = .returned (.int .i64 (wrap32 r)) ∧ Below w.heap.size w w' := by
  have hl : (Instr.lookup 77 (.map (some w.heap.size)) (.int .i64 6) true).run Try.prog (w.alloc (.map opsMap 7)) = .ok (.tuple #[.func (.func 83) #[] #[], .bool true]) (w.alloc (.map opsMap 7)) :=
    look_hit _ _ _ _ _ opsMap 7 _ 2 _ Try.underlying77 Try.underlying3 (by unfold World.alloc; simp) rfl
  have HC := Aside0.mk hc
  clear hc
  go_enter Try.func15, Try.ntmps15
  go_wp2_with (first | (go_at_call 46; refine (num_operators_calls _).mono ?_; rintro e w' ⟨rfl, rfl⟩) | (go_at_call 47; refine (num_Wrap_same _ _).mono ?_; rintro e w' ⟨rfl, rfl⟩) | (go_at_call 83; refine (HC.out _).mono ?_; rintro e w' ⟨rfl, rfl⟩))
  go_ret
  exact ⟨rfl, (Below.refl _ _).alloc (Nat.le_refl _) _⟩

set_option maxHeartbeats 400000 in
set_option maxRecDepth 100000 in
theorem num_Op_div (a1 a2 r : Int) (w : World) (hc : ∀ W : World, Calls Try.prog 84 #[.int .i64 (wrap32 a1), .int .i64 (wrap32 a2)] W fun e w' => e = .returned (.int .i64 r) ∧ W = w') :
    Calls Try.prog 15 #[.int .i64 7, .int .i64 a1, .int .i64 a2] w fun e w' => e = .returned (.int .i64 (wrap32 r)) ∧ Below w.heap.size w w' := by
  have hl : (Instr.lookup 77 (.map (some w.heap.size)) (.int .i64 7) true).run Try.prog (w.alloc (.map opsMap 7)) = .ok (.tuple #[.func (.func 84) #[] #[], .bool true]) (w.alloc (.map opsMap 7)) :=
    look_hit _ _ _ _ _ opsMap 7 _ 3 _ Try.underlying77 Try.underlying3 (by unfold World.alloc; simp) rfl
  have HC := Aside0.mk hc
  clear hc
  go_enter Try.func15, Try.ntmps15
  go_wp2_with (first | (go_at_call 46; refine (num_operators_calls _).mono ?_; rintro e w' ⟨rfl, rfl⟩) | (go_at_call 47; refine (num_Wrap_same _ _).mono ?_; rintro e w' ⟨rfl, rfl⟩) | (go_at_call 84; refine (HC.out _).mono ?_; rintro e w' ⟨rfl, rfl⟩))
  go_ret
  exact ⟨rfl, (Below.refl _ _).alloc (Nat.le_refl _) _⟩

set_option maxHeartbeats 400000 in
set_option maxRecDepth 100000 in
theorem num_Op_mod (a1 a2 r : Int) (w : World) (hc : ∀ W : World, Calls Try.prog 85 #[.int .i64 (wrap32 a1), .int .i64 (wrap32 a2)] W fun e w' => e = .returned (.int .i64 r) ∧ W = w') :
    Calls Try.prog 15 #[.int .i64 8, .int .i64 a1, .int .i64 a2] w fun e w' => e = .returned (.int .i64 (wrap32 r)) ∧ Below w.heap.size w w' := by
  have hl : (Instr.lookup 77 (.map (some w.heap.size)) (.int .i64 8) true).run Try.prog (w.alloc (.map opsMap 7)) = .ok (.tuple #[.func (.func 85) #[] #[], .bool true]) (w.alloc (.map opsMap 7)) :=
    look_hit _ _ _ _ _ opsMap 7 _ 4 _ Try.underlying77 Try.underlying3 (by unfold World.alloc; simp) rfl
  have HC := Aside0.mk hc
  clear hc
  go_enter Try.func15, Try.ntmps15
  go_wp2_with (first | (go_at_call 46; refine (num_operators_calls _).mono ?_; rintro e w' ⟨rfl, rfl⟩) | (go_at_call 47; refine (num_Wrap_same _ _).mono ?_; rintro e w' ⟨rfl, rfl⟩) | (go_at_call 85; refine (HC.out _).mono ?_; rintro e w' ⟨rfl, rfl⟩))
  go_ret
  exact ⟨rfl, (Below.refl _ _).alloc (Nat.le_refl _) _⟩

set_option maxHeartbeats 400000 in
set_option maxRecDepth 100000 in
theorem num_Op_min (a1 a2 r : Int) (w : World) (hc : ∀ W : World, Calls Try.prog 86 #[.int .i64 (wrap32 a1), .int .i64 (wrap32 a2)] W fun e w' => e = .returned (.int .i64 r) ∧ W = w') :
    Calls Try.prog 15 #[.int .i64 9, .int .i64 a1, .int .i64 a2] w fun e w' => e = .returned (.int .i64 (wrap32 r)) ∧ Below w.heap.size w w' := by
  have hl : (Instr.lookup 77 (.map (some w.heap.size)) (.int .i64 9) true).run Try.prog (w.alloc (.map opsMap 7)) = .ok (.tuple #[.func (.func 86) #[] #[], .bool true]) (w.alloc (.map opsMap 7)) :=
    look_hit _ _ _ _ _ opsMap 7 _ 5 _ Try.underlying77 Try.underlying3 (by unfold World.alloc; simp) rfl
  have HC := Aside0.mk hc
  clear hc
  go_enter Try.func15, Try.ntmps15
  go_wp2_with (first | (go_at_call 46; refine (num_operators_calls _).mono ?_; rintro e w' ⟨rfl, rfl⟩) | (go_at_call 47; refine (num_Wrap_same _ _).mono ?_; rintro e w' ⟨rfl, rfl⟩) | (go_at_call 86; refine (HC.out _).mono ?_; rintro e w' ⟨rfl, rfl⟩))
  go_ret
  exact ⟨rfl, (Below.refl _ _).alloc (Nat.le_refl _) _⟩

set_option maxHeartbeats 400000 in
set_option maxRecDepth 100000 in
theorem num_Op_max (a1 a2 r : Int) (w : World) (hc : ∀ W : World, Calls Try.prog 87 #[.int .i64 (wrap32 a1), .int .i64 (wrap32 a2)] W fun e w' => e = .returned (.int .i64 r) ∧ W = w') :
    Calls Try.prog 15 #[.int .i64 10, .int .i64 a1, .int .i64 a2] w fun e w' => e = .returned (.int .i64 (wrap32 r)) ∧ Below w.heap.size w w' := by
  have hl : (Instr.lookup 77 (.map (some w.heap.size)) (.int .i64 10) true).run Try.prog (w.alloc (.map opsMap 7)) = .ok (.tuple #[.func (.func 87) #[] #[], .bool true]) (w.alloc (.map opsMap 7)) :=
    look_hit _ _ _ _ _ opsMap 7 _ 6 _ Try.underlying77 Try.underlying3 (by unfold World.alloc; simp) rfl
  have HC := Aside0.mk hc
  clear hc
  go_enter Try.func15, Try.ntmps15
  go_wp2_with (first | (go_at_call 46; refine (num_operators_calls _).mono ?_; rintro e w' ⟨rfl, rfl⟩) | (go_at_call 47; refine (num_Wrap_same _ _).mono ?_; rintro e w' ⟨rfl, rfl⟩) | (go_at_call 87; refine (HC.out _).mono ?_; rintro e w' ⟨rfl, rfl⟩))
  go_ret
  exact ⟨rfl, (Below.refl _ _).alloc (Nat.le_refl _) _⟩

theorem num_Op.calls (a0 : Int) (a1 : Int) (a2 : Int) (r : Int) (w : World) (h : num_Op.f a0 a1 a2 = some r) :
    Calls Try.prog 15 #[.int .i64 a0, .int .i64 a1, .int .i64 a2] w fun e w' => e = .returned (.int .i64 r) ∧ Below w.heap.size w w' := by
  obtain rfl := Option.some.inj h
  clear h
  have hx := wrap32_range a1
  have hy := wrap32_range a2
  by_cases h0 : a0 < 4 ∨ 10 < a0
  · have e0 : wrap32 (opI a0 (wrap32 a1) (wrap32 a2)) = 0 := by
      unfold opI
      rw [if_neg (by omega), if_neg (by omega), if_neg (by omega), if_neg (by omega), if_neg (by omega), if_neg (by omega), if_neg (by omega)]; unfold wrap32; omega
    rw [e0]
    exact num_Op_miss a0 a1 a2 w h0
  · rcases (show a0 = 4 ∨ a0 = 5 ∨ a0 = 6 ∨ a0 = 7 ∨ a0 = 8 ∨ a0 = 9 ∨ a0 = 10 by omega) with rfl | rfl | rfl | rfl | rfl | rfl | rfl
    · exact num_Op_add a1 a2 _ w (fun W => op_add _ _ W hx hy)
    · exact num_Op_sub a1 a2 _ w (fun W => op_sub _ _ W hx hy)
    · exact num_Op_mul a1 a2 _ w (fun W => op_mul _ _ W hx hy)
    · exact num_Op_div a1 a2 _ w (fun W => op_div _ _ W hx hy)
    · exact num_Op_mod a1 a2 _ w (fun W => op_mod _ _ W hx hy)
    · exact num_Op_min a1 a2 _ w (fun W => op_min _ _ W)
    · exact num_Op_max a1 a2 _ w (fun W => op_max _ _ W)

end Go.Proofs.Ytamfgbenceoleaa.NumOp
/-! Sets of values: plain definitions. -/
namespace Go.Proofs.Ytamfgbenceoleaa.Span
set_option linter.unusedVariables false
set_option linter.unusedSimpArgs false
set_option linter.unusedSectionVars false
set_option linter.unnecessarySimpa false
open Go.Proofs.Ytamfgbenceoleaa.Ev
/-- Of 32 bits. -/
def w32 (n : Int) : Int := (n + 2147483648) % 4294967296 - 2147483648
/-- What the operators give, before it is wrapped. -/
def opJ (op x y : Int) : Int := if op = 4 then x + y else if op = 5 then x - y else if op = 6 then x * y else if op = 7 then (if y = 0 then 0 else Int.tdiv x y) else if op = 8 then (if y = 0 then x else Int.tmod x y) else if op = 9 then (if y < x then y else x) else if op = 10 then (if x < y then y else x) else 0
def opG (op a b : Int) : Int := w32 (opJ op (w32 a) (w32 b))
structure Abs where
  lo : Int
  hi : Int
  m : Int
  r : Int
  mask : Int
  deriving DecidableEq
abbrev MinI : Int := -2147483648
abbrev MaxI : Int := 2147483647
/-- Valid sets. -/
def VA (a : Abs) : Prop :=
  -2147483648 ≤ a.lo ∧ a.lo ≤ a.hi ∧ a.hi ≤ 2147483647 ∧ 0 ≤ a.mask ∧ a.mask ≤ 255 ∧ 1 ≤ a.m ∧
  (a.lo = a.hi → a.m = 1 ∧ a.r = 0) ∧ (a.lo ≠ a.hi → a.m ≤ a.hi - a.lo ∧ (a.hi - a.lo) % a.m = 0 ∧ a.r = a.lo % a.m)
instance (a : Abs) : Decidable (VA a) := by unfold VA; exact inferInstance
def validF (a : Abs) : Bool := decide (VA a)
def gcdL (a : Int) (l : List Int) : Int := (l.foldl (fun (g : Nat) (b : Int) => Nat.gcd g b.natAbs) a.natAbs : Nat)
def stepF (a : Abs) : Int := if a.lo = a.hi then 0 else a.m
def topF (lo hi m : Int) : Int := if m > 0 then hi - (hi - lo) % m else hi
def byF (lo hi m mask : Int) : Abs :=
  if lo = topF lo hi m then ⟨lo, lo, 1, 0, mask⟩ else ⟨lo, topF lo hi m, m, lo % m, mask⟩
def likeF (r m lo hi mask : Int) : Abs := byF (lo + (r - lo) % m) hi m mask
def orM (a b : Int) : Int := (a.toNat ||| b.toNat : Nat)
def andM (a b : Int) : Int := (a.toNat &&& b.toNat : Nat)
def subB (a b : Int) : Bool := (a.toNat ||| b.toNat) == b.toNat
def withinF (a : Abs) (v : Int) : Bool := decide (a.lo ≤ v) && (decide (v ≤ a.hi) && decide ((v - a.lo) % a.m = 0))
def hasF (a : Abs) (v mask : Int) : Bool := withinF a v && subB mask a.mask
def absI (a : Int) : Int := a.natAbs
def apartF (a b : Abs) : Int := gcdL (stepF a) [stepF b, absI (a.lo - b.lo)]
def joinF (a b : Abs) : Abs := byF (min a.lo b.lo) (max a.hi b.hi) (apartF a b) (orM a.mask b.mask)
def leqF (a b : Abs) : Bool := decide (joinF a b = b)
def ofF (v mask : Int) : Abs := ⟨v, v, 1, 0, mask⟩
def allF (mask : Int) : Abs := ⟨-2147483648, 2147483647, 1, 0, mask⟩
def valB (a : Int) : Bool := decide (-2147483648 ≤ a) && decide (a ≤ 2147483647)
def andW (a b : Int) : Int := bitI .and .i64 a b
def boundF (mask lo hi m : Int) : Abs := if valB lo && valB hi then byF lo hi m mask else likeF lo (gcdL 4294967296 [m]) (-2147483648) 2147483647 mask
def addF (a b : Abs) (mask : Int) : Abs := boundF mask (a.lo + b.lo) (a.hi + b.hi) (gcdL (stepF a) [stepF b])
def subF (a b : Abs) (mask : Int) : Abs := boundF mask (a.lo - b.hi) (a.hi - b.lo) (gcdL (stepF a) [stepF b])
def mulF (a b : Abs) (mask : Int) : Abs :=
  boundF mask (min (min (min (a.lo * b.lo) (a.lo * b.hi)) (a.hi * b.lo)) (a.hi * b.hi)) (max (max (max (a.lo * b.lo) (a.lo * b.hi)) (a.hi * b.lo)) (a.hi * b.hi))
    (gcdL (absI a.lo * stepF b) [absI b.lo * stepF a, stepF a * stepF b])
def divLo (a b : Abs) : Int := if stepF b = 0 ∧ b.lo ≠ 0 then min (a.lo.tdiv b.lo) (a.hi.tdiv b.lo) else if a.lo < 0 ∨ b.lo < 0 then - max (absI a.lo) (absI a.hi) else 0
def divHi (a b : Abs) : Int := if stepF b = 0 ∧ b.lo ≠ 0 then max (a.lo.tdiv b.lo) (a.hi.tdiv b.lo) else if a.lo < 0 ∨ b.lo < 0 then max (absI a.lo) (absI a.hi) else a.hi
def divF (a b : Abs) (mask : Int) : Abs := if valB (divLo a b) && valB (divHi a b) then byF (divLo a b) (divHi a b) 1 mask else allF mask
def remF (a b : Abs) (mask : Int) : Abs :=
  if stepF b ≠ 0 then byF (min a.lo 0) (max a.hi 0) 1 mask
  else if absI b.lo = 0 ∨ (0 ≤ a.lo ∧ a.hi < absI b.lo) then { a with mask := mask }
  else likeF a.lo (gcdL (stepF a) [absI b.lo]) (max (min a.lo 0) (1 - absI b.lo)) (min (max a.hi 0) (absI b.lo - 1)) mask
def lesserF (a b : Abs) (mask : Int) : Abs := byF (min a.lo b.lo) (min a.hi b.hi) (apartF a b) mask
def greaterF (a b : Abs) (mask : Int) : Abs := byF (max a.lo b.lo) (max a.hi b.hi) (apartF a b) mask
def opA (op : Int) (a b : Abs) : Abs :=
  if (stepF a = 0 ∧ stepF b = 0) ∨ op < 4 ∨ 10 < op then ofF (opG op a.lo b.lo) (orM a.mask b.mask)
  else if op = 4 then addF a b (orM a.mask b.mask) else if op = 5 then subF a b (orM a.mask b.mask) else if op = 6 then mulF a b (orM a.mask b.mask)
  else if op = 7 then divF a b (orM a.mask b.mask) else if op = 8 then remF a b (orM a.mask b.mask) else if op = 9 then lesserF a b (orM a.mask b.mask) else greaterF a b (orM a.mask b.mask)
def madeLo (lo : Int) : Int := w32 lo
def madeM (m : Int) : Int := 1 + m % 1048576
def madeF (lo n m mask : Int) : Abs :=
  byF (w32 lo) (min (w32 lo + n % 2147483648 / madeM m * madeM m) (2147483647 - (2147483647 - w32 lo) % madeM m)) (madeM m) (mask % 256)
def atV (a : Abs) (n : Int) : Int := a.lo + n % ((a.hi - a.lo) / a.m + 1) * a.m
/-- What is asked of the arguments. -/
def okN (n : Int) : Bool := decide (-1099511627776 ≤ n) && decide (n ≤ 1099511627776)
def okW (n : Int) : Bool := decide (-4611686018427387904 ≤ n) && decide (n ≤ 4611686018427387904)
def okV (n : Int) : Bool := decide (-9223372036854775807 ≤ n) && decide (n ≤ 9223372036854775807)
def okMod (m : Int) : Bool := decide (0 < m) && okW m
def okBy (lo hi m : Int) : Bool := okN lo && (okN hi && (okV m && (decide (lo ≤ hi) && (decide (0 ≤ m) && decide (m = 0 → lo = hi)))))
def okLike (r m lo hi : Int) : Bool := okW r && (okN lo && (okN hi && (decide (0 < m) && (okW m && decide (lo + (r - lo) % m ≤ hi)))))
def okBnd (lo hi m : Int) : Bool := okW lo && (okW hi && (okV m && (decide (lo ≤ hi) && (decide (0 ≤ m) && decide (m = 0 → lo = hi)))))
def okL (l : List Int) : Bool := l.all okV && decide (l.length ≤ 1000)
def okM (n : Int) : Bool := decide (0 ≤ n) && decide (n ≤ 255)
def okMul (a b : Abs) : Bool := okW (stepF a * stepF b)
theorem okN_iff {n : Int} : okN n = true ↔ -1099511627776 ≤ n ∧ n ≤ 1099511627776 := by simp [okN]
theorem okW_iff {n : Int} : okW n = true ↔ -4611686018427387904 ≤ n ∧ n ≤ 4611686018427387904 := by simp [okW]
theorem okV_iff {n : Int} : okV n = true ↔ -9223372036854775807 ≤ n ∧ n ≤ 9223372036854775807 := by simp [okV]
theorem wrap_of {n : Int} (h0 : -9223372036854775808 ≤ n) (h1 : n ≤ 9223372036854775807) : IntKind.i64.wrap n = n := by
  have e : IntKind.i64.wrap n = if n % 18446744073709551616 ≥ 9223372036854775808 then n % 18446744073709551616 - 18446744073709551616 else n % 18446744073709551616 := by
    simp [IntKind.wrap, IntKind.bits, IntKind.signed]
  rw [e]; split <;> omega
theorem emod_le {x m : Int} (h : 0 ≤ x) (hm : 0 < m) : x % m ≤ x := by
  have h1 := Int.mul_ediv_add_emod x m
  have h2 : 0 ≤ m * (x / m) := Int.mul_nonneg (by omega) (Int.ediv_nonneg h (by omega))
  omega
theorem mnI_eq (a b : Int) : mnI a b = min a b := by unfold mnI; split <;> omega
theorem mxI_eq (a b : Int) : mxI a b = max a b := by unfold mxI; split <;> omega
end Go.Proofs.Ytamfgbenceoleaa.Span
/-! Masks: bits. -/
namespace Go.Proofs.Ytamfgbenceoleaa.Span
set_option linter.unusedVariables false
set_option linter.unusedSimpArgs false
set_option linter.unusedSectionVars false
set_option linter.unnecessarySimpa false
open Go.Proofs.Ytamfgbenceoleaa.Ev
theorem ofInt_toNat {x : Int} (h0 : 0 ≤ x) (h1 : x < 18446744073709551616) : (BitVec.ofInt 64 x).toNat = x.toNat := by
  rw [BitVec.toNat_ofInt]
  congr 1
  exact Int.emod_eq_of_lt h0 (by omega)
theorem bitI_or {a b : Int} (ha : 0 ≤ a) (ha' : a ≤ 255) (hb : 0 ≤ b) (hb' : b ≤ 255) : bitI .or .i64 a b = orM a b := by
  have e1 : (BitVec.ofInt 64 a).toNat = a.toNat := ofInt_toNat ha (by omega)
  have e2 : (BitVec.ofInt 64 b).toNat = b.toNat := ofInt_toNat hb (by omega)
  have hl : a.toNat ||| b.toNat < 2 ^ 8 := Nat.or_lt_two_pow (by omega) (by omega)
  show IntKind.i64.wrap (((BitVec.ofInt 64 a) ||| (BitVec.ofInt 64 b)).toNat : Int) = _
  rw [BitVec.toNat_or, e1, e2]
  rw [wrap_of (by omega) (by omega)]
  rfl
theorem bitI_and {a b : Int} (ha : 0 ≤ a) (ha' : a ≤ 255) (hb : 0 ≤ b) (hb' : b ≤ 255) : bitI .and .i64 a b = andM a b := by
  have e1 : (BitVec.ofInt 64 a).toNat = a.toNat := ofInt_toNat ha (by omega)
  have e2 : (BitVec.ofInt 64 b).toNat = b.toNat := ofInt_toNat hb (by omega)
  have hl : a.toNat &&& b.toNat ≤ b.toNat := Nat.and_le_right
  show IntKind.i64.wrap (((BitVec.ofInt 64 a) &&& (BitVec.ofInt 64 b)).toNat : Int) = _
  rw [BitVec.toNat_and, e1, e2]
  rw [wrap_of (by omega) (by omega)]
  rfl
theorem wrap_zero {n : Nat} (h : n < 18446744073709551616) : IntKind.i64.wrap (n : Int) = 0 ↔ n = 0 := by
  have e : IntKind.i64.wrap (n : Int) = if (n : Int) % 18446744073709551616 ≥ 9223372036854775808 then (n : Int) % 18446744073709551616 - 18446744073709551616 else (n : Int) % 18446744073709551616 := by
    simp [IntKind.wrap, IntKind.bits, IntKind.signed]
  rw [e]; split <;> omega
theorem andNot_zero (x y : BitVec 64) : (x &&& ~~~y).toNat = 0 ↔ x.toNat ||| y.toNat = y.toNat := by
  rw [← BitVec.toNat_or]
  constructor
  · intro h
    have h0 : x &&& ~~~y = 0#64 := BitVec.eq_of_toNat_eq (by simpa using h)
    congr 1
    apply BitVec.eq_of_getLsbD_eq
    intro i hi
    have := congrArg (fun z : BitVec 64 => z.getLsbD i) h0
    simp [hi] at this
    simp
    intro hx
    exact this hx
  · intro h
    have h0 : x ||| y = y := BitVec.eq_of_toNat_eq h
    have : x &&& ~~~y = 0#64 := by
      apply BitVec.eq_of_getLsbD_eq
      intro i hi
      have := congrArg (fun z : BitVec 64 => z.getLsbD i) h0
      simp at this
      simp [hi]
      exact this
    rw [this]; rfl
theorem bitI_sub {a b : Int} (ha : 0 ≤ a) (ha' : a ≤ 255) (hb : 0 ≤ b) (hb' : b ≤ 255) : (bitI .andNot .i64 a b == 0) = subB a b := by
  have e1 : (BitVec.ofInt 64 a).toNat = a.toNat := ofInt_toNat ha (by omega)
  have e2 : (BitVec.ofInt 64 b).toNat = b.toNat := ofInt_toNat hb (by omega)
  rw [Bool.eq_iff_iff]
  simp only [beq_iff_eq, subB]
  show IntKind.i64.wrap (((BitVec.ofInt 64 a) &&& ~~~(BitVec.ofInt 64 b)).toNat : Int) = 0 ↔ _
  rw [wrap_zero (BitVec.isLt _), andNot_zero, e1, e2]
theorem andW_range (k : Int) {b : Int} (hb : 0 ≤ b) (hb' : b ≤ 255) : 0 ≤ andW k b ∧ andW k b ≤ 255 ∧ subB (andW k b) b = true := by
  have e2 : (BitVec.ofInt 64 b).toNat = b.toNat := ofInt_toNat hb (by omega)
  have e : andW k b = (((BitVec.ofInt 64 k).toNat &&& b.toNat : Nat) : Int) := by
    show IntKind.i64.wrap (((BitVec.ofInt 64 k) &&& (BitVec.ofInt 64 b)).toNat : Int) = _
    rw [BitVec.toNat_and, e2]
    have hl : (BitVec.ofInt 64 k).toNat &&& b.toNat ≤ b.toNat := Nat.and_le_right
    rw [wrap_of (by omega) (by omega)]
  have hl : (BitVec.ofInt 64 k).toNat &&& b.toNat ≤ b.toNat := Nat.and_le_right
  rw [e]
  refine ⟨by omega, by omega, ?_⟩
  simp only [subB, beq_iff_eq, Int.toNat_natCast]
  apply Nat.eq_of_testBit_eq
  intro i
  simp only [Nat.testBit_or, Nat.testBit_and]
  cases (BitVec.ofInt 64 k).toNat.testBit i <;> simp
theorem orM_range {a b : Int} (ha : 0 ≤ a) (ha' : a ≤ 255) (hb : 0 ≤ b) (hb' : b ≤ 255) : 0 ≤ orM a b ∧ orM a b ≤ 255 := by
  have hl : a.toNat ||| b.toNat < 2 ^ 8 := Nat.or_lt_two_pow (by omega) (by omega)
  unfold orM; omega
theorem andM_range {a b : Int} (ha : 0 ≤ a) (ha' : a ≤ 255) (hb : 0 ≤ b) (hb' : b ≤ 255) : 0 ≤ andM a b ∧ andM a b ≤ 255 := by
  have hl : a.toNat &&& b.toNat ≤ b.toNat := Nat.and_le_right
  unfold andM; omega
theorem subB_iff {a b : Int} : subB a b = true ↔ a.toNat ||| b.toNat = b.toNat := by simp [subB]
theorem subB_refl (a : Int) : subB a a = true := by simp [subB]
theorem subB_bits {a b : Int} : subB a b = true ↔ ∀ i, a.toNat.testBit i = true → b.toNat.testBit i = true := by
  rw [subB_iff]
  constructor
  · intro h i hi
    have := congrArg (fun n : Nat => n.testBit i) h
    simp only [Nat.testBit_or, hi, Bool.true_or] at this
    exact this.symm
  · intro h
    apply Nat.eq_of_testBit_eq
    intro i
    rw [Nat.testBit_or]
    cases hc : a.toNat.testBit i with
    | true => rw [h i hc]; rfl
    | false => simp
theorem subB_trans {a b c : Int} (h : subB a b = true) (k : subB b c = true) : subB a c = true := by
  rw [subB_bits] at *; exact fun i hi => k i (h i hi)
theorem orM_bits {a b : Int} (i : Nat) : (orM a b).toNat.testBit i = (a.toNat.testBit i || b.toNat.testBit i) := by simp [orM]
theorem andM_bits {a b : Int} (i : Nat) : (andM a b).toNat.testBit i = (a.toNat.testBit i && b.toNat.testBit i) := by simp [andM]
theorem subB_or_left (a b : Int) : subB a (orM a b) = true := by rw [subB_bits]; intro i h; rw [orM_bits, h]; rfl
theorem subB_or_right (a b : Int) : subB b (orM a b) = true := by rw [subB_bits]; intro i h; rw [orM_bits, h]; simp
theorem subB_or {a b c : Int} (h : subB a c = true) (k : subB b c = true) : subB (orM a b) c = true := by
  rw [subB_bits] at *; intro i hi; rw [orM_bits] at hi
  rcases Bool.or_eq_true _ _ ▸ hi with hi | hi
  · exact h i hi
  · exact k i hi
theorem subB_mono {a b c d : Int} (h : subB a c = true) (k : subB b d = true) : subB (orM a b) (orM c d) = true :=
  subB_or (subB_trans h (subB_or_left c d)) (subB_trans k (subB_or_right c d))
theorem mask_ext {a b : Int} (ha : 0 ≤ a) (hb : 0 ≤ b) (h : ∀ i, a.toNat.testBit i = b.toNat.testBit i) : a = b := by
  have := Nat.eq_of_testBit_eq h; omega
theorem orM_comm (a b : Int) : orM a b = orM b a := by unfold orM; rw [Nat.or_comm]
theorem orM_assoc (a b c : Int) : orM (orM a b) c = orM a (orM b c) := by simp [orM, Nat.or_assoc]
theorem orM_self {a : Int} (h : 0 ≤ a) : orM a a = a := by simp [orM]; omega
theorem orM_eq_iff {a b : Int} (hb : 0 ≤ b) : orM a b = b ↔ subB a b = true := by
  rw [subB_iff]; unfold orM; omega
end Go.Proofs.Ytamfgbenceoleaa.Span
/-! Divisors; sets by a step. -/
namespace Go.Proofs.Ytamfgbenceoleaa.Span
set_option linter.unusedVariables false
set_option linter.unusedSimpArgs false
set_option linter.unusedSectionVars false
set_option linter.unnecessarySimpa false
open Go.Proofs.Ytamfgbenceoleaa.Ev
theorem foldg_dvd : ∀ (l : List Int) (g d : Nat), d ∣ l.foldl (fun (g : Nat) (b : Int) => Nat.gcd g b.natAbs) g ↔ d ∣ g ∧ ∀ b ∈ l, d ∣ b.natAbs
  | [], g, d => by simp
  | b :: l, g, d => by
    rw [List.foldl_cons, foldg_dvd l, Nat.dvd_gcd_iff]
    simp only [List.mem_cons, forall_eq_or_imp, and_assoc]
theorem gcdL_nonneg (a : Int) (l : List Int) : 0 ≤ gcdL a l := by unfold gcdL; omega
theorem gcdL_dvd {a : Int} {l : List Int} {d : Int} : d ∣ gcdL a l ↔ d ∣ a ∧ ∀ b ∈ l, d ∣ b := by
  unfold gcdL
  rw [← Int.natAbs_dvd, Int.natCast_dvd_natCast, foldg_dvd]
  simp only [Int.natAbs_dvd_natAbs]
theorem gcdL_self {a : Int} {l : List Int} : gcdL a l ∣ a ∧ ∀ b ∈ l, gcdL a l ∣ b := gcdL_dvd.1 (Int.dvd_refl _)
theorem gcdL_zero {a : Int} {l : List Int} (h : gcdL a l = 0) : a = 0 ∧ ∀ b ∈ l, b = 0 := by
  have := gcdL_self (a := a) (l := l)
  rw [h] at this
  exact ⟨Int.zero_dvd.1 this.1, fun b hb => Int.zero_dvd.1 (this.2 b hb)⟩
theorem gcdL_le {a : Int} {l : List Int} {B : Int} (hB : 0 ≤ B) (ha : -B ≤ a ∧ a ≤ B) (hl : ∀ b ∈ l, -B ≤ b ∧ b ≤ B) : gcdL a l ≤ B := by
  by_cases h0 : gcdL a l = 0
  · omega
  · have hs := gcdL_self (a := a) (l := l)
    have hn := gcdL_nonneg a l
    have key : ∀ x : Int, gcdL a l ∣ x → (-B ≤ x ∧ x ≤ B) → x ≠ 0 → gcdL a l ≤ B := fun x hd hx hne => by
      have h1 := Int.le_of_dvd (show 0 < (x.natAbs : Int) by omega) (Int.dvd_natAbs.2 hd)
      omega
    by_cases ha0 : a = 0
    · by_cases hall : ∀ b ∈ l, b = 0
      · exfalso; apply h0
        have : (0 : Int) ∣ gcdL a l := gcdL_dvd.2 ⟨by rw [ha0]; exact Int.dvd_refl _, fun b hb => by rw [hall b hb]; exact Int.dvd_refl _⟩
        exact Int.zero_dvd.1 this
      · have ⟨b, hb, hb0⟩ : ∃ b ∈ l, b ≠ 0 := by
          refine Classical.byContradiction fun hc => hall fun b hb => Classical.byContradiction fun h1 => hc ⟨b, hb, h1⟩
        exact key b (hs.2 b hb) (hl b hb) hb0
    · exact key a hs.1 ha ha0
theorem step_range {a : Abs} (h : VA a) : 0 ≤ stepF a ∧ stepF a ≤ 4294967295 := by
  obtain ⟨h1, h2, h3, h4, h5, h6, h7, h8⟩ := h
  unfold stepF
  split
  · omega
  · rename_i hne; have := h8 hne; omega
theorem step_zero {a : Abs} (h : VA a) : stepF a = 0 ↔ a.lo = a.hi := by
  obtain ⟨h1, h2, h3, h4, h5, h6, h7, h8⟩ := h
  unfold stepF
  split
  · simp_all
  · rename_i hne; constructor
    · omega
    · intro hc; exact absurd hc hne
theorem apart_zero {a b : Abs} (ha : VA a) (hb : VA b) (h : apartF a b = 0) : a.lo = a.hi ∧ b.lo = b.hi ∧ a.lo = b.lo := by
  obtain ⟨h1, h2⟩ := gcdL_zero h
  have h3 := h2 (stepF b) (by simp)
  have h4 := h2 (absI (a.lo - b.lo)) (by simp)
  unfold absI at h4
  exact ⟨(step_zero ha).1 h1, (step_zero hb).1 h3, by omega⟩
theorem apart_range {a b : Abs} (ha : VA a) (hb : VA b) : 0 ≤ apartF a b ∧ apartF a b ≤ 4294967295 := by
  refine ⟨gcdL_nonneg _ _, gcdL_le (by omega) ?_ ?_⟩
  · have := step_range ha; omega
  · intro x hx
    have := step_range hb
    obtain ⟨a1, a2, a3, _⟩ := ha
    obtain ⟨b1, b2, b3, _⟩ := hb
    simp only [List.mem_cons, List.mem_nil_iff, or_false] at hx
    rcases hx with rfl | rfl
    · omega
    · unfold absI; omega
theorem VA.m_le {a : Abs} (h : VA a) : 1 ≤ a.m ∧ a.m ≤ 4294967295 := by
  obtain ⟨h1, h2, h3, h4, h5, h6, h7, h8⟩ := h
  refine ⟨h6, ?_⟩
  by_cases hc : a.lo = a.hi
  · have := (h7 hc).1; omega
  · have := (h8 hc).1; omega
end Go.Proofs.Ytamfgbenceoleaa.Span
/-! What slices hold, in this seat: whole numbers. -/
namespace Go.Proofs.Ytamfgbenceoleaa.Span
set_option linter.unusedVariables false
set_option linter.unusedSimpArgs false
set_option linter.unusedSectionVars false
set_option linter.unnecessarySimpa false
open Go.Proofs.Ytamfgbenceoleaa.Ev Go.RowKit
inductive Tok where
  | ints (l : List Int)
def Itp : Interp Tok where
  len := fun | .ints l => l.length
  sz := fun | .ints _ => 1
  cells := fun | .ints l, i => [.int .i64 (l.getD i 0)]
  closed := fun t i L => by cases t; rfl
abbrev V := AV Tok
abbrev Sp := List V → Tr V
@[reducible] def iA (n : Int) : V := .int .i64 n
theorem hm : Try.prog.follows .mixedOrders = true := by kernel_rfl
def encA (a : Abs) : V := .agg [iA a.lo, iA a.hi, iA a.m, iA a.r, iA a.mask]
end Go.Proofs.Ytamfgbenceoleaa.Span
/- From the reading of an argument to the shape of its cells: one lemma for each form of type. No condition. -/
namespace Go.Proofs.Ytamfgbenceoleaa.Opn
set_option linter.unusedVariables false
set_option linter.unusedSimpArgs false
set_option linter.unusedSectionVars false
set_option linter.unnecessarySimpa false
open Go.RowKit Go.Proofs.Ytamfgbenceoleaa.Ev
set_option linter.unusedVariables false
section
variable {H : Type}
/-- Readings of type t have cells of which G holds; fuel up to m. -/
def Opens (enc : TypeId × Value → H) (P : Program) (W : World) (m : Nat) (t : TypeId) (G : List Value → Prop) : Prop :=
  ∀ fuel, fuel ≤ m → ∀ cs x, DataW.trod enc P W 0 (fun _ => true) true fuel t cs = some x → G cs
variable {enc : TypeId × Value → H} {P : Program} {W : World} {m : Nat} {t e : TypeId} {G : List Value → Prop}
theorem Opens.le {m' : Nat} (h : Opens enc P W m t G) (hm : m' ≤ m) : Opens enc P W m' t G := fun fuel hf => h fuel (Nat.le_trans hf hm)
theorem opens_int {k : IntKind} (ht : P.underlying t = some (.int k)) : Opens enc P W m t (fun cs => ∃ n, cs = [.int k n] ∧ (Lit.int k n).wf = true) := by
  intro fuel _ cs x h
  obtain ⟨n, rfl, rfl, hw⟩ := DataW.trod_int ht h
  exact ⟨n, rfl, hw⟩
theorem opens_bool (ht : P.underlying t = some .bool) : Opens enc P W m t (fun cs => ∃ b, cs = [.bool b]) := by
  intro fuel _ cs x h
  obtain ⟨n, rfl, rfl⟩ := DataW.trod_bool ht h
  exact ⟨n, rfl⟩
/-- Values that are read one behind the other. -/
inductive FieldsRead (enc : TypeId × Value → H) (P : Program) (W : World) (n : Nat) : List TypeId → List Value → List (DataW H × List MemPlace) → Prop
  | nil : FieldsRead enc P W n [] [] []
  | cons {t : TypeId} {ts : List TypeId} {c cs : List Value} {x : DataW H × List MemPlace} {xs : List (DataW H × List MemPlace)} (h : DataW.trod enc P W 0 (fun _ => true) true n t c = some x) (hs : FieldsRead enc P W n ts cs xs) : FieldsRead enc P W n (t :: ts) (c ++ cs) (x :: xs)
/-- Fields one behind the other, from offset o on, to the end (total). -/
def consec (P : Program) : Nat → Nat → List (Nat × TypeId) → Bool
  | o, total, [] => decide (o = total)
  | o, total, (off, t) :: r => decide (off = o) && consec P (o + P.cellsOf t) total r
theorem fieldsRead_of {n total : Nat} {cs : List Value} (hl : cs.length = total) : ∀ (fs : List (Nat × TypeId)) (o : Nat) (xs : List (DataW H × List MemPlace)), xs.length = fs.length → consec P o total fs = true → o ≤ total →
    (∀ (i : Nat) (off : Nat) (t : TypeId), fs[i]? = some (off, t) → DataW.trod enc P W 0 (fun _ => true) true n t ((cs.drop off).take (P.cellsOf t)) = xs[i]?) → FieldsRead enc P W n (fs.map (·.2)) (cs.drop o) xs
  | [], o, xs, hx, hc, ho, h => by
    have e : o = total := of_decide_eq_true hc
    obtain rfl : xs = [] := List.length_eq_zero_iff.1 hx
    rw [List.drop_of_length_le (by omega)]
    exact .nil
  | (off, t) :: r, o, [], hx, hc, ho, h => by simp at hx
  | (off, t) :: r, o, x :: xs, hx, hc, ho, h => by
    simp only [consec, Bool.and_eq_true, decide_eq_true_eq] at hc
    obtain ⟨rfl, hc⟩ := hc
    have h0 := h 0 off t rfl
    have ho2 : off + P.cellsOf t ≤ total := by
      clear h0 h hx
      suffices ∀ (r : List (Nat × TypeId)) (o : Nat), consec P o total r = true → o ≤ total from this r _ hc
      intro r
      induction r with
      | nil => intro o h; have := of_decide_eq_true h; omega
      | cons y r ih =>
        intro o h
        obtain ⟨off', t'⟩ := y
        simp only [consec, Bool.and_eq_true, decide_eq_true_eq] at h
        have := ih _ h.2
        omega
    have e : cs.drop off = (cs.drop off).take (P.cellsOf t) ++ cs.drop (off + P.cellsOf t) := by
      rw [← List.drop_drop, List.take_append_drop]
    rw [e]
    exact .cons (by simpa using h0) (fieldsRead_of hl r (off + P.cellsOf t) xs (by simpa using hx) hc ho2 (fun i off' t' hi => h (i + 1) off' t' hi))
/-- Rows of fields of which G holds. -/
def OpensRow (enc : TypeId × Value → H) (P : Program) (W : World) (m : Nat) (ts : List TypeId) (G : List Value → Prop) : Prop :=
  ∀ fuel, fuel ≤ m → ∀ cs xs, FieldsRead enc P W fuel ts cs xs → G cs
theorem row_nil : OpensRow enc P W m [] (fun cs => cs = []) := by
  intro fuel hf cs xs hr
  cases hr
  rfl
theorem row_cons {G2 : List Value → Prop} {ts : List TypeId} (h : Opens enc P W m t G) (h2 : OpensRow enc P W m ts G2) : OpensRow enc P W m (t :: ts) (fun cs => ∃ a b, cs = a ++ b ∧ G a ∧ G2 b) := by
  intro fuel hf cs xs hr
  cases hr with
  | cons hx hs => exact ⟨_, _, rfl, h fuel hf _ _ hx, h2 fuel hf _ _ hs⟩
theorem opens_struct {fs : Array Field} (ht : P.underlying t = some (.struct fs)) (hc : consec P 0 (P.cellsOf t) (fs.toList.map fun f => (f.offset, f.type)) = true)
    (h : OpensRow enc P W m (fs.toList.map (·.type)) G) : Opens enc P W (m + 1) t G := by
  intro fuel hf cs x hx
  obtain ⟨xs, n, rfl, rfl, hl, hn, hread⟩ := DataW.trod_struct ht hx
  have hr := fieldsRead_of (enc := enc) (P := P) (W := W) (n := n) hl (fs.toList.map fun f => (f.offset, f.type)) 0 xs (by simpa using hn) hc (Nat.zero_le _) (fun i off t hi => by
    rw [List.getElem?_map] at hi
    obtain ⟨f, hf, he⟩ := Option.map_eq_some_iff.1 hi
    obtain ⟨rfl, rfl⟩ := Prod.mk.inj he
    exact hread i f (by simpa using hf))
  rw [List.map_map] at hr
  have := h n (by omega) _ _ hr
  simpa using this
theorem opens_array {k : Nat} {e : TypeId} (ht : P.underlying t = some (.array k e)) (hc : consec P 0 (P.cellsOf t) ((List.range k).map fun i => (i * P.cellsOf e, e)) = true)
    (h : OpensRow enc P W m (List.replicate k e) G) : Opens enc P W (m + 1) t G := by
  intro fuel hf cs x hx
  obtain ⟨xs, n, rfl, rfl, hl, hn, hread⟩ := DataW.trod_array ht hx
  have hr := fieldsRead_of (enc := enc) (P := P) (W := W) (n := n) hl ((List.range k).map fun i => (i * P.cellsOf e, e)) 0 xs (by simpa using hn) hc (Nat.zero_le _) (fun i off t hi => by
    rw [List.getElem?_map] at hi
    obtain ⟨j, hj, he⟩ := Option.map_eq_some_iff.1 hi
    obtain ⟨rfl, rfl⟩ := Prod.mk.inj he
    have hik : i < k := by
      have := (List.getElem?_eq_some_iff.1 hj).1
      simpa using this
    have hji : j = i := by
      rw [List.getElem?_range hik] at hj
      exact (Option.some.inj hj).symm
    subst hji
    exact hread j hik)
  have e1 : ((List.range k).map fun i => (i * P.cellsOf e, e)).map (·.2) = List.replicate k e := by
    rw [List.map_map]
    apply List.ext_getElem (by simp)
    intro i h1 h2
    simp
  rw [e1] at hr
  have := h n (by omega) _ _ hr
  simpa using this
/-- Whatever the fuel: from one step more. -/
theorem opens_all (h : ∀ m, Opens enc P W (m + 1) t G) : ∀ m, Opens enc P W m t G := fun m => (h m).le (Nat.le_succ m)
/-- An argument, opened. -/
theorem opens_arg {v : Value} {x : DataW H} {p : List MemPlace} (h : ∀ m, Opens enc P W m t G) (hv : DataW.Trod enc P W 0 (fun _ => true) true t v x p) : G v.cells.toList := by
  obtain ⟨fuel, hf⟩ := hv
  exact h fuel fuel (Nat.le_refl _) _ _ hf
end
theorem okWide_agg {P : Program} {w : World} {r : Reach} {base : Nat} {t : TypeId} {v : Value} (ht : (∃ fs, P.underlying t = some (.struct fs)) ∨ ∃ n e, P.underlying t = some (.array n e)) (h : Value.okWide P w r base t v) : ∃ cs, v = .agg cs := by
  rcases ht with ⟨fs, ht⟩ | ⟨n, e, ht⟩
  · simp only [Value.okWide, ht] at h
    obtain ⟨cs, h1, _⟩ := h
    exact ⟨cs, h1⟩
  · simp only [Value.okWide, ht] at h
    obtain ⟨cs, h1, _⟩ := h
    exact ⟨cs, h1⟩
theorem repAgg {T : Type} {I : Interp T} {w : World} {M : Nat → Prop} {e : Nat → Option Nat} {xs : List (AV T)} {vs : List Value} (h : RepL I w M e xs vs) : Rep I w M e (.agg xs) (.agg vs.toArray) :=
  .agg _ _ (by simpa using h.1) (fun j x v hx hv => h.2 j x v hx (by simpa using hv))
end Go.Proofs.Ytamfgbenceoleaa.Opn
/-! What is said of the functions of package span. -/
namespace Go.Proofs.Ytamfgbenceoleaa.Span
set_option linter.unusedVariables false
set_option linter.unusedSimpArgs false
set_option linter.unusedSectionVars false
set_option linter.unnecessarySimpa false
open Go.Proofs.Ytamfgbenceoleaa.Ev Go.RowKit
def opF (op a b : Int) : Int := opG op a b
def spOp : Sp
  | [.int .i64 op, .int .i64 a, .int .i64 b] => .ret (iA (opG op a b))
  | _ => .fail
def spMod : Sp
  | [.int .i64 a, .int .i64 m] => .br (okMod m) (.ret (iA (a % m))) .fail
  | _ => .fail
def spAbs : Sp
  | [.int .i64 a] => .br (okV a) (.ret (iA (absI a))) .fail
  | _ => .fail
def spVal : Sp
  | [.int .i64 a] => .ret (.bool (valB a))
  | _ => .fail
def decInts : List (List V) → Option (List Int)
  | [] => some []
  | [.int .i64 b] :: r => (decInts r).map (b :: ·)
  | _ => none
def spGcd : Sp
  | [.int .i64 a, .sli 1 xs] => match decInts xs with
    | some l => .br (okV a && okL l) (.ret (iA (gcdL a l))) .fail
    | none => .fail
  | _ => .fail
def spGcd2 : Sp
  | [.int .i64 a, .int .i64 b] => .br (decide (0 ≤ a) && (decide (0 ≤ b) && (okW a && okW b))) (.ret (iA (gcdL a [b]))) .fail
  | _ => .fail
def spStep : Sp
  | [.agg [.int .i64 a0, .int .i64 a1, .int .i64 a2, .int .i64 a3, .int .i64 a4]] => .ret (iA (stepF ⟨a0, a1, a2, a3, a4⟩))
  | _ => .fail
def spBy : Sp
  | [.int .i64 lo, .int .i64 hi, .int .i64 m, .int .i64 mask] => .br (okBy lo hi m) (.ret (encA (byF lo hi m mask))) .fail
  | _ => .fail
def spLike : Sp
  | [.int .i64 r, .int .i64 m, .int .i64 lo, .int .i64 hi, .int .i64 mask] => .br (okLike r m lo hi) (.ret (encA (likeF r m lo hi mask))) .fail
  | _ => .fail
def spWithin : Sp
  | [.agg [.int .i64 a0, .int .i64 a1, .int .i64 a2, .int .i64 a3, .int .i64 a4], .int .i64 v] => .br (validF ⟨a0, a1, a2, a3, a4⟩ && okN v) (.ret (.bool (withinF ⟨a0, a1, a2, a3, a4⟩ v))) .fail
  | _ => .fail
def spHas : Sp
  | [.agg [.int .i64 a0, .int .i64 a1, .int .i64 a2, .int .i64 a3, .int .i64 a4], .agg [.int .i64 v, .int .i64 k]] => .br (validF ⟨a0, a1, a2, a3, a4⟩ && (okN v && okM k)) (.ret (.bool (hasF ⟨a0, a1, a2, a3, a4⟩ v k))) .fail
  | _ => .fail
def spOf : Sp
  | [.agg [.int .i64 v, .int .i64 k]] => .br (okN v) (.ret (encA (ofF v k))) .fail
  | _ => .fail
def spAll : Sp
  | [.int .i64 k] => .ret (encA (allF k))
  | _ => .fail
def spJoin : Sp
  | [.agg [.int .i64 a0, .int .i64 a1, .int .i64 a2, .int .i64 a3, .int .i64 a4], .agg [.int .i64 b0, .int .i64 b1, .int .i64 b2, .int .i64 b3, .int .i64 b4]] => .br (validF ⟨a0, a1, a2, a3, a4⟩ && validF ⟨b0, b1, b2, b3, b4⟩) (.ret (encA (joinF ⟨a0, a1, a2, a3, a4⟩ ⟨b0, b1, b2, b3, b4⟩))) .fail
  | _ => .fail
def spLeq : Sp
  | [.agg [.int .i64 a0, .int .i64 a1, .int .i64 a2, .int .i64 a3, .int .i64 a4], .agg [.int .i64 b0, .int .i64 b1, .int .i64 b2, .int .i64 b3, .int .i64 b4]] => .br (validF ⟨a0, a1, a2, a3, a4⟩ && validF ⟨b0, b1, b2, b3, b4⟩) (.ret (.bool (leqF ⟨a0, a1, a2, a3, a4⟩ ⟨b0, b1, b2, b3, b4⟩))) .fail
  | _ => .fail
def spValid : Sp
  | [.agg [.int .i64 a0, .int .i64 a1, .int .i64 a2, .int .i64 a3, .int .i64 a4]] => .ret (.bool (validF ⟨a0, a1, a2, a3, a4⟩))
  | _ => .fail
def spWrap : Sp
  | [.int .i64 a] => .ret (iA (w32 a))
  | _ => .fail
def spMade : Sp
  | [.agg [.int .i64 lo, .int .i64 n, .int .i64 m, .int .i64 k]] => .ret (encA (madeF lo n m k))
  | _ => .fail
def spAt : Sp
  | [.agg [.int .i64 a0, .int .i64 a1, .int .i64 a2, .int .i64 a3, .int .i64 a4], .int .i64 n, .int .i64 k] => .br (validF ⟨a0, a1, a2, a3, a4⟩) (.ret (.agg [iA (atV ⟨a0, a1, a2, a3, a4⟩ n), iA (andW k a4)])) .fail
  | _ => .fail
def spBnd : Sp
  | [.agg [.int .i64 a0, .int .i64 a1, .int .i64 a2, .int .i64 a3, .int .i64 a4, .int .i64 b0, .int .i64 b1, .int .i64 b2, .int .i64 b3, .int .i64 b4, .int .i64 k], .int .i64 lo, .int .i64 hi, .int .i64 m] => .br (okBnd lo hi m) (.ret (encA (boundF k lo hi m))) .fail
  | _ => .fail
def spAdd : Sp
  | [.agg [.int .i64 a0, .int .i64 a1, .int .i64 a2, .int .i64 a3, .int .i64 a4, .int .i64 b0, .int .i64 b1, .int .i64 b2, .int .i64 b3, .int .i64 b4, .int .i64 k]] => .br (validF ⟨a0, a1, a2, a3, a4⟩ && validF ⟨b0, b1, b2, b3, b4⟩) (.ret (encA (addF ⟨a0, a1, a2, a3, a4⟩ ⟨b0, b1, b2, b3, b4⟩ k))) .fail
  | _ => .fail
def spSub : Sp
  | [.agg [.int .i64 a0, .int .i64 a1, .int .i64 a2, .int .i64 a3, .int .i64 a4, .int .i64 b0, .int .i64 b1, .int .i64 b2, .int .i64 b3, .int .i64 b4, .int .i64 k]] => .br (validF ⟨a0, a1, a2, a3, a4⟩ && validF ⟨b0, b1, b2, b3, b4⟩) (.ret (encA (subF ⟨a0, a1, a2, a3, a4⟩ ⟨b0, b1, b2, b3, b4⟩ k))) .fail
  | _ => .fail
def spMul : Sp
  | [.agg [.int .i64 a0, .int .i64 a1, .int .i64 a2, .int .i64 a3, .int .i64 a4, .int .i64 b0, .int .i64 b1, .int .i64 b2, .int .i64 b3, .int .i64 b4, .int .i64 k]] => .br (validF ⟨a0, a1, a2, a3, a4⟩ && (validF ⟨b0, b1, b2, b3, b4⟩ && okMul ⟨a0, a1, a2, a3, a4⟩ ⟨b0, b1, b2, b3, b4⟩)) (.ret (encA (mulF ⟨a0, a1, a2, a3, a4⟩ ⟨b0, b1, b2, b3, b4⟩ k))) .fail
  | _ => .fail
def spDiv : Sp
  | [.agg [.int .i64 a0, .int .i64 a1, .int .i64 a2, .int .i64 a3, .int .i64 a4, .int .i64 b0, .int .i64 b1, .int .i64 b2, .int .i64 b3, .int .i64 b4, .int .i64 k]] => .br (validF ⟨a0, a1, a2, a3, a4⟩ && validF ⟨b0, b1, b2, b3, b4⟩) (.ret (encA (divF ⟨a0, a1, a2, a3, a4⟩ ⟨b0, b1, b2, b3, b4⟩ k))) .fail
  | _ => .fail
def spRem : Sp
  | [.agg [.int .i64 a0, .int .i64 a1, .int .i64 a2, .int .i64 a3, .int .i64 a4, .int .i64 b0, .int .i64 b1, .int .i64 b2, .int .i64 b3, .int .i64 b4, .int .i64 k]] => .br (validF ⟨a0, a1, a2, a3, a4⟩ && validF ⟨b0, b1, b2, b3, b4⟩) (.ret (encA (remF ⟨a0, a1, a2, a3, a4⟩ ⟨b0, b1, b2, b3, b4⟩ k))) .fail
  | _ => .fail
def spApart : Sp
  | [.agg [.int .i64 a0, .int .i64 a1, .int .i64 a2, .int .i64 a3, .int .i64 a4, .int .i64 b0, .int .i64 b1, .int .i64 b2, .int .i64 b3, .int .i64 b4, .int .i64 k]] => .br (validF ⟨a0, a1, a2, a3, a4⟩ && validF ⟨b0, b1, b2, b3, b4⟩) (.ret (iA (apartF ⟨a0, a1, a2, a3, a4⟩ ⟨b0, b1, b2, b3, b4⟩))) .fail
  | _ => .fail
def spLesser : Sp
  | [.agg [.int .i64 a0, .int .i64 a1, .int .i64 a2, .int .i64 a3, .int .i64 a4, .int .i64 b0, .int .i64 b1, .int .i64 b2, .int .i64 b3, .int .i64 b4, .int .i64 k]] => .br (validF ⟨a0, a1, a2, a3, a4⟩ && validF ⟨b0, b1, b2, b3, b4⟩) (.ret (encA (lesserF ⟨a0, a1, a2, a3, a4⟩ ⟨b0, b1, b2, b3, b4⟩ k))) .fail
  | _ => .fail
def spGreater : Sp
  | [.agg [.int .i64 a0, .int .i64 a1, .int .i64 a2, .int .i64 a3, .int .i64 a4, .int .i64 b0, .int .i64 b1, .int .i64 b2, .int .i64 b3, .int .i64 b4, .int .i64 k]] => .br (validF ⟨a0, a1, a2, a3, a4⟩ && validF ⟨b0, b1, b2, b3, b4⟩) (.ret (encA (greaterF ⟨a0, a1, a2, a3, a4⟩ ⟨b0, b1, b2, b3, b4⟩ k))) .fail
  | _ => .fail
def spOpers : Sp
  | [] => .ret (.agg [.fn (.func 73) [] [], .fn (.func 74) [] [], .fn (.func 75) [] [], .fn (.func 76) [] [], .fn (.func 77) [] [], .fn (.func 78) [] [], .fn (.func 79) [] []])
  | _ => .fail
def okOp (op : Int) (a b : Abs) : Bool := validF a && (validF b && (decide (op ≠ 6) || okMul a b))
def spSOp : Sp
  | [.int .i64 op, .agg [.int .i64 a0, .int .i64 a1, .int .i64 a2, .int .i64 a3, .int .i64 a4], .agg [.int .i64 b0, .int .i64 b1, .int .i64 b2, .int .i64 b3, .int .i64 b4]] => .br (okOp op ⟨a0, a1, a2, a3, a4⟩ ⟨b0, b1, b2, b3, b4⟩) (.ret (encA (opA op ⟨a0, a1, a2, a3, a4⟩ ⟨b0, b1, b2, b3, b4⟩))) .fail
  | _ => .fail
def setF (lo hi m : Int) : Abs := if lo = hi then ⟨lo, lo, 1, 0, 0⟩ else ⟨lo, hi, m, lo % m, 0⟩
def spSet : Sp
  | [.int .i64 lo, .int .i64 hi, .int .i64 m] => .br (okMod m) (.ret (encA (setF lo hi m))) .fail
  | _ => .fail
def spOne : Sp
  | [.int .i64 v] => .ret (encA (setF v v 1))
  | _ => .fail
def spTrue : Sp
  | [] => .ret (.bool true)
  | _ => .fail
/- In stages: what each needs stands ahead of it. -/
abbrev LT := List (FuncId × Sp)
def L1 : LT := [(15, spOp), (80, spMod), (41, spMod), (49, spAbs), (100, spVal), (43, spStep), (19, spWrap), (44, spOpers)]
def L2 : LT := (48, spGcd) :: (45, spBy) :: (52, spBy) :: (42, spWithin) :: L1
def L3 : LT := (58, spLike) :: (22, spOf) :: (31, spAll) :: (12, spHas) :: (14, spValid) :: (16, spJoin) :: (40, spMade) :: (11, spAt) :: (101, spApart) :: L2
def L4 : LT := (99, spBnd) :: (17, spLeq) :: (10, spMade) :: L3
def L5 : LT := (73, spAdd) :: (74, spSub) :: (75, spMul) :: (76, spDiv) :: (77, spRem) :: (78, spLesser) :: (79, spGreater) :: L4
def L6 : LT := (13, spSOp) :: L5
def L7 : LT := (39, spSet) :: L6
def L8 : LT := (38, spOne) :: L7
def L9 : LT := (9, spTrue) :: L8
end Go.Proofs.Ytamfgbenceoleaa.Span
/-! Contracts of the small functions of package span. -/
namespace Go.Proofs.Ytamfgbenceoleaa.Span
set_option linter.unusedVariables false
set_option linter.unusedSimpArgs false
set_option linter.unusedSectionVars false
set_option linter.unnecessarySimpa false
open Go.Proofs.Ytamfgbenceoleaa.Ev Go.RowKit
set_option maxRecDepth 100000
theorem en (f : FuncId) (fn : Func) (hf : Try.prog.funcs[f]? = some fn) (hb : fn.body.isNone = false := by kernel_rfl) (hn : (fn.name == "runtime.NumGoroutine") = false := by kernel_rfl) : Enterable Try.prog f := enterable hf hb hn
theorem S0 : SpecOk Itp Try.prog (fromList []) := specOk_nil
theorem ok_numOp : FnOk Itp Try.prog 15 spOp := by
  intro args v hv w M vs hM hargs
  unfold spOp at hv
  split at hv
  · rename_i op a b
    cases hv
    match vs, hargs with
    | ⟨[x, y, z]⟩, hargs =>
      have h0 := (hargs.2 0 _ x rfl rfl).int_inv
      have h1 := (hargs.2 1 _ y rfl rfl).int_inv
      have h2 := (hargs.2 2 _ z rfl rfl).int_inv
      subst h0 h1 h2
      exact (NumOp.num_Op.calls op a b _ w rfl).mono fun e w' ⟨he, hb⟩ => ⟨_, he, hb, (by rw [show wrap32 (NumOp.opI op (wrap32 a) (wrap32 b)) = opG op a b from (by unfold opG opJ w32 wrap32 NumOp.opI; rfl)]; exact .int _ _)⟩
    | ⟨[]⟩, hargs => simp [RepL] at hargs
    | ⟨[_]⟩, hargs => simp [RepL] at hargs
    | ⟨[_, _]⟩, hargs => simp [RepL] at hargs
    | ⟨_ :: _ :: _ :: _ :: _⟩, hargs => simp [RepL] at hargs
  · exact hv.elim
theorem mod_go (a m : Int) (h : 0 < m) : (a.tmod m + m).tmod m = a % m := by
  rcases Int.le_total 0 a with h0 | h0
  · rw [Int.tmod_eq_emod_of_nonneg h0]
    have h1 := Int.emod_nonneg a (show m ≠ 0 by omega)
    rw [Int.tmod_eq_emod_of_nonneg (by omega), Int.add_emod_right, Int.emod_emod]
  · have h1 : -m < a.tmod m := by have := Int.tmod_lt_of_pos (-a) h; rw [Int.neg_tmod] at this; omega
    rw [Int.tmod_eq_emod_of_nonneg (by omega), Int.add_emod_right]
    have h2 : a.tmod m = a - m * a.tdiv m := by have := Int.mul_tdiv_add_tmod a m; omega
    rw [h2, Int.sub_emod, Int.mul_emod_right, Int.sub_zero, Int.emod_emod]
theorem tmod_lt (a m : Int) (h : 0 < m) : -m < a.tmod m ∧ a.tmod m < m := ⟨by have := Int.tmod_lt_of_pos (-a) h; rw [Int.neg_tmod] at this; omega, Int.tmod_lt_of_pos a h⟩
theorem mod_ev (a m : Int) : evFn Itp Try.prog (fromList []) (fun _ => []) noLoops Try.f80 [iA a, iA m] some =
    bif !decide (m = 0) then bif !decide (m = 0) then some (AV.int IntKind.i64 ((IntKind.i64.wrap (a.tmod m + m)).tmod m)) else none else none := by
  kernel_rfl
theorem rmod_ev (a m : Int) : evFn Itp Try.prog (fromList []) (fun _ => []) noLoops Try.f41 [iA a, iA m] some =
    bif !decide (m = 0) then bif !decide (m = 0) then some (AV.int IntKind.i64 ((IntKind.i64.wrap (a.tmod m + m)).tmod m)) else none else none := by
  kernel_rfl
theorem ok_mod : FnOk Itp Try.prog 80 spMod := fnOk S0 hm Try.func80 spMod fun args v hv => by
  unfold spMod at hv
  split at hv
  · rename_i a m
    obtain ⟨h, hv⟩ := has_br hv
    cases hv
    simp only [okMod, Bool.and_eq_true, decide_eq_true_eq, okW_iff] at h
    have ht := tmod_lt a m h.1
    rw [show evFn Itp Try.prog (fromList []) (fun _ => []) noLoops Try.f80 [AV.int .i64 a, AV.int .i64 m] some = _ from mod_ev a m, wrap_of (by omega) (by omega), mod_go a m h.1]
    simp [show ¬ m = 0 by omega]
  · exact hv.elim
theorem ok_rmod : FnOk Itp Try.prog 41 spMod := fnOk S0 hm Try.func41 spMod fun args v hv => by
  unfold spMod at hv
  split at hv
  · rename_i a m
    obtain ⟨h, hv⟩ := has_br hv
    cases hv
    simp only [okMod, Bool.and_eq_true, decide_eq_true_eq, okW_iff] at h
    have ht := tmod_lt a m h.1
    rw [show evFn Itp Try.prog (fromList []) (fun _ => []) noLoops Try.f41 [AV.int .i64 a, AV.int .i64 m] some = _ from rmod_ev a m, wrap_of (by omega) (by omega), mod_go a m h.1]
    simp [show ¬ m = 0 by omega]
  · exact hv.elim
theorem abs_ev (a : Int) : evFn Itp Try.prog (fromList []) (fun _ => []) noLoops Try.f49 [iA a] some =
    some (AV.int IntKind.i64 (mxI a (IntKind.i64.wrap (0 - a)))) := by
  kernel_rfl
theorem ok_abs : FnOk Itp Try.prog 49 spAbs := fnOk S0 hm Try.func49 spAbs fun args v hv => by
  unfold spAbs at hv
  split at hv
  · rename_i a
    obtain ⟨h, hv⟩ := has_br hv
    cases hv
    rw [okV_iff] at h
    refine (abs_ev a).trans ?_
    rw [wrap_of (by omega) (by omega), mxI_eq]
    simp only [iA, absI]
    congr 2; omega
  · exact hv.elim
theorem val_ev (a : Int) : evFn Itp Try.prog (fromList []) (fun _ => []) noLoops Try.f100 [iA a] some =
    bif decide (a ≥ -2147483648) then some (AV.bool (decide (a ≤ 2147483647))) else some (AV.bool false) := by
  kernel_rfl
theorem ok_val : FnOk Itp Try.prog 100 spVal := fnOk S0 hm Try.func100 spVal fun args v hv => by
  unfold spVal at hv
  split at hv
  · rename_i a
    cases hv
    refine (val_ev a).trans ?_
    simp only [valB]
    by_cases h : -2147483648 ≤ a
    · simp [h]
    · simp [h]
  · exact hv.elim
theorem step_ev (a0 a1 a2 a3 a4 : Int) : evFn Itp Try.prog (fromList []) (fun _ => []) noLoops Try.f43 [.agg [.int .i64 a0, .int .i64 a1, .int .i64 a2, .int .i64 a3, .int .i64 a4]] some =
    bif a0 == a1 then some (AV.int IntKind.i64 0) else some (AV.int IntKind.i64 a2) := by
  kernel_rfl
theorem ok_step : FnOk Itp Try.prog 43 spStep := fnOk S0 hm Try.func43 spStep fun args v hv => by
  unfold spStep at hv
  split at hv
  · rename_i a0 a1 a2 a3 a4
    cases hv
    refine (step_ev a0 a1 a2 a3 a4).trans ?_
    simp only [stepF]
    by_cases h : a0 = a1
    · simp [h]
    · simp [h, beq_eq_false_iff_ne.mpr h]
  · exact hv.elim
theorem wrap_ev (a : Int) : evFn Itp Try.prog (fromList []) (fun _ => []) noLoops Try.f19 [iA a] some =
    bif decide (a.tmod 4294967296 < -2147483648) then some (AV.int IntKind.i64 (IntKind.i64.wrap (a.tmod 4294967296 + 4294967296))) else bif decide (a.tmod 4294967296 > 2147483647) then some (AV.int IntKind.i64 (IntKind.i64.wrap (a.tmod 4294967296 - 4294967296))) else some (AV.int IntKind.i64 (a.tmod 4294967296)) := by
  kernel_rfl
theorem ok_wrap : FnOk Itp Try.prog 19 spWrap := fnOk S0 hm Try.func19 spWrap fun args v hv => by
  unfold spWrap at hv
  split at hv
  · rename_i a
    cases hv
    refine (wrap_ev a).trans ?_
    have h := tmod_lt a 4294967296 (by omega)
    have he : a.tmod 4294967296 % 4294967296 = a % 4294967296 := by
      have := Int.mul_tdiv_add_tmod a 4294967296
      omega
    unfold w32
    simp only [Bool.cond_decide, iA]
    split
    · rw [wrap_of (by omega) (by omega)]; congr 2; omega
    · split
      · rw [wrap_of (by omega) (by omega)]; congr 2; omega
      · congr 2; omega
  · exact hv.elim
theorem opers_ev  : evFn Itp Try.prog (fromList []) (fun _ => []) noLoops Try.f44 [] some =
    some (AV.agg [AV.fn (Fn.func 73) [] [], AV.fn (Fn.func 74) [] [], AV.fn (Fn.func 75) [] [], AV.fn (Fn.func 76) [] [], AV.fn (Fn.func 77) [] [], AV.fn (Fn.func 78) [] [], AV.fn (Fn.func 79) [] []]) := by
  kernel_rfl
theorem ok_opers : FnOk Itp Try.prog 44 spOpers := fnOk S0 hm Try.func44 spOpers fun args v hv => by
  unfold spOpers at hv
  split at hv
  · cases hv; exact opers_ev
  · exact hv.elim
theorem S1 : SpecOk Itp Try.prog (fromList L1) :=
  specOk_cons (en _ _ Try.func15) ok_numOp <| specOk_cons (en _ _ Try.func80) ok_mod <| specOk_cons (en _ _ Try.func41) ok_rmod <| specOk_cons (en _ _ Try.func49) ok_abs <|
  specOk_cons (en _ _ Try.func100) ok_val <| specOk_cons (en _ _ Try.func43) ok_step <| specOk_cons (en _ _ Try.func19) ok_wrap <| specOk_cons (en _ _ Try.func44) ok_opers specOk_nil
end Go.Proofs.Ytamfgbenceoleaa.Span
/-! Contracts: by, within, gcd. -/
namespace Go.Proofs.Ytamfgbenceoleaa.Span
set_option linter.unusedVariables false
set_option linter.unusedSimpArgs false
set_option linter.unusedSectionVars false
set_option linter.unnecessarySimpa false
open Go.Proofs.Ytamfgbenceoleaa.Ev Go.RowKit
set_option maxRecDepth 100000
theorem okBy_iff {lo hi m : Int} : okBy lo hi m = true ↔ (-1099511627776 ≤ lo ∧ lo ≤ 1099511627776) ∧ (-1099511627776 ≤ hi ∧ hi ≤ 1099511627776) ∧ (-9223372036854775807 ≤ m ∧ m ≤ 9223372036854775807) ∧ lo ≤ hi ∧ 0 ≤ m ∧ (m = 0 → lo = hi) := by
  simp only [okBy, Bool.and_eq_true, okN_iff, okV_iff, decide_eq_true_eq]
theorem okMod_iff {m : Int} : okMod m = true ↔ 0 < m ∧ (-4611686018427387904 ≤ m ∧ m ≤ 4611686018427387904) := by
  simp only [okMod, Bool.and_eq_true, okW_iff, decide_eq_true_eq]
/-- A step that is used is no greater than the range. -/
theorem okMod_by {lo hi m : Int} (hm : m > 0) (h : lo ≤ hi) (hl : -1099511627776 ≤ lo) (hh : hi ≤ 1099511627776) (hne : ¬ lo = hi - (hi - lo) % m) : okMod m = true := by
  refine okMod_iff.2 ⟨hm, by omega, ?_⟩
  by_cases hc : hi - lo < m
  · exfalso; apply hne
    rw [Int.emod_eq_of_lt (by omega) hc]; omega
  · omega
theorem beq_int {a b : Int} : (a == b) = decide (a = b) := by
  by_cases h : a = b
  · subst h; simp
  · simp [h]
theorem by_ev (lo hi m k : Int) : evFn Itp Try.prog (fromList L1) (fun _ => []) noLoops Try.f45 [iA lo, iA hi, iA m, iA k] some =
    bif decide (m > 0) then bif !decide (m = 0) then bif lo == IntKind.i64.wrap (hi - (IntKind.i64.wrap (hi - lo)).tmod m) then some (AV.agg [AV.int IntKind.i64 lo, AV.int IntKind.i64 lo, AV.int IntKind.i64 1, AV.int IntKind.i64 0, AV.int IntKind.i64 k]) else bif okMod m then some (AV.agg [AV.int IntKind.i64 lo, AV.int IntKind.i64 (IntKind.i64.wrap (hi - (IntKind.i64.wrap (hi - lo)).tmod m)), AV.int IntKind.i64 m, AV.int IntKind.i64 (lo % m), AV.int IntKind.i64 k]) else none else none else bif lo == hi then some (AV.agg [AV.int IntKind.i64 lo, AV.int IntKind.i64 lo, AV.int IntKind.i64 1, AV.int IntKind.i64 0, AV.int IntKind.i64 k]) else bif okMod m then some (AV.agg [AV.int IntKind.i64 lo, AV.int IntKind.i64 hi, AV.int IntKind.i64 m, AV.int IntKind.i64 (lo % m), AV.int IntKind.i64 k]) else none := by
  kernel_rfl
theorem ok_by : FnOk Itp Try.prog 45 spBy := fnOk S1 hm Try.func45 spBy fun args v hv => by
  unfold spBy at hv
  split at hv
  · rename_i lo hi m k
    obtain ⟨h, hv⟩ := has_br hv
    cases hv
    obtain ⟨h1, h2, h3, h4, h5, h6⟩ := okBy_iff.1 h
    refine (by_ev lo hi m k).trans ?_
    by_cases hm0 : m > 0
    · have hr := Int.emod_nonneg (hi - lo) (show m ≠ 0 by omega)
      have hl := Int.emod_lt_of_pos (hi - lo) hm0
      have hle : (hi - lo) % m ≤ hi - lo := emod_le (by omega) hm0
      have e1 : IntKind.i64.wrap (hi - lo) = hi - lo := wrap_of (by omega) (by omega)
      have e2 : (hi - lo).tmod m = (hi - lo) % m := Int.tmod_eq_emod_of_nonneg (by omega)
      have e3 : IntKind.i64.wrap (hi - (hi - lo) % m) = hi - (hi - lo) % m := wrap_of (by omega) (by omega)
      have e5 : topF lo hi m = hi - (hi - lo) % m := if_pos hm0
      simp only [e1, e2, e3, beq_int, hm0, decide_true, cond_true, show ¬ m = 0 by omega, decide_false, Bool.not_false, Bool.cond_decide, byF, e5]
      split
      · rfl
      · rename_i hne
        rw [okMod_by hm0 h4 h1.1 h2.2 hne]; rfl
    · have e0 : m = 0 := by omega
      have e1 := h6 e0
      subst e0 e1
      simp [byF, topF, encA]
  · exact hv.elim
theorem rby_ev (lo hi m k : Int) : evFn Itp Try.prog (fromList L1) (fun _ => []) noLoops Try.f52 [iA lo, iA hi, iA m, iA k] some =
    bif decide (m > 0) then bif !decide (m = 0) then bif lo == IntKind.i64.wrap (lo + IntKind.i64.wrap (IntKind.i64.wrap ((IntKind.i64.wrap (hi - lo)).tdiv m) * m)) then some (AV.agg [AV.int IntKind.i64 lo, AV.int IntKind.i64 lo, AV.int IntKind.i64 1, AV.int IntKind.i64 0, AV.int IntKind.i64 k]) else bif okMod m then some (AV.agg [AV.int IntKind.i64 lo, AV.int IntKind.i64 (IntKind.i64.wrap (lo + IntKind.i64.wrap (IntKind.i64.wrap ((IntKind.i64.wrap (hi - lo)).tdiv m) * m))), AV.int IntKind.i64 m, AV.int IntKind.i64 (lo % m), AV.int IntKind.i64 k]) else none else none else bif lo == hi then some (AV.agg [AV.int IntKind.i64 lo, AV.int IntKind.i64 lo, AV.int IntKind.i64 1, AV.int IntKind.i64 0, AV.int IntKind.i64 k]) else bif okMod m then some (AV.agg [AV.int IntKind.i64 lo, AV.int IntKind.i64 hi, AV.int IntKind.i64 m, AV.int IntKind.i64 (lo % m), AV.int IntKind.i64 k]) else none := by
  kernel_rfl
theorem ok_rby : FnOk Itp Try.prog 52 spBy := fnOk S1 hm Try.func52 spBy fun args v hv => by
  unfold spBy at hv
  split at hv
  · rename_i lo hi m k
    obtain ⟨h, hv⟩ := has_br hv
    cases hv
    obtain ⟨h1, h2, h3, h4, h5, h6⟩ := okBy_iff.1 h
    refine (rby_ev lo hi m k).trans ?_
    by_cases hm0 : m > 0
    · have hr := Int.emod_nonneg (hi - lo) (show m ≠ 0 by omega)
      have hl := Int.emod_lt_of_pos (hi - lo) hm0
      have hle : (hi - lo) % m ≤ hi - lo := emod_le (by omega) hm0
      have e1 : IntKind.i64.wrap (hi - lo) = hi - lo := wrap_of (by omega) (by omega)
      have e2 : (hi - lo).tdiv m = (hi - lo) / m := Int.tdiv_eq_ediv_of_nonneg (by omega)
      have hd0 : 0 ≤ (hi - lo) / m := Int.ediv_nonneg (by omega) (by omega)
      have hd1 : (hi - lo) / m ≤ hi - lo := Int.ediv_le_self _ (by omega)
      have hmul : (hi - lo) / m * m = (hi - lo) - (hi - lo) % m := by have := Int.ediv_mul_add_emod (hi - lo) m; omega
      have e3 : IntKind.i64.wrap ((hi - lo) / m) = (hi - lo) / m := wrap_of (by omega) (by omega)
      have e4 : IntKind.i64.wrap ((hi - lo) - (hi - lo) % m) = (hi - lo) - (hi - lo) % m := wrap_of (by omega) (by omega)
      have e4' : IntKind.i64.wrap (lo + ((hi - lo) - (hi - lo) % m)) = hi - (hi - lo) % m := by rw [wrap_of (by omega) (by omega)]; omega
      have e6 : topF lo hi m = hi - (hi - lo) % m := if_pos hm0
      simp only [e1, e2, e3, hmul, e4, e4', beq_int, hm0, decide_true, cond_true, show ¬ m = 0 by omega, decide_false, Bool.not_false, Bool.cond_decide, byF, e6]
      split
      · rfl
      · rename_i hne
        rw [okMod_by hm0 h4 h1.1 h2.2 hne]; rfl
    · have e0 : m = 0 := by omega
      have e1 := h6 e0
      subst e0 e1
      simp [byF, topF, encA]
  · exact hv.elim
theorem validF_iff {a : Abs} : validF a = true ↔ VA a := by simp [validF]
theorem within_ev (a0 a1 a2 a3 a4 v : Int) : evFn Itp Try.prog (fromList L1) (fun _ => []) noLoops Try.f42 [.agg [.int .i64 a0, .int .i64 a1, .int .i64 a2, .int .i64 a3, .int .i64 a4], iA v] some =
    bif decide (v ≥ a0) then bif decide (v ≤ a1) then bif !decide (a2 = 0) then some (AV.bool ((IntKind.i64.wrap (v - a0)).tmod a2 == 0)) else none else some (AV.bool false) else some (AV.bool false) := by
  kernel_rfl
theorem ok_within : FnOk Itp Try.prog 42 spWithin := fnOk S1 hm Try.func42 spWithin fun args v hv => by
  unfold spWithin at hv
  split at hv
  · rename_i a0 a1 a2 a3 a4 x
    obtain ⟨h, hv⟩ := has_br hv
    cases hv
    simp only [Bool.and_eq_true, validF_iff, okN_iff] at h
    obtain ⟨⟨h1, h2, h3, h4, h5, h6, h7, h8⟩, h9⟩ := h
    simp only at h1 h2 h3 h4 h5 h6
    refine (within_ev a0 a1 a2 a3 a4 x).trans ?_
    simp only [withinF]
    by_cases c1 : a0 ≤ x
    · by_cases c2 : x ≤ a1
      · have e1 : IntKind.i64.wrap (x - a0) = x - a0 := wrap_of (by omega) (by omega)
        have e2 : (x - a0).tmod a2 = (x - a0) % a2 := Int.tmod_eq_emod_of_nonneg (by omega)
        simp only [e1, e2, beq_int]
        simp [c1, c2, show ¬ a2 = 0 by omega]
      · simp [c1, c2]
    · simp [c1]
  · exact hv.elim
end Go.Proofs.Ytamfgbenceoleaa.Span
/-! The contract of gcd: two loops. -/
namespace Go.Proofs.Ytamfgbenceoleaa.Span
set_option linter.unusedVariables false
set_option linter.unusedSimpArgs false
set_option linter.unusedSectionVars false
set_option linter.unnecessarySimpa false
open Go.Proofs.Ytamfgbenceoleaa.Ev Go.RowKit
set_option maxRecDepth 100000
/-- Euclid, as the loop runs. -/
def euN : Nat → Int → Int → Int
  | 0, a, _ => a
  | n + 1, a, b => if b = 0 then a else euN n b (a.tmod b)
def euF (a b : Int) : Int := euN (b.natAbs + 1) a b
theorem euN_more : ∀ (n m : Nat) (a b : Int), b.natAbs < n → b.natAbs < m → euN n a b = euN m a b
  | 0, _, _, _, h, _ => absurd h (Nat.not_lt_zero _)
  | _, 0, _, _, _, h => absurd h (Nat.not_lt_zero _)
  | n + 1, m + 1, a, b, h1, h2 => by
    simp only [euN]
    split
    · rfl
    · rename_i hb
      have : (a.tmod b).natAbs < b.natAbs := by rw [Int.natAbs_tmod]; exact Nat.mod_lt _ (by omega)
      exact euN_more n m b _ (by omega) (by omega)
theorem euF_zero (a : Int) : euF a 0 = a := rfl
theorem euF_step (a b : Int) (h : b ≠ 0) : euF a b = euF b (a.tmod b) := by
  have hlt : (a.tmod b).natAbs < b.natAbs := by rw [Int.natAbs_tmod]; exact Nat.mod_lt _ (by omega)
  unfold euF
  rw [show b.natAbs + 1 = (b.natAbs) + 1 from rfl, euN, if_neg h]
  exact euN_more _ _ _ _ hlt (by omega)
theorem euF_abs : ∀ (n : Nat) (a b : Int), b.natAbs < n → (euF a b).natAbs = Nat.gcd a.natAbs b.natAbs
  | 0, _, _, h => absurd h (Nat.not_lt_zero _)
  | n + 1, a, b, h => by
    by_cases hb : b = 0
    · subst hb; rw [euF_zero]; simp
    · have hlt : (a.tmod b).natAbs < b.natAbs := by rw [Int.natAbs_tmod]; exact Nat.mod_lt _ (by omega)
      rw [euF_step a b hb, euF_abs n b _ (by omega), Int.natAbs_tmod, Nat.gcd_comm, ← Nat.gcd_rec, Nat.gcd_comm]
theorem euF_ok (a b : Int) (ha : okV a = true) (hb : okV b = true) : okV (euF a b) = true := by
  rw [okV_iff] at *
  have h := euF_abs (b.natAbs + 1) a b (by omega)
  by_cases h0 : a = 0
  · subst h0; simp at h; omega
  · have := Nat.gcd_le_left b.natAbs (show 0 < a.natAbs by omega)
    omega
def foldE (a : Int) (l : List Int) : Int := l.foldl euF a
theorem foldE_abs : ∀ (l : List Int) (a : Int), (foldE a l).natAbs = l.foldl (fun (g : Nat) (b : Int) => Nat.gcd g b.natAbs) a.natAbs
  | [], a => rfl
  | b :: l, a => by
    show (foldE (euF a b) l).natAbs = _
    rw [foldE_abs l, euF_abs (b.natAbs + 1) a b (by omega)]; rfl
theorem foldE_ok : ∀ (l : List Int) (a : Int), okV a = true → l.all okV = true → okV (foldE a l) = true
  | [], a, h, _ => h
  | b :: l, a, h, hl => by
    simp only [List.all_cons, Bool.and_eq_true] at hl
    exact foldE_ok l _ (euF_ok a b h hl.1) hl.2
def gk : Nat → List Nat
  | 2 => [0, 7, 8, 9]
  | 4 => [0, 6, 7, 8, 9]
  | 1002 => [0]
  | 1004 => [0, 7, 8, 9]
  | _ => []
def gl4 : List V → Hp Tok → Tr (Lf Tok)
  | [.int .i64 a, .int .i64 b, .slc f t, .int .i64 n, .int .i64 i], [] => .br (okV a && okV b) (.ret (.exit 2, [iA (euF a b), .slc f t, iA n, iA i], [])) .fail
  | _, _ => .fail
def gl2 : List V → Hp Tok → Tr (Lf Tok)
  | [.int .i64 a, .slc f (.ints l), .int .i64 n, .int .i64 i], [] => .br (okV a && (okL l && (decide (n = l.length) && decide (0 ≤ i)))) (.ret (.exit 0, [iA (foldE a (l.drop i.toNat))], [])) .fail
  | _, _ => .fail
def glsp : Nat → List V → Hp Tok → Tr (Lf Tok)
  | 4 => gl4
  | 2 => gl2
  | _ => noLoops 0
end Go.Proofs.Ytamfgbenceoleaa.Span
/-! The contract of gcd: two loops. -/
namespace Go.Proofs.Ytamfgbenceoleaa.Span
set_option linter.unusedVariables false
set_option linter.unusedSimpArgs false
set_option linter.unusedSectionVars false
set_option linter.unnecessarySimpa false
open Go.Proofs.Ytamfgbenceoleaa.Ev Go.RowKit
set_option maxRecDepth 100000
theorem gcd4 (a b n i : Int) (f : Bool) (t : Tok) (F : List V → Hp Tok → Option (Lf Tok)) : evTurn Itp Try.prog (fromList L1) gk glsp Try.f48 4 0 F [iA a, iA b, .slc f t, iA n, iA i] [] =
    bif b != 0 then bif !decide (b = 0) then F [AV.int IntKind.i64 b, AV.int IntKind.i64 (a.tmod b), AV.slc f t, AV.int IntKind.i64 n, AV.int IntKind.i64 i] [] else none else some (X.exit 2, [AV.int IntKind.i64 a, AV.slc f t, AV.int IntKind.i64 n, AV.int IntKind.i64 i], []) := by
  kernel_rfl
theorem gcd2 (a n i : Int) (f : Bool) (l : List Int) (F : List V → Hp Tok → Option (Lf Tok)) : evTurn Itp Try.prog (fromList L1) gk glsp Try.f48 2 0 F [iA a, .slc f (.ints l), iA n, iA i] [] =
    bif decide (i < n) then bif decide (0 ≤ i) && decide (i < (↑(Itp.len (Tok.ints l)) : Int)) then bif okV a && okV (l.getD i.toNat 0) then F [AV.int IntKind.i64 (euF a (l.getD i.toNat 0)), AV.slc f (Tok.ints l), AV.int IntKind.i64 n, AV.int IntKind.i64 (IntKind.i64.wrap (i + 1))] [] else none else none else some (X.exit 0, [AV.int IntKind.i64 a], []) := by
  kernel_rfl
theorem gcd_ev (a : Int) (l : List Int) : evFn Itp Try.prog (fromList L1) gk glsp Try.f48 [iA a, .slc true (.ints l)] some =
    bif okV a && (okL l && (decide ((↑(Itp.len (Tok.ints l)) : Int) = (↑l.length : Int)) && true)) then bif okV (foldE a (List.drop 0 l)) then some (AV.int IntKind.i64 (absI (foldE a (List.drop 0 l)))) else none else none := by
  kernel_rfl
theorem gl4_ok (env : List V) (hp : Hp Tok) (l : Lf Tok) (hh : (gl4 env hp).Has l) : ∃ n, evBody Itp Try.prog (fromList L1) gk glsp Try.f48 4 hp.length n env hp = some l := by
  unfold gl4 at hh
  split at hh
  · rename_i a b f t n i
    obtain ⟨h, hv⟩ := has_br hh
    cases hv
    simp only [Bool.and_eq_true] at h
    have key : ∀ (k : Nat) (a b : Int), b.natAbs < k → ∃ m, evBody Itp Try.prog (fromList L1) gk glsp Try.f48 4 0 m [iA a, iA b, .slc f t, iA n, iA i] [] = some (.exit 2, [iA (euF a b), .slc f t, iA n, iA i], []) := by
      intro k
      induction k with
      | zero => intro a b hb; exact absurd hb (Nat.not_lt_zero _)
      | succ k ih =>
        intro a b hb
        by_cases h0 : b = 0
        · subst h0
          exact ⟨1, by rw [evBody_succ, gcd4]; rfl⟩
        · have hlt : (a.tmod b).natAbs < b.natAbs := by rw [Int.natAbs_tmod]; exact Nat.mod_lt _ (by omega)
          obtain ⟨m, hm⟩ := ih b (a.tmod b) (by omega)
          refine ⟨m + 1, ?_⟩
          rw [evBody_succ, gcd4, euF_step a b h0, ← hm]
          rw [show (b != 0) = true by simpa using h0, show decide (b = 0) = false by simpa using h0]
          rfl
    exact key (b.natAbs + 1) a b (by omega)
  · exact hh.elim
theorem gl2_ok (env : List V) (hp : Hp Tok) (l : Lf Tok) (hh : (gl2 env hp).Has l) : ∃ n, evBody Itp Try.prog (fromList L1) gk glsp Try.f48 2 hp.length n env hp = some l := by
  unfold gl2 at hh
  split at hh
  · rename_i a f l n i
    obtain ⟨h, hv⟩ := has_br hh
    have hv := has_ret hv
    subst hv
    have h' := h
    simp only [Bool.and_eq_true, decide_eq_true_eq, okL] at h'
    obtain ⟨ha, ⟨hl, hlen⟩, hn, hi⟩ := h'
    clear h
    subst hn
    have key : ∀ (k : Nat) (a : Int) (i : Int), okV a = true → 0 ≤ i → l.length - i.toNat < k → ∃ m, evBody Itp Try.prog (fromList L1) gk glsp Try.f48 2 0 m [iA a, .slc f (.ints l), iA l.length, iA i] [] = some (.exit 0, [iA (foldE a (l.drop i.toNat))], []) := by
      intro k
      induction k with
      | zero => intro a i _ _ hb; exact absurd hb (Nat.not_lt_zero _)
      | succ k ih =>
        intro a i ha hi hb
        by_cases h0 : i < l.length
        · have hin : i.toNat < l.length := by omega
          have hget : l.getD i.toNat 0 = l[i.toNat] := by simp [List.getD_eq_getElem?_getD, List.getElem?_eq_getElem hin]
          have hok : okV l[i.toNat] = true := List.all_eq_true.1 hl _ (List.getElem_mem hin)
          have hw : IntKind.i64.wrap (i + 1) = i + 1 := wrap_of (by omega) (by omega)
          obtain ⟨m, hm⟩ := ih (euF a l[i.toNat]) (i + 1) (euF_ok a _ ha hok) (by omega) (by omega)
          refine ⟨m + 1, ?_⟩
          rw [evBody_succ, gcd2, hw, hget]
          have hd : l.drop i.toNat = l[i.toNat] :: l.drop (i + 1).toNat := by
            rw [List.drop_eq_getElem_cons hin, show (i + 1).toNat = i.toNat + 1 by omega]
          rw [hd, show foldE a (l[i.toNat] :: l.drop (i + 1).toNat) = foldE (euF a l[i.toNat]) (l.drop (i + 1).toNat) from rfl, ← hm]
          simp only [show Itp.len (Tok.ints l) = l.length from rfl, h0, hi, ha, hok, decide_true, Bool.and_self, cond_true]
        · have hd : l.drop i.toNat = [] := List.drop_eq_nil_of_le (by omega)
          refine ⟨1, ?_⟩
          rw [evBody_succ, gcd2, hd]
          simp [h0, foldE]
    exact key (l.length - i.toNat + 1) a i ha hi (by omega)
  · exact hh.elim
theorem glsp_ok (id : Nat) (env : List V) (hp : Hp Tok) (l : Lf Tok) (h : (glsp id env hp).Has l) : ∃ n, evBody Itp Try.prog (fromList L1) gk glsp Try.f48 id hp.length n env hp = some l := by
  unfold glsp at h
  split at h
  · exact gl4_ok env hp l h
  · exact gl2_ok env hp l h
  · exact h.elim
/-- A literal of numbers reads as the list of them. -/
theorem rep_ints {w : World} {M : Nat → Prop} {e : Nat → Option Nat} : ∀ {xs : List (List V)} {l : List Int} {v : Value}, decInts xs = some l → Rep Itp w M e (.sli 1 xs) v → Rep Itp w M e (.slc true (.ints l)) v := by
  have hdec : ∀ (xs : List (List V)) (l : List Int), decInts xs = some l → xs = l.map fun b => [iA b] := by
    intro xs
    induction xs with
    | nil => intro l h; simp [decInts] at h; subst h; rfl
    | cons x r ih =>
      intro l h
      unfold decInts at h
      split at h
      · rename_i heq; cases heq
      · rename_i b r' heq
        cases heq
        obtain ⟨l', hl', rfl⟩ := map_some_inv h
        rw [ih l' hl']; rfl
      · cases h
  intro xs l v h hr
  have hx := hdec xs l h
  subst hx
  generalize hq : (AV.sli 1 (l.map fun b => [iA b]) : V) = q at hr
  cases hr with
  | sliN sz =>
    have hnil : l = [] := by have := (AV.sli.inj hq).2; simpa using this
    subst hnil; exact .slcN _ _ rfl
  | sli sz ys b o vs h1 h2 =>
    obtain ⟨hs, hy⟩ := AV.sli.inj hq
    subst hs
    subst hy
    have hlen : (l.map fun b => [iA b]).length = l.length := by simp
    rw [hlen]
    refine .slc true (Tok.ints l) b o l.length vs (Nat.le_refl _) (fun _ => rfl) (fun i j x hi hx => ?_) (fun i j x hi hx => ?_)
    · have hi' : i < l.length := hi
      refine h1 i j [iA l[i]] x (by simp [List.getElem?_map, List.getElem?_eq_getElem hi']) ?_
      simpa [Itp, List.getD_eq_getElem?_getD, List.getElem?_eq_getElem hi'] using hx
    · have hi' : i < l.length := hi
      refine h2 i j [iA l[i]] x (by simp [List.getElem?_map, List.getElem?_eq_getElem hi']) ?_
      simpa [Itp, List.getD_eq_getElem?_getD, List.getElem?_eq_getElem hi'] using hx
  | _ => cases hq
theorem ok_gcd : FnOk Itp Try.prog 48 spGcd := by
  intro args v hv
  unfold spGcd at hv
  split at hv
  · rename_i a xs
    split at hv
    · rename_i l hl
      obtain ⟨h, hv⟩ := has_br hv
      cases hv
      simp only [Bool.and_eq_true] at h
      have key : CallOk Itp Try.prog 48 [iA a, .slc true (.ints l)] (iA (gcdL a l)) := by
        refine fn_sound S1 hm Try.func48 (fun c hc => loopOk_of hc (by rw [show c = (Try.f48.body).getD .skip by rw [hc]; rfl]; kernel_rfl) glsp_ok) ((gcd_ev a l).trans ?_)
        have h1 := foldE_ok l a h.1 (by have := h.2; simp only [okL, Bool.and_eq_true] at this; exact this.1)
        have h2 := foldE_abs l a
        simp only [List.drop_zero, h.1, h.2, h1, show Itp.len (Tok.ints l) = l.length from rfl, decide_true, Bool.and_self, cond_true]
        simp only [iA, absI, gcdL, h2]
      intro w M vs hM hargs
      refine key w M vs hM ⟨hargs.1, fun j x u hx hu => ?_⟩
      match j, hx with
      | 0, hx => exact hargs.2 0 x u hx hu
      | 1, hx =>
        obtain rfl := Option.some.inj hx
        exact rep_ints hl (hargs.2 1 _ u rfl hu)
    · exact hv.elim
  · exact hv.elim
theorem S2 : SpecOk Itp Try.prog (fromList L2) :=
  specOk_cons (en _ _ Try.func48) ok_gcd <| specOk_cons (en _ _ Try.func45) ok_by <| specOk_cons (en _ _ Try.func52) ok_rby <| specOk_cons (en _ _ Try.func42) ok_within S1
end Go.Proofs.Ytamfgbenceoleaa.Span
/-! Contracts of the second stage. -/
namespace Go.Proofs.Ytamfgbenceoleaa.Span
set_option linter.unusedVariables false
set_option linter.unusedSimpArgs false
set_option linter.unusedSectionVars false
set_option linter.unnecessarySimpa false
open Go.Proofs.Ytamfgbenceoleaa.Ev Go.RowKit
set_option maxRecDepth 100000
theorem valid_ev (a0 a1 a2 a3 a4 : Int) : evFn Itp Try.prog (fromList L2) (fun _ => []) noLoops Try.f14 [.agg [.int .i64 a0, .int .i64 a1, .int .i64 a2, .int .i64 a3, .int .i64 a4]] some =
    bif decide (a0 < -2147483648) then some (AV.bool false) else bif decide (a0 > a1) then some (AV.bool false) else bif decide (a1 > 2147483647) then some (AV.bool false) else bif decide (a4 < 0) then some (AV.bool false) else bif decide (a4 > 255) then some (AV.bool false) else bif decide (a2 < 1) then some (AV.bool false) else bif a0 == a1 then bif a2 == 1 then some (AV.bool (a3 == 0)) else some (AV.bool false) else bif decide (a2 ≤ IntKind.i64.wrap (a1 - a0)) then bif okBy a0 a1 a2 then some (AV.bool (a0 == (byF a0 a1 a2 a4).lo && (a1 == (byF a0 a1 a2 a4).hi && (a2 == (byF a0 a1 a2 a4).m && (a3 == (byF a0 a1 a2 a4).r && (a4 == (byF a0 a1 a2 a4).mask && true)))))) else none else some (AV.bool false) := by
  kernel_rfl
theorem like_ev (r m lo hi k : Int) : evFn Itp Try.prog (fromList L2) (fun _ => []) noLoops Try.f58 [iA r, iA m, iA lo, iA hi, iA k] some =
    bif okMod m then bif okBy (IntKind.i64.wrap (lo + IntKind.i64.wrap (r - lo) % m)) hi m then some (encA (byF (IntKind.i64.wrap (lo + IntKind.i64.wrap (r - lo) % m)) hi m k)) else none else none := by
  kernel_rfl
theorem has_ev (a0 a1 a2 a3 a4 v k : Int) : evFn Itp Try.prog (fromList L2) (fun _ => []) noLoops Try.f12 [.agg [.int .i64 a0, .int .i64 a1, .int .i64 a2, .int .i64 a3, .int .i64 a4], .agg [iA v, iA k]] some =
    bif validF { lo := a0, hi := a1, m := a2, r := a3, mask := a4 } && okN v then bif withinF { lo := a0, hi := a1, m := a2, r := a3, mask := a4 } v then some (AV.bool (bitI BinOp.andNot IntKind.i64 k a4 == 0)) else some (AV.bool false) else none := by
  kernel_rfl
theorem of_ev (v k : Int) : evFn Itp Try.prog (fromList L2) (fun _ => []) noLoops Try.f22 [.agg [iA v, iA k]] some =
    bif okBy v v 0 then some (encA (byF v v 0 k)) else none := by
  kernel_rfl
theorem all_ev (k : Int) : evFn Itp Try.prog (fromList L2) (fun _ => []) noLoops Try.f31 [iA k] some =
    some (encA (byF (-2147483648) 2147483647 1 k)) := by
  kernel_rfl
theorem join_ev (a0 a1 a2 a3 a4 b0 b1 b2 b3 b4 : Int) : evFn Itp Try.prog (fromList L2) (fun _ => []) noLoops Try.f16 [.agg [.int .i64 a0, .int .i64 a1, .int .i64 a2, .int .i64 a3, .int .i64 a4], .agg [.int .i64 b0, .int .i64 b1, .int .i64 b2, .int .i64 b3, .int .i64 b4]] some =
    bif okV (IntKind.i64.wrap (a0 - b0)) then bif okV (stepF { lo := a0, hi := a1, m := a2, r := a3, mask := a4 }) && okL [stepF { lo := b0, hi := b1, m := b2, r := b3, mask := b4 }, absI (IntKind.i64.wrap (a0 - b0))] then bif okBy (mnI a0 b0) (mxI a1 b1) (gcdL (stepF { lo := a0, hi := a1, m := a2, r := a3, mask := a4 }) [stepF { lo := b0, hi := b1, m := b2, r := b3, mask := b4 }, absI (IntKind.i64.wrap (a0 - b0))]) then some (encA (byF (mnI a0 b0) (mxI a1 b1) (gcdL (stepF { lo := a0, hi := a1, m := a2, r := a3, mask := a4 }) [stepF { lo := b0, hi := b1, m := b2, r := b3, mask := b4 }, absI (IntKind.i64.wrap (a0 - b0))]) (bitI BinOp.or IntKind.i64 a4 b4))) else none else none else none := by
  kernel_rfl
theorem made_ev (lo n m k : Int) : evFn Itp Try.prog (fromList L2) (fun _ => []) noLoops Try.f40 [.agg [iA lo, iA n, iA m, iA k]] some =
    bif !decide (IntKind.i64.wrap (1 + m % 1048576) = 0) then bif okMod (IntKind.i64.wrap (1 + m % 1048576)) then bif okBy (w32 lo) (mnI (IntKind.i64.wrap (w32 lo + IntKind.i64.wrap (IntKind.i64.wrap ((n % 2147483648).tdiv (IntKind.i64.wrap (1 + m % 1048576))) * IntKind.i64.wrap (1 + m % 1048576)))) (IntKind.i64.wrap (2147483647 - IntKind.i64.wrap (2147483647 - w32 lo) % IntKind.i64.wrap (1 + m % 1048576)))) (IntKind.i64.wrap (1 + m % 1048576)) then some (encA (byF (w32 lo) (mnI (IntKind.i64.wrap (w32 lo + IntKind.i64.wrap (IntKind.i64.wrap ((n % 2147483648).tdiv (IntKind.i64.wrap (1 + m % 1048576))) * IntKind.i64.wrap (1 + m % 1048576)))) (IntKind.i64.wrap (2147483647 - IntKind.i64.wrap (2147483647 - w32 lo) % IntKind.i64.wrap (1 + m % 1048576)))) (IntKind.i64.wrap (1 + m % 1048576)) (k % 256))) else none else none else none := by
  kernel_rfl
theorem at_ev (a0 a1 a2 a3 a4 n k : Int) : evFn Itp Try.prog (fromList L2) (fun _ => []) noLoops Try.f11 [.agg [.int .i64 a0, .int .i64 a1, .int .i64 a2, .int .i64 a3, .int .i64 a4], iA n, iA k] some =
    bif !decide (a2 = 0) then bif okMod (IntKind.i64.wrap (IntKind.i64.wrap ((IntKind.i64.wrap (a1 - a0)).tdiv a2) + 1)) then some (AV.agg [AV.int IntKind.i64 (IntKind.i64.wrap (a0 + IntKind.i64.wrap (n % IntKind.i64.wrap (IntKind.i64.wrap ((IntKind.i64.wrap (a1 - a0)).tdiv a2) + 1) * a2))), AV.int IntKind.i64 (bitI BinOp.and IntKind.i64 k a4)]) else none else none := by
  kernel_rfl
theorem apart_ev (a0 a1 a2 a3 a4 b0 b1 b2 b3 b4 k : Int) : evFn Itp Try.prog (fromList L2) (fun _ => []) noLoops Try.f101 [.agg [.int .i64 a0, .int .i64 a1, .int .i64 a2, .int .i64 a3, .int .i64 a4, .int .i64 b0, .int .i64 b1, .int .i64 b2, .int .i64 b3, .int .i64 b4, .int .i64 k]] some =
    bif okV (IntKind.i64.wrap (a0 - b0)) then bif okV (stepF { lo := a0, hi := a1, m := a2, r := a3, mask := a4 }) && okL [stepF { lo := b0, hi := b1, m := b2, r := b3, mask := b4 }, absI (IntKind.i64.wrap (a0 - b0))] then some (AV.int IntKind.i64 (gcdL (stepF { lo := a0, hi := a1, m := a2, r := a3, mask := a4 }) [stepF { lo := b0, hi := b1, m := b2, r := b3, mask := b4 }, absI (IntKind.i64.wrap (a0 - b0))])) else none else none := by
  kernel_rfl
theorem ok_valid : FnOk Itp Try.prog 14 spValid := fnOk S2 hm Try.func14 spValid fun args v hv => by
  unfold spValid at hv
  split at hv
  · rename_i a0 a1 a2 a3 a4
    have hv := has_ret hv
    subst hv
    refine (valid_ev a0 a1 a2 a3 a4).trans ?_
    have hfalse : ∀ {c : Prop} [Decidable c] {x : Option V}, (c → ¬ VA ⟨a0, a1, a2, a3, a4⟩) → (¬ c → x = some (.bool (validF ⟨a0, a1, a2, a3, a4⟩))) → (bif decide c then some (.bool false) else x) = some (.bool (validF ⟨a0, a1, a2, a3, a4⟩)) := by
      intro c _ x h1 h2
      by_cases hc : c
      · simp [hc, validF, h1 hc]
      · simp [hc, h2 hc]
    refine hfalse (fun h hV => by have := hV.1; simp only at this; omega) fun c1 => ?_
    refine hfalse (fun h hV => by have := hV.2.1; simp only at this; omega) fun c2 => ?_
    refine hfalse (fun h hV => by have := hV.2.2.1; simp only at this; omega) fun c3 => ?_
    refine hfalse (fun h hV => by have := hV.2.2.2.1; simp only at this; omega) fun c4 => ?_
    refine hfalse (fun h hV => by have := hV.2.2.2.2.1; simp only at this; omega) fun c5 => ?_
    refine hfalse (fun h hV => by have := hV.2.2.2.2.2.1; simp only at this; omega) fun c6 => ?_
    by_cases c7 : a0 = a1
    · subst c7
      simp only [beq_self_eq_true, cond_true, beq_int, Bool.cond_decide]
      by_cases c8 : a2 = 1
      · rw [if_pos c8]
        congr 2
        simp only [validF]
        rw [decide_eq_decide]
        simp only [VA, ne_eq, not_true, false_imp_iff, and_true, true_imp_iff]
        exact ⟨fun h => ⟨by omega, by omega, by omega, by omega, by omega, by omega, c8, h⟩, fun h => h.2.2.2.2.2.2.2⟩
      · rw [if_neg c8]
        congr 2
        symm
        simp only [validF, decide_eq_false_iff_not]
        exact fun hV => c8 (hV.2.2.2.2.2.2.1 rfl).1
    · have e0 : IntKind.i64.wrap (a1 - a0) = a1 - a0 := wrap_of (by omega) (by omega)
      rw [beq_int, e0]
      simp only [c7, decide_false, cond_false]
      by_cases c8 : a2 ≤ a1 - a0
      · have hok : okBy a0 a1 a2 = true := okBy_iff.2 ⟨by omega, by omega, by omega, by omega, by omega, by omega⟩
        simp only [c8, decide_true, cond_true, hok]
        congr 2
        rw [Bool.eq_iff_iff]
        simp only [Bool.and_eq_true, beq_iff_eq, and_true, validF, decide_eq_true_eq]
        have hr := Int.emod_nonneg (a1 - a0) (show a2 ≠ 0 by omega)
        have hl := emod_le (x := a1 - a0) (m := a2) (by omega) (by omega)
        have htop : topF a0 a1 a2 = a1 - (a1 - a0) % a2 := if_pos (by omega)
        constructor
        · intro ⟨_, h2, h3, h4, _⟩
          by_cases c9 : a0 = topF a0 a1 a2
          · have hb : byF a0 a1 a2 a4 = ⟨a0, a0, 1, 0, a4⟩ := if_pos c9
            rw [hb] at h2
            exact absurd h2.symm c7
          · have hb : byF a0 a1 a2 a4 = ⟨a0, topF a0 a1 a2, a2, a0 % a2, a4⟩ := if_neg c9
            rw [hb] at h2 h4
            simp only at h2 h4
            have hz : (a1 - a0) % a2 = 0 := by omega
            unfold VA
            simp only
            exact ⟨by omega, by omega, by omega, by omega, by omega, by omega, fun h => absurd h c7, fun _ => ⟨c8, hz, h4⟩⟩
        · intro hV
          obtain ⟨h1, h2, h3⟩ := hV.2.2.2.2.2.2.2 c7
          simp only at h2 h3
          have hne : ¬ a0 = topF a0 a1 a2 := by rw [htop]; omega
          have hb : byF a0 a1 a2 a4 = ⟨a0, topF a0 a1 a2, a2, a0 % a2, a4⟩ := if_neg hne
          rw [hb]
          simp only
          exact ⟨trivial, by omega, trivial, h3, trivial⟩
      · simp only [c8, decide_false, cond_false]
        congr 2
        symm
        simp only [validF, decide_eq_false_iff_not]
        exact fun hV => c8 (hV.2.2.2.2.2.2.2 c7).1
  · exact hv.elim
theorem okLike_iff {r m lo hi : Int} : okLike r m lo hi = true ↔ (-4611686018427387904 ≤ r ∧ r ≤ 4611686018427387904) ∧ (-1099511627776 ≤ lo ∧ lo ≤ 1099511627776) ∧ (-1099511627776 ≤ hi ∧ hi ≤ 1099511627776) ∧ 0 < m ∧ (-4611686018427387904 ≤ m ∧ m ≤ 4611686018427387904) ∧ lo + (r - lo) % m ≤ hi := by
  simp only [okLike, Bool.and_eq_true, okN_iff, okW_iff, decide_eq_true_eq]
theorem ok_like : FnOk Itp Try.prog 58 spLike := fnOk S2 hm Try.func58 spLike fun args v hv => by
  unfold spLike at hv
  split at hv
  · rename_i r m lo hi k
    obtain ⟨h, hv⟩ := has_br hv
    have hv := has_ret hv
    subst hv
    obtain ⟨h1, h2, h3, h4, h5, h6⟩ := okLike_iff.1 h
    refine (like_ev r m lo hi k).trans ?_
    have hr := Int.emod_nonneg (r - lo) (show m ≠ 0 by omega)
    have hl := Int.emod_lt_of_pos (r - lo) h4
    have e1 : IntKind.i64.wrap (r - lo) = r - lo := wrap_of (by omega) (by omega)
    have e2 : IntKind.i64.wrap (lo + (r - lo) % m) = lo + (r - lo) % m := wrap_of (by omega) (by omega)
    have e3 : okMod m = true := okMod_iff.2 ⟨h4, h5⟩
    have e4 : okBy (lo + (r - lo) % m) hi m = true := okBy_iff.2 ⟨by omega, by omega, by omega, by omega, by omega, by omega⟩
    rw [e1, e2, e3, e4]; rfl
  · exact hv.elim
theorem okM_iff {n : Int} : okM n = true ↔ 0 ≤ n ∧ n ≤ 255 := by simp [okM]
theorem ok_has : FnOk Itp Try.prog 12 spHas := fnOk S2 hm Try.func12 spHas fun args v hv => by
  unfold spHas at hv
  split at hv
  · rename_i a0 a1 a2 a3 a4 x k
    obtain ⟨h, hv⟩ := has_br hv
    have hv := has_ret hv
    subst hv
    simp only [Bool.and_eq_true, okM_iff] at h
    obtain ⟨h1, h2, h3⟩ := h
    have hV := validF_iff.1 h1
    refine (has_ev a0 a1 a2 a3 a4 x k).trans ?_
    rw [h1, h2, bitI_sub h3.1 h3.2 hV.2.2.2.1 hV.2.2.2.2.1]
    simp only [hasF, Bool.and_self, cond_true]
    cases withinF ⟨a0, a1, a2, a3, a4⟩ x <;> rfl
  · exact hv.elim
theorem ok_of : FnOk Itp Try.prog 22 spOf := fnOk S2 hm Try.func22 spOf fun args v hv => by
  unfold spOf at hv
  split at hv
  · rename_i x k
    obtain ⟨h, hv⟩ := has_br hv
    have hv := has_ret hv
    subst hv
    rw [okN_iff] at h
    refine (of_ev x k).trans ?_
    rw [show okBy x x 0 = true from okBy_iff.2 ⟨by omega, by omega, by omega, by omega, by omega, by omega⟩]
    simp [byF, topF, ofF]
  · exact hv.elim
theorem ok_all : FnOk Itp Try.prog 31 spAll := fnOk S2 hm Try.func31 spAll fun args v hv => by
  unfold spAll at hv
  split at hv
  · rename_i k
    have hv := has_ret hv
    subst hv
    exact (all_ev k).trans rfl
  · exact hv.elim
theorem okL_two {x y : Int} (hx : okV x = true) (hy : okV y = true) : okL [x, y] = true := by simp [okL, hx, hy]
theorem ok_join : FnOk Itp Try.prog 16 spJoin := fnOk S2 hm Try.func16 spJoin fun args v hv => by
  unfold spJoin at hv
  split at hv
  · rename_i a0 a1 a2 a3 a4 b0 b1 b2 b3 b4
    obtain ⟨h, hv⟩ := has_br hv
    have hv := has_ret hv
    subst hv
    simp only [Bool.and_eq_true, validF_iff] at h
    obtain ⟨hA, hB⟩ := h
    have sA := step_range hA
    have sB := step_range hB
    have hr := apart_range hA hB
    have hz := apart_zero hA hB
    obtain ⟨p1, p2, p3, p4, p5, -⟩ := hA
    obtain ⟨q1, q2, q3, q4, q5, -⟩ := hB
    simp only at p1 p2 p3 p4 p5 q1 q2 q3 q4 q5
    refine (join_ev a0 a1 a2 a3 a4 b0 b1 b2 b3 b4).trans ?_
    have e1 : IntKind.i64.wrap (a0 - b0) = a0 - b0 := wrap_of (by omega) (by omega)
    have e2 : okV (a0 - b0) = true := okV_iff.2 (by omega)
    have e3 : okV (stepF ⟨a0, a1, a2, a3, a4⟩) = true := okV_iff.2 (by omega)
    have e4 : okL [stepF ⟨b0, b1, b2, b3, b4⟩, absI (a0 - b0)] = true := okL_two (okV_iff.2 (by omega)) (okV_iff.2 (by unfold absI; omega))
    have e5 : gcdL (stepF ⟨a0, a1, a2, a3, a4⟩) [stepF ⟨b0, b1, b2, b3, b4⟩, absI (a0 - b0)] = apartF ⟨a0, a1, a2, a3, a4⟩ ⟨b0, b1, b2, b3, b4⟩ := rfl
    have e6 : okBy (min a0 b0) (max a1 b1) (apartF ⟨a0, a1, a2, a3, a4⟩ ⟨b0, b1, b2, b3, b4⟩) = true := okBy_iff.2 ⟨by omega, by omega, by omega, by omega, by omega, fun h0 => by have := hz h0; simp only at this; omega⟩
    rw [e1, e2, e3, e4, e5, mnI_eq, mxI_eq, e6, bitI_or p4 p5 q4 q5]
    rfl
  · exact hv.elim
theorem ok_apart : FnOk Itp Try.prog 101 spApart := fnOk S2 hm Try.func101 spApart fun args v hv => by
  unfold spApart at hv
  split at hv
  · rename_i a0 a1 a2 a3 a4 b0 b1 b2 b3 b4 k
    obtain ⟨h, hv⟩ := has_br hv
    have hv := has_ret hv
    subst hv
    simp only [Bool.and_eq_true, validF_iff] at h
    obtain ⟨hA, hB⟩ := h
    have sA := step_range hA
    have sB := step_range hB
    obtain ⟨p1, p2, p3, p4, p5, -⟩ := hA
    obtain ⟨q1, q2, q3, q4, q5, -⟩ := hB
    simp only at p1 p2 p3 p4 p5 q1 q2 q3 q4 q5
    refine (apart_ev a0 a1 a2 a3 a4 b0 b1 b2 b3 b4 k).trans ?_
    have e1 : IntKind.i64.wrap (a0 - b0) = a0 - b0 := wrap_of (by omega) (by omega)
    have e2 : okV (a0 - b0) = true := okV_iff.2 (by omega)
    have e3 : okV (stepF ⟨a0, a1, a2, a3, a4⟩) = true := okV_iff.2 (by omega)
    have e4 : okL [stepF ⟨b0, b1, b2, b3, b4⟩, absI (a0 - b0)] = true := okL_two (okV_iff.2 (by omega)) (okV_iff.2 (by unfold absI; omega))
    rw [e1, e2, e3, e4]
    rfl
  · exact hv.elim
theorem ok_at : FnOk Itp Try.prog 11 spAt := fnOk S2 hm Try.func11 spAt fun args v hv => by
  unfold spAt at hv
  split at hv
  · rename_i a0 a1 a2 a3 a4 n k
    obtain ⟨h, hv⟩ := has_br hv
    have hv := has_ret hv
    subst hv
    rw [validF_iff] at h
    have hm := h.m_le
    obtain ⟨p1, p2, p3, p4, p5, p6, -⟩ := h
    simp only at p1 p2 p3 p4 p5 p6 hm
    refine (at_ev a0 a1 a2 a3 a4 n k).trans ?_
    have hd0 : 0 ≤ (a1 - a0) / a2 := Int.ediv_nonneg (by omega) (by omega)
    have hd1 : (a1 - a0) / a2 ≤ a1 - a0 := Int.ediv_le_self _ (by omega)
    have hdm : a2 * ((a1 - a0) / a2) ≤ a1 - a0 := Int.mul_ediv_self_le (by omega)
    have e1 : IntKind.i64.wrap (a1 - a0) = a1 - a0 := wrap_of (by omega) (by omega)
    have e2 : (a1 - a0).tdiv a2 = (a1 - a0) / a2 := Int.tdiv_eq_ediv_of_nonneg (by omega)
    have e3 : IntKind.i64.wrap ((a1 - a0) / a2) = (a1 - a0) / a2 := wrap_of (by omega) (by omega)
    have e4 : IntKind.i64.wrap ((a1 - a0) / a2 + 1) = (a1 - a0) / a2 + 1 := wrap_of (by omega) (by omega)
    have hn0 := Int.emod_nonneg n (show (a1 - a0) / a2 + 1 ≠ 0 by omega)
    have hn1 := Int.emod_lt_of_pos n (show 0 < (a1 - a0) / a2 + 1 by omega)
    have hmul : n % ((a1 - a0) / a2 + 1) * a2 ≤ a1 - a0 := by
      refine Int.le_trans ?_ hdm
      rw [Int.mul_comm]
      exact Int.mul_le_mul_of_nonneg_left (by omega) (by omega)
    have hmul0 : 0 ≤ n % ((a1 - a0) / a2 + 1) * a2 := Int.mul_nonneg hn0 (by omega)
    have e5 : IntKind.i64.wrap (n % ((a1 - a0) / a2 + 1) * a2) = n % ((a1 - a0) / a2 + 1) * a2 := wrap_of (by omega) (by omega)
    have e6 : IntKind.i64.wrap (a0 + n % ((a1 - a0) / a2 + 1) * a2) = a0 + n % ((a1 - a0) / a2 + 1) * a2 := wrap_of (by omega) (by omega)
    have e7 : okMod ((a1 - a0) / a2 + 1) = true := okMod_iff.2 ⟨by omega, by omega⟩
    simp only [e1, e2, e3, e4, e5, e6, e7, show ¬ a2 = 0 by omega, decide_false, Bool.not_false, cond_true]
    rfl
  · exact hv.elim
theorem w32_range (x : Int) : -2147483648 ≤ w32 x ∧ w32 x ≤ 2147483647 := by unfold w32; omega
theorem ok_made : FnOk Itp Try.prog 40 spMade := fnOk S2 hm Try.func40 spMade fun args v hv => by
  unfold spMade at hv
  split at hv
  · rename_i lo n m k
    have hv := has_ret hv
    subst hv
    refine (made_ev lo n m k).trans ?_
    have hlo := w32_range lo
    have hm0 := Int.emod_nonneg m (show (1048576 : Int) ≠ 0 by omega)
    have hm1 := Int.emod_lt_of_pos m (show (0 : Int) < 1048576 by omega)
    have hn0 := Int.emod_nonneg n (show (2147483648 : Int) ≠ 0 by omega)
    have hn1 := Int.emod_lt_of_pos n (show (0 : Int) < 2147483648 by omega)
    have e1 : IntKind.i64.wrap (1 + m % 1048576) = madeM m := wrap_of (by omega) (by omega)
    have hM : 1 ≤ madeM m ∧ madeM m ≤ 1048576 := by unfold madeM; omega
    rw [e1, show madeF lo n m k = byF (w32 lo) (min (w32 lo + n % 2147483648 / madeM m * madeM m) (2147483647 - (2147483647 - w32 lo) % madeM m)) (madeM m) (k % 256) from rfl]
    generalize madeM m = M at hM ⊢
    generalize w32 lo = L at hlo ⊢
    generalize n % 2147483648 = q at hn0 hn1 ⊢
    have hq0 : 0 ≤ q / M := Int.ediv_nonneg (by omega) (by omega)
    have hq1 : q / M ≤ q := Int.ediv_le_self _ (by omega)
    have hqm : M * (q / M) ≤ q := Int.mul_ediv_self_le (by omega)
    have hqm' : q / M * M ≤ q := by rw [Int.mul_comm]; exact hqm
    have hqm0 : 0 ≤ q / M * M := Int.mul_nonneg hq0 (by omega)
    have hr0 := Int.emod_nonneg (2147483647 - L) (show M ≠ 0 by omega)
    have hr1 := emod_le (x := 2147483647 - L) (m := M) (by omega) (by omega)
    have e2 : q.tdiv M = q / M := Int.tdiv_eq_ediv_of_nonneg (by omega)
    have e3 : IntKind.i64.wrap (q / M) = q / M := wrap_of (by omega) (by omega)
    have e4 : IntKind.i64.wrap (q / M * M) = q / M * M := wrap_of (by omega) (by omega)
    have e5 : IntKind.i64.wrap (L + q / M * M) = L + q / M * M := wrap_of (by omega) (by omega)
    have e6 : IntKind.i64.wrap (2147483647 - L) = 2147483647 - L := wrap_of (by omega) (by omega)
    have e7 : IntKind.i64.wrap (2147483647 - (2147483647 - L) % M) = 2147483647 - (2147483647 - L) % M := wrap_of (by omega) (by omega)
    have e8 : okMod M = true := okMod_iff.2 ⟨by omega, by omega⟩
    have e9 : okBy L (min (L + q / M * M) (2147483647 - (2147483647 - L) % M)) M = true := okBy_iff.2 ⟨by omega, by omega, by omega, by omega, by omega, by omega⟩
    simp only [e2, e3, e4, e5, e6, e7, e8, mnI_eq, e9, show ¬ M = 0 by omega, decide_false, Bool.not_false, cond_true]
  · exact hv.elim
theorem S3 : SpecOk Itp Try.prog (fromList L3) :=
  specOk_cons (en _ _ Try.func58) ok_like <| specOk_cons (en _ _ Try.func22) ok_of <| specOk_cons (en _ _ Try.func31) ok_all <| specOk_cons (en _ _ Try.func12) ok_has <| specOk_cons (en _ _ Try.func14) ok_valid <|
  specOk_cons (en _ _ Try.func16) ok_join <| specOk_cons (en _ _ Try.func40) ok_made <| specOk_cons (en _ _ Try.func11) ok_at <| specOk_cons (en _ _ Try.func101) ok_apart S2
end Go.Proofs.Ytamfgbenceoleaa.Span
/-! Contracts of the fourth stage. -/
namespace Go.Proofs.Ytamfgbenceoleaa.Span
set_option linter.unusedVariables false
set_option linter.unusedSimpArgs false
set_option linter.unusedSectionVars false
set_option linter.unnecessarySimpa false
open Go.Proofs.Ytamfgbenceoleaa.Ev Go.RowKit
set_option maxRecDepth 100000
theorem bnd_ev (a0 a1 a2 a3 a4 b0 b1 b2 b3 b4 k lo hi m : Int) : evFn Itp Try.prog (fromList L3) (fun _ => []) noLoops Try.f99 [.agg [.int .i64 a0, .int .i64 a1, .int .i64 a2, .int .i64 a3, .int .i64 a4, .int .i64 b0, .int .i64 b1, .int .i64 b2, .int .i64 b3, .int .i64 b4, .int .i64 k], iA lo, iA hi, iA m] some =
    bif valB lo then bif valB hi then bif okBy lo hi m then some (encA (byF lo hi m k)) else none else bif okL [m] then bif okLike lo (gcdL 4294967296 [m]) (-2147483648) 2147483647 then some (encA (likeF lo (gcdL 4294967296 [m]) (-2147483648) 2147483647 k)) else none else none else bif okL [m] then bif okLike lo (gcdL 4294967296 [m]) (-2147483648) 2147483647 then some (encA (likeF lo (gcdL 4294967296 [m]) (-2147483648) 2147483647 k)) else none else none := by
  kernel_rfl
theorem leq_ev (a0 a1 a2 a3 a4 b0 b1 b2 b3 b4 : Int) : evFn Itp Try.prog (fromList L3) (fun _ => []) noLoops Try.f17 [.agg [.int .i64 a0, .int .i64 a1, .int .i64 a2, .int .i64 a3, .int .i64 a4], .agg [.int .i64 b0, .int .i64 b1, .int .i64 b2, .int .i64 b3, .int .i64 b4]] some =
    bif validF { lo := a0, hi := a1, m := a2, r := a3, mask := a4 } && validF { lo := b0, hi := b1, m := b2, r := b3, mask := b4 } then some (AV.bool ((joinF { lo := a0, hi := a1, m := a2, r := a3, mask := a4 } { lo := b0, hi := b1, m := b2, r := b3, mask := b4 }).lo == b0 && ((joinF { lo := a0, hi := a1, m := a2, r := a3, mask := a4 } { lo := b0, hi := b1, m := b2, r := b3, mask := b4 }).hi == b1 && ((joinF { lo := a0, hi := a1, m := a2, r := a3, mask := a4 } { lo := b0, hi := b1, m := b2, r := b3, mask := b4 }).m == b2 && ((joinF { lo := a0, hi := a1, m := a2, r := a3, mask := a4 } { lo := b0, hi := b1, m := b2, r := b3, mask := b4 }).r == b3 && ((joinF { lo := a0, hi := a1, m := a2, r := a3, mask := a4 } { lo := b0, hi := b1, m := b2, r := b3, mask := b4 }).mask == b4 && true)))))) else none := by
  kernel_rfl
theorem lmade_ev (lo n m k : Int) : evFn Itp Try.prog (fromList L3) (fun _ => []) noLoops Try.f10 [.agg [iA lo, iA n, iA m, iA k]] some =
    some (encA (madeF lo n m k)) := by
  kernel_rfl
theorem okBnd_iff {lo hi m : Int} : okBnd lo hi m = true ↔ (-4611686018427387904 ≤ lo ∧ lo ≤ 4611686018427387904) ∧ (-4611686018427387904 ≤ hi ∧ hi ≤ 4611686018427387904) ∧ (-9223372036854775807 ≤ m ∧ m ≤ 9223372036854775807) ∧ lo ≤ hi ∧ 0 ≤ m ∧ (m = 0 → lo = hi) := by
  simp only [okBnd, Bool.and_eq_true, okW_iff, okV_iff, decide_eq_true_eq]
theorem gcd32 (m : Int) : 0 < gcdL 4294967296 [m] ∧ gcdL 4294967296 [m] ≤ 4294967296 := by
  have h0 := gcdL_nonneg 4294967296 [m]
  have h1 : gcdL 4294967296 [m] ≠ 0 := fun h => by have := (gcdL_zero h).1; omega
  have h2 := Int.le_of_dvd (by omega) (gcdL_self (a := 4294967296) (l := [m])).1
  omega
theorem valB_iff {a : Int} : valB a = true ↔ -2147483648 ≤ a ∧ a ≤ 2147483647 := by simp [valB]
theorem ok_bnd : FnOk Itp Try.prog 99 spBnd := fnOk S3 hm Try.func99 spBnd fun args v hv => by
  unfold spBnd at hv
  split at hv
  · rename_i a0 a1 a2 a3 a4 b0 b1 b2 b3 b4 k lo hi m
    obtain ⟨h, hv⟩ := has_br hv
    have hv := has_ret hv
    subst hv
    obtain ⟨h1, h2, h3, h4, h5, h6⟩ := okBnd_iff.1 h
    refine (bnd_ev a0 a1 a2 a3 a4 b0 b1 b2 b3 b4 k lo hi m).trans ?_
    have hg := gcd32 m
    have hr0 := Int.emod_nonneg (lo - -2147483648) (show gcdL 4294967296 [m] ≠ 0 by omega)
    have hr1 := Int.emod_lt_of_pos (lo - -2147483648) hg.1
    have e1 : okL [m] = true := by simp [okL]; exact okV_iff.2 h3
    have e2 : okLike lo (gcdL 4294967296 [m]) (-2147483648) 2147483647 = true := okLike_iff.2 ⟨by omega, by omega, by omega, by omega, by omega, by omega⟩
    rw [e1, e2]
    unfold boundF
    cases c1 : valB lo with
    | false => simp [c1]
    | true =>
      cases c2 : valB hi with
      | false => simp [c1, c2]
      | true =>
        rw [valB_iff] at c1 c2
        rw [show okBy lo hi m = true from okBy_iff.2 ⟨by omega, by omega, by omega, by omega, by omega, h6⟩]
        simp
  · exact hv.elim
theorem abs_ext {a b : Abs} : a = b ↔ a.lo = b.lo ∧ a.hi = b.hi ∧ a.m = b.m ∧ a.r = b.r ∧ a.mask = b.mask := by
  cases a; cases b; simp
theorem ok_leq : FnOk Itp Try.prog 17 spLeq := fnOk S3 hm Try.func17 spLeq fun args v hv => by
  unfold spLeq at hv
  split at hv
  · rename_i a0 a1 a2 a3 a4 b0 b1 b2 b3 b4
    obtain ⟨h, hv⟩ := has_br hv
    have hv := has_ret hv
    subst hv
    refine (leq_ev a0 a1 a2 a3 a4 b0 b1 b2 b3 b4).trans ?_
    rw [h]
    simp only [cond_true, leqF]
    congr 2
    rw [Bool.eq_iff_iff]
    simp only [Bool.and_eq_true, beq_iff_eq, and_true, decide_eq_true_eq, abs_ext]
  · exact hv.elim
theorem ok_lmade : FnOk Itp Try.prog 10 spMade := fnOk S3 hm Try.func10 spMade fun args v hv => by
  unfold spMade at hv
  split at hv
  · rename_i lo n m k
    have hv := has_ret hv
    subst hv
    exact lmade_ev lo n m k
  · exact hv.elim
theorem S4 : SpecOk Itp Try.prog (fromList L4) :=
  specOk_cons (en _ _ Try.func99) ok_bnd <| specOk_cons (en _ _ Try.func17) ok_leq <| specOk_cons (en _ _ Try.func10) ok_lmade S3
end Go.Proofs.Ytamfgbenceoleaa.Span
/-! Contracts of the operators of sets. -/
namespace Go.Proofs.Ytamfgbenceoleaa.Span
set_option linter.unusedVariables false
set_option linter.unusedSimpArgs false
set_option linter.unusedSectionVars false
set_option linter.unnecessarySimpa false
open Go.Proofs.Ytamfgbenceoleaa.Ev Go.RowKit
set_option maxRecDepth 100000
theorem add_ev (a0 a1 a2 a3 a4 b0 b1 b2 b3 b4 k : Int) : evFn Itp Try.prog (fromList L4) (fun _ => []) noLoops Try.f73 [.agg [.int .i64 a0, .int .i64 a1, .int .i64 a2, .int .i64 a3, .int .i64 a4, .int .i64 b0, .int .i64 b1, .int .i64 b2, .int .i64 b3, .int .i64 b4, .int .i64 k]] some =
    bif okV (stepF { lo := a0, hi := a1, m := a2, r := a3, mask := a4 }) && okL [stepF { lo := b0, hi := b1, m := b2, r := b3, mask := b4 }] then bif okBnd (IntKind.i64.wrap (a0 + b0)) (IntKind.i64.wrap (a1 + b1)) (gcdL (stepF { lo := a0, hi := a1, m := a2, r := a3, mask := a4 }) [stepF { lo := b0, hi := b1, m := b2, r := b3, mask := b4 }]) then some (encA (boundF k (IntKind.i64.wrap (a0 + b0)) (IntKind.i64.wrap (a1 + b1)) (gcdL (stepF { lo := a0, hi := a1, m := a2, r := a3, mask := a4 }) [stepF { lo := b0, hi := b1, m := b2, r := b3, mask := b4 }]))) else none else none := by
  kernel_rfl
theorem sub_ev (a0 a1 a2 a3 a4 b0 b1 b2 b3 b4 k : Int) : evFn Itp Try.prog (fromList L4) (fun _ => []) noLoops Try.f74 [.agg [.int .i64 a0, .int .i64 a1, .int .i64 a2, .int .i64 a3, .int .i64 a4, .int .i64 b0, .int .i64 b1, .int .i64 b2, .int .i64 b3, .int .i64 b4, .int .i64 k]] some =
    bif okV (stepF { lo := a0, hi := a1, m := a2, r := a3, mask := a4 }) && okL [stepF { lo := b0, hi := b1, m := b2, r := b3, mask := b4 }] then bif okBnd (IntKind.i64.wrap (a0 - b1)) (IntKind.i64.wrap (a1 - b0)) (gcdL (stepF { lo := a0, hi := a1, m := a2, r := a3, mask := a4 }) [stepF { lo := b0, hi := b1, m := b2, r := b3, mask := b4 }]) then some (encA (boundF k (IntKind.i64.wrap (a0 - b1)) (IntKind.i64.wrap (a1 - b0)) (gcdL (stepF { lo := a0, hi := a1, m := a2, r := a3, mask := a4 }) [stepF { lo := b0, hi := b1, m := b2, r := b3, mask := b4 }]))) else none else none := by
  kernel_rfl
theorem mul_ev (a0 a1 a2 a3 a4 b0 b1 b2 b3 b4 k : Int) : evFn Itp Try.prog (fromList L4) (fun _ => []) noLoops Try.f75 [.agg [.int .i64 a0, .int .i64 a1, .int .i64 a2, .int .i64 a3, .int .i64 a4, .int .i64 b0, .int .i64 b1, .int .i64 b2, .int .i64 b3, .int .i64 b4, .int .i64 k]] some =
    bif okV a0 then bif okV b0 then bif okV (IntKind.i64.wrap (absI a0 * stepF { lo := b0, hi := b1, m := b2, r := b3, mask := b4 })) && okL [IntKind.i64.wrap (absI b0 * stepF { lo := a0, hi := a1, m := a2, r := a3, mask := a4 }), IntKind.i64.wrap (stepF { lo := a0, hi := a1, m := a2, r := a3, mask := a4 } * stepF { lo := b0, hi := b1, m := b2, r := b3, mask := b4 })] then bif okBnd (mnI (mnI (mnI (IntKind.i64.wrap (a0 * b0)) (IntKind.i64.wrap (a0 * b1))) (IntKind.i64.wrap (a1 * b0))) (IntKind.i64.wrap (a1 * b1))) (mxI (mxI (mxI (IntKind.i64.wrap (a0 * b0)) (IntKind.i64.wrap (a0 * b1))) (IntKind.i64.wrap (a1 * b0))) (IntKind.i64.wrap (a1 * b1))) (gcdL (IntKind.i64.wrap (absI a0 * stepF { lo := b0, hi := b1, m := b2, r := b3, mask := b4 })) [IntKind.i64.wrap (absI b0 * stepF { lo := a0, hi := a1, m := a2, r := a3, mask := a4 }), IntKind.i64.wrap (stepF { lo := a0, hi := a1, m := a2, r := a3, mask := a4 } * stepF { lo := b0, hi := b1, m := b2, r := b3, mask := b4 })]) then some (encA (boundF k (mnI (mnI (mnI (IntKind.i64.wrap (a0 * b0)) (IntKind.i64.wrap (a0 * b1))) (IntKind.i64.wrap (a1 * b0))) (IntKind.i64.wrap (a1 * b1))) (mxI (mxI (mxI (IntKind.i64.wrap (a0 * b0)) (IntKind.i64.wrap (a0 * b1))) (IntKind.i64.wrap (a1 * b0))) (IntKind.i64.wrap (a1 * b1))) (gcdL (IntKind.i64.wrap (absI a0 * stepF { lo := b0, hi := b1, m := b2, r := b3, mask := b4 })) [IntKind.i64.wrap (absI b0 * stepF { lo := a0, hi := a1, m := a2, r := a3, mask := a4 }), IntKind.i64.wrap (stepF { lo := a0, hi := a1, m := a2, r := a3, mask := a4 } * stepF { lo := b0, hi := b1, m := b2, r := b3, mask := b4 })]))) else none else none else none else none := by
  kernel_rfl
theorem div_ev (a0 a1 a2 a3 a4 b0 b1 b2 b3 b4 k : Int) : evFn Itp Try.prog (fromList L4) (fun _ => []) noLoops Try.f76 [.agg [.int .i64 a0, .int .i64 a1, .int .i64 a2, .int .i64 a3, .int .i64 a4, .int .i64 b0, .int .i64 b1, .int .i64 b2, .int .i64 b3, .int .i64 b4, .int .i64 k]] some =
    bif stepF { lo := b0, hi := b1, m := b2, r := b3, mask := b4 } == 0 then bif b0 != 0 then bif !decide (b0 = 0) then bif !decide (b0 = 0) then bif !decide (b0 = 0) then bif !decide (b0 = 0) then bif !valB (mnI (IntKind.i64.wrap (a0.tdiv b0)) (IntKind.i64.wrap (a1.tdiv b0))) then some (encA (allF k)) else bif !valB (mxI (IntKind.i64.wrap (a0.tdiv b0)) (IntKind.i64.wrap (a1.tdiv b0))) then some (encA (allF k)) else bif okBy (mnI (IntKind.i64.wrap (a0.tdiv b0)) (IntKind.i64.wrap (a1.tdiv b0))) (mxI (IntKind.i64.wrap (a0.tdiv b0)) (IntKind.i64.wrap (a1.tdiv b0))) 1 then some (encA (byF (mnI (IntKind.i64.wrap (a0.tdiv b0)) (IntKind.i64.wrap (a1.tdiv b0))) (mxI (IntKind.i64.wrap (a0.tdiv b0)) (IntKind.i64.wrap (a1.tdiv b0))) 1 k)) else none else none else none else none else none else bif decide (a0 < 0) then bif okV a0 then bif okV a1 then bif !valB (IntKind.i64.wrap (0 - mxI (absI a0) (absI a1))) then some (encA (allF k)) else bif !valB (mxI (absI a0) (absI a1)) then some (encA (allF k)) else bif okBy (IntKind.i64.wrap (0 - mxI (absI a0) (absI a1))) (mxI (absI a0) (absI a1)) 1 then some (encA (byF (IntKind.i64.wrap (0 - mxI (absI a0) (absI a1))) (mxI (absI a0) (absI a1)) 1 k)) else none else none else none else bif decide (b0 < 0) then bif okV a0 then bif okV a1 then bif !valB (IntKind.i64.wrap (0 - mxI (absI a0) (absI a1))) then some (encA (allF k)) else bif !valB (mxI (absI a0) (absI a1)) then some (encA (allF k)) else bif okBy (IntKind.i64.wrap (0 - mxI (absI a0) (absI a1))) (mxI (absI a0) (absI a1)) 1 then some (encA (byF (IntKind.i64.wrap (0 - mxI (absI a0) (absI a1))) (mxI (absI a0) (absI a1)) 1 k)) else none else none else none else bif !valB a1 then some (encA (allF k)) else bif okBy 0 a1 1 then some (encA (byF 0 a1 1 k)) else none else bif decide (a0 < 0) then bif okV a0 then bif okV a1 then bif !valB (IntKind.i64.wrap (0 - mxI (absI a0) (absI a1))) then some (encA (allF k)) else bif !valB (mxI (absI a0) (absI a1)) then some (encA (allF k)) else bif okBy (IntKind.i64.wrap (0 - mxI (absI a0) (absI a1))) (mxI (absI a0) (absI a1)) 1 then some (encA (byF (IntKind.i64.wrap (0 - mxI (absI a0) (absI a1))) (mxI (absI a0) (absI a1)) 1 k)) else none else none else none else bif decide (b0 < 0) then bif okV a0 then bif okV a1 then bif !valB (IntKind.i64.wrap (0 - mxI (absI a0) (absI a1))) then some (encA (allF k)) else bif !valB (mxI (absI a0) (absI a1)) then some (encA (allF k)) else bif okBy (IntKind.i64.wrap (0 - mxI (absI a0) (absI a1))) (mxI (absI a0) (absI a1)) 1 then some (encA (byF (IntKind.i64.wrap (0 - mxI (absI a0) (absI a1))) (mxI (absI a0) (absI a1)) 1 k)) else none else none else none else bif !valB a1 then some (encA (allF k)) else bif okBy 0 a1 1 then some (encA (byF 0 a1 1 k)) else none := by
  kernel_rfl
theorem rem_ev (a0 a1 a2 a3 a4 b0 b1 b2 b3 b4 k : Int) : evFn Itp Try.prog (fromList L4) (fun _ => []) noLoops Try.f77 [.agg [.int .i64 a0, .int .i64 a1, .int .i64 a2, .int .i64 a3, .int .i64 a4, .int .i64 b0, .int .i64 b1, .int .i64 b2, .int .i64 b3, .int .i64 b4, .int .i64 k]] some =
    bif okV b0 then bif stepF { lo := b0, hi := b1, m := b2, r := b3, mask := b4 } != 0 then bif okBy (mnI a0 0) (mxI a1 0) 1 then some (encA (byF (mnI a0 0) (mxI a1 0) 1 k)) else none else bif absI b0 == 0 then some (AV.agg [AV.int IntKind.i64 a0, AV.int IntKind.i64 a1, AV.int IntKind.i64 a2, AV.int IntKind.i64 a3, AV.int IntKind.i64 k]) else bif decide (a0 ≥ 0) then bif decide (a1 < absI b0) then some (AV.agg [AV.int IntKind.i64 a0, AV.int IntKind.i64 a1, AV.int IntKind.i64 a2, AV.int IntKind.i64 a3, AV.int IntKind.i64 k]) else bif okV (stepF { lo := a0, hi := a1, m := a2, r := a3, mask := k }) && okL [absI b0] then bif okLike a0 (gcdL (stepF { lo := a0, hi := a1, m := a2, r := a3, mask := k }) [absI b0]) (mxI (mnI a0 0) (IntKind.i64.wrap (1 - absI b0))) (mnI (mxI a1 0) (IntKind.i64.wrap (absI b0 - 1))) then some (encA (likeF a0 (gcdL (stepF { lo := a0, hi := a1, m := a2, r := a3, mask := k }) [absI b0]) (mxI (mnI a0 0) (IntKind.i64.wrap (1 - absI b0))) (mnI (mxI a1 0) (IntKind.i64.wrap (absI b0 - 1))) k)) else none else none else bif okV (stepF { lo := a0, hi := a1, m := a2, r := a3, mask := k }) && okL [absI b0] then bif okLike a0 (gcdL (stepF { lo := a0, hi := a1, m := a2, r := a3, mask := k }) [absI b0]) (mxI (mnI a0 0) (IntKind.i64.wrap (1 - absI b0))) (mnI (mxI a1 0) (IntKind.i64.wrap (absI b0 - 1))) then some (encA (likeF a0 (gcdL (stepF { lo := a0, hi := a1, m := a2, r := a3, mask := k }) [absI b0]) (mxI (mnI a0 0) (IntKind.i64.wrap (1 - absI b0))) (mnI (mxI a1 0) (IntKind.i64.wrap (absI b0 - 1))) k)) else none else none else none := by
  kernel_rfl
theorem lesser_ev (a0 a1 a2 a3 a4 b0 b1 b2 b3 b4 k : Int) : evFn Itp Try.prog (fromList L4) (fun _ => []) noLoops Try.f78 [.agg [.int .i64 a0, .int .i64 a1, .int .i64 a2, .int .i64 a3, .int .i64 a4, .int .i64 b0, .int .i64 b1, .int .i64 b2, .int .i64 b3, .int .i64 b4, .int .i64 k]] some =
    bif validF { lo := a0, hi := a1, m := a2, r := a3, mask := a4 } && validF { lo := b0, hi := b1, m := b2, r := b3, mask := b4 } then bif okBy (mnI a0 b0) (mnI a1 b1) (apartF { lo := a0, hi := a1, m := a2, r := a3, mask := a4 } { lo := b0, hi := b1, m := b2, r := b3, mask := b4 }) then some (encA (byF (mnI a0 b0) (mnI a1 b1) (apartF { lo := a0, hi := a1, m := a2, r := a3, mask := a4 } { lo := b0, hi := b1, m := b2, r := b3, mask := b4 }) k)) else none else none := by
  kernel_rfl
theorem greater_ev (a0 a1 a2 a3 a4 b0 b1 b2 b3 b4 k : Int) : evFn Itp Try.prog (fromList L4) (fun _ => []) noLoops Try.f79 [.agg [.int .i64 a0, .int .i64 a1, .int .i64 a2, .int .i64 a3, .int .i64 a4, .int .i64 b0, .int .i64 b1, .int .i64 b2, .int .i64 b3, .int .i64 b4, .int .i64 k]] some =
    bif validF { lo := a0, hi := a1, m := a2, r := a3, mask := a4 } && validF { lo := b0, hi := b1, m := b2, r := b3, mask := b4 } then bif okBy (mxI a0 b0) (mxI a1 b1) (apartF { lo := a0, hi := a1, m := a2, r := a3, mask := a4 } { lo := b0, hi := b1, m := b2, r := b3, mask := b4 }) then some (encA (byF (mxI a0 b0) (mxI a1 b1) (apartF { lo := a0, hi := a1, m := a2, r := a3, mask := a4 } { lo := b0, hi := b1, m := b2, r := b3, mask := b4 }) k)) else none else none := by
  kernel_rfl
theorem mul_le {a b : Int} (ha : -2147483648 ≤ a ∧ a ≤ 2147483648) (hb : -4294967296 ≤ b ∧ b ≤ 4294967296) : -9223372036854775808 ≤ a * b ∧ a * b ≤ 9223372036854775808 := by
  have h : (a * b).natAbs ≤ 2147483648 * 4294967296 := by rw [Int.natAbs_mul]; exact Nat.mul_le_mul (by omega) (by omega)
  omega
theorem mul_le' {a b : Int} (ha : 0 ≤ a ∧ a ≤ 2147483648) (hb : 0 ≤ b ∧ b ≤ 4294967295) : 0 ≤ a * b ∧ a * b ≤ 9223372034707292160 := by
  have h : (a * b).natAbs ≤ 2147483648 * 4294967295 := by rw [Int.natAbs_mul]; exact Nat.mul_le_mul (by omega) (by omega)
  have h0 : 0 ≤ a * b := Int.mul_nonneg ha.1 hb.1
  omega
theorem mul_le32 {a b : Int} (ha : -2147483648 ≤ a ∧ a ≤ 2147483648) (hb : -2147483648 ≤ b ∧ b ≤ 2147483648) : -4611686018427387904 ≤ a * b ∧ a * b ≤ 4611686018427387904 := by
  have h : (a * b).natAbs ≤ 2147483648 * 2147483648 := by rw [Int.natAbs_mul]; exact Nat.mul_le_mul (by omega) (by omega)
  omega
theorem steps_range {a b : Abs} (ha : VA a) (hb : VA b) : 0 ≤ gcdL (stepF a) [stepF b] ∧ gcdL (stepF a) [stepF b] ≤ 4294967295 ∧ (gcdL (stepF a) [stepF b] = 0 → a.lo = a.hi ∧ b.lo = b.hi) := by
  have sa := step_range ha
  have sb := step_range hb
  refine ⟨gcdL_nonneg _ _, gcdL_le (by omega) (by omega) (fun x hx => by simp only [List.mem_cons, List.mem_nil_iff, or_false] at hx; subst hx; omega), fun h => ?_⟩
  obtain ⟨h1, h2⟩ := gcdL_zero h
  exact ⟨(step_zero ha).1 h1, (step_zero hb).1 (h2 _ (by simp))⟩
theorem okL_one {x : Int} (hx : okV x = true) : okL [x] = true := by simp [okL, hx]
theorem ok_add : FnOk Itp Try.prog 73 spAdd := fnOk S4 hm Try.func73 spAdd fun args v hv => by
  unfold spAdd at hv
  split at hv
  · rename_i a0 a1 a2 a3 a4 b0 b1 b2 b3 b4 k
    obtain ⟨h, hv⟩ := has_br hv
    have hv := has_ret hv
    subst hv
    simp only [Bool.and_eq_true, validF_iff] at h
    obtain ⟨hA, hB⟩ := h
    have sA := step_range hA
    have sB := step_range hB
    have hg := steps_range hA hB
    obtain ⟨p1, p2, p3, p4, p5, -⟩ := hA
    obtain ⟨q1, q2, q3, q4, q5, -⟩ := hB
    simp only at p1 p2 p3 p4 p5 q1 q2 q3 q4 q5 hg
    refine (add_ev a0 a1 a2 a3 a4 b0 b1 b2 b3 b4 k).trans ?_
    have e1 : IntKind.i64.wrap (a0 + b0) = a0 + b0 := wrap_of (by omega) (by omega)
    have e2 : IntKind.i64.wrap (a1 + b1) = a1 + b1 := wrap_of (by omega) (by omega)
    have e3 : okV (stepF ⟨a0, a1, a2, a3, a4⟩) = true := okV_iff.2 (by omega)
    have e4 : okL [stepF ⟨b0, b1, b2, b3, b4⟩] = true := okL_one (okV_iff.2 (by omega))
    have e5 : okBnd (a0 + b0) (a1 + b1) (gcdL (stepF ⟨a0, a1, a2, a3, a4⟩) [stepF ⟨b0, b1, b2, b3, b4⟩]) = true := okBnd_iff.2 ⟨by omega, by omega, by omega, by omega, by omega, by omega⟩
    simp only [e1, e2, e3, e4, e5, Bool.and_self, cond_true]
    rfl
  · exact hv.elim
theorem ok_sub : FnOk Itp Try.prog 74 spSub := fnOk S4 hm Try.func74 spSub fun args v hv => by
  unfold spSub at hv
  split at hv
  · rename_i a0 a1 a2 a3 a4 b0 b1 b2 b3 b4 k
    obtain ⟨h, hv⟩ := has_br hv
    have hv := has_ret hv
    subst hv
    simp only [Bool.and_eq_true, validF_iff] at h
    obtain ⟨hA, hB⟩ := h
    have sA := step_range hA
    have sB := step_range hB
    have hg := steps_range hA hB
    obtain ⟨p1, p2, p3, p4, p5, -⟩ := hA
    obtain ⟨q1, q2, q3, q4, q5, -⟩ := hB
    simp only at p1 p2 p3 p4 p5 q1 q2 q3 q4 q5 hg
    refine (sub_ev a0 a1 a2 a3 a4 b0 b1 b2 b3 b4 k).trans ?_
    have e1 : IntKind.i64.wrap (a0 - b1) = a0 - b1 := wrap_of (by omega) (by omega)
    have e2 : IntKind.i64.wrap (a1 - b0) = a1 - b0 := wrap_of (by omega) (by omega)
    have e3 : okV (stepF ⟨a0, a1, a2, a3, a4⟩) = true := okV_iff.2 (by omega)
    have e4 : okL [stepF ⟨b0, b1, b2, b3, b4⟩] = true := okL_one (okV_iff.2 (by omega))
    have e5 : okBnd (a0 - b1) (a1 - b0) (gcdL (stepF ⟨a0, a1, a2, a3, a4⟩) [stepF ⟨b0, b1, b2, b3, b4⟩]) = true := okBnd_iff.2 ⟨by omega, by omega, by omega, by omega, by omega, by omega⟩
    simp only [e1, e2, e3, e4, e5, Bool.and_self, cond_true]
    rfl
  · exact hv.elim
theorem ok_mul : FnOk Itp Try.prog 75 spMul := fnOk S4 hm Try.func75 spMul fun args v hv => by
  unfold spMul at hv
  split at hv
  · rename_i a0 a1 a2 a3 a4 b0 b1 b2 b3 b4 k
    obtain ⟨h, hv⟩ := has_br hv
    have hv := has_ret hv
    subst hv
    simp only [Bool.and_eq_true, validF_iff, okMul, okW_iff] at h
    obtain ⟨hA, hB, hM⟩ := h
    have sA := step_range hA
    have sB := step_range hB
    have zA := step_zero hA
    have zB := step_zero hB
    obtain ⟨p1, p2, p3, p4, p5, -⟩ := hA
    obtain ⟨q1, q2, q3, q4, q5, -⟩ := hB
    simp only at p1 p2 p3 p4 p5 q1 q2 q3 q4 q5 zA zB
    refine (mul_ev a0 a1 a2 a3 a4 b0 b1 b2 b3 b4 k).trans ?_
    have hst : 0 ≤ stepF ⟨a0, a1, a2, a3, a4⟩ * stepF ⟨b0, b1, b2, b3, b4⟩ := Int.mul_nonneg sA.1 sB.1
    rw [show mulF ⟨a0, a1, a2, a3, a4⟩ ⟨b0, b1, b2, b3, b4⟩ k = boundF k (min (min (min (a0 * b0) (a0 * b1)) (a1 * b0)) (a1 * b1)) (max (max (max (a0 * b0) (a0 * b1)) (a1 * b0)) (a1 * b1)) (gcdL (absI a0 * stepF ⟨b0, b1, b2, b3, b4⟩) [absI b0 * stepF ⟨a0, a1, a2, a3, a4⟩, stepF ⟨a0, a1, a2, a3, a4⟩ * stepF ⟨b0, b1, b2, b3, b4⟩]) from rfl]
    generalize hsA : stepF ⟨a0, a1, a2, a3, a4⟩ = s at *
    generalize hsB : stepF ⟨b0, b1, b2, b3, b4⟩ = t at *
    have m1 := mul_le32 (a := a0) (b := b0) (by omega) (by omega)
    have m2 := mul_le32 (a := a0) (b := b1) (by omega) (by omega)
    have m3 := mul_le32 (a := a1) (b := b0) (by omega) (by omega)
    have m4 := mul_le32 (a := a1) (b := b1) (by omega) (by omega)
    have m5 := mul_le' (a := absI a0) (b := t) (by unfold absI; omega) (by omega)
    have m6 := mul_le' (a := absI b0) (b := s) (by unfold absI; omega) (by omega)
    have e1 : IntKind.i64.wrap (a0 * b0) = a0 * b0 := wrap_of (by omega) (by omega)
    have e2 : IntKind.i64.wrap (a0 * b1) = a0 * b1 := wrap_of (by omega) (by omega)
    have e3 : IntKind.i64.wrap (a1 * b0) = a1 * b0 := wrap_of (by omega) (by omega)
    have e4 : IntKind.i64.wrap (a1 * b1) = a1 * b1 := wrap_of (by omega) (by omega)
    have e5 : IntKind.i64.wrap (absI a0 * t) = absI a0 * t := wrap_of (by omega) (by omega)
    have e6 : IntKind.i64.wrap (absI b0 * s) = absI b0 * s := wrap_of (by omega) (by omega)
    have e7 : IntKind.i64.wrap (s * t) = s * t := wrap_of (by omega) (by omega)
    have e8 : okV a0 = true := okV_iff.2 (by omega)
    have e9 : okV b0 = true := okV_iff.2 (by omega)
    have e10 : okV (absI a0 * t) = true := okV_iff.2 (by omega)
    have e11 : okL [absI b0 * s, s * t] = true := okL_two (okV_iff.2 (by omega)) (okV_iff.2 (by omega))
    have hg0 := gcdL_nonneg (absI a0 * t) [absI b0 * s, s * t]
    have hg1 : gcdL (absI a0 * t) [absI b0 * s, s * t] ≤ 9223372034707292160 := gcdL_le (by omega) (by omega) (fun x hx => by
      simp only [List.mem_cons, List.mem_nil_iff, or_false] at hx
      rcases hx with rfl | rfl <;> omega)
    have hz : gcdL (absI a0 * t) [absI b0 * s, s * t] = 0 → min (min (min (a0 * b0) (a0 * b1)) (a1 * b0)) (a1 * b1) = max (max (max (a0 * b0) (a0 * b1)) (a1 * b0)) (a1 * b1) := fun h0 => by
      obtain ⟨h1, h2⟩ := gcdL_zero h0
      have h3 := h2 (absI b0 * s) (by simp)
      have h4 := h2 (s * t) (by simp)
      have hb : b0 = b1 ∨ a0 = 0 := by
        rcases Int.mul_eq_zero.1 h1 with h | h
        · right; unfold absI at h; omega
        · left; exact zB.1 h
      have ha : a0 = a1 ∨ b0 = 0 := by
        rcases Int.mul_eq_zero.1 h3 with h | h
        · right; unfold absI at h; omega
        · left; exact zA.1 h
      have hab : a0 = a1 ∨ b0 = b1 := by
        rcases Int.mul_eq_zero.1 h4 with h | h
        · left; exact zA.1 h
        · right; exact zB.1 h
      rcases hab with hh | hh
      · rcases hb with h | h
        · subst hh h; omega
        · subst hh; subst h; simp
      · rcases ha with h | h
        · subst hh h; omega
        · subst hh; subst h; simp
    simp only [e1, e2, e3, e4, e5, e6, e7, e8, e9, e10, e11, mnI_eq, mxI_eq, Bool.and_self, cond_true]
    generalize gcdL (absI a0 * t) [absI b0 * s, s * t] = g at *
    have e12 : okBnd (min (min (min (a0 * b0) (a0 * b1)) (a1 * b0)) (a1 * b1)) (max (max (max (a0 * b0) (a0 * b1)) (a1 * b0)) (a1 * b1)) g = true := okBnd_iff.2 ⟨by omega, by omega, by omega, by omega, by omega, hz⟩
    rw [e12]; rfl
  · exact hv.elim
theorem bne_int {a b : Int} : (a != b) = !decide (a = b) := by rw [bne, beq_int]
theorem div_fin {x y : Int} (k : Int) (hxy : x ≤ y) : (bif !valB x then some (encA (allF k)) else bif !valB y then some (encA (allF k)) else bif okBy x y 1 then some (encA (byF x y 1 k)) else none) = some (encA (if valB x && valB y then byF x y 1 k else allF k)) := by
  cases c1 : valB x with
  | false => simp
  | true =>
    cases c2 : valB y with
    | false => simp
    | true =>
      rw [valB_iff] at c1 c2
      rw [show okBy x y 1 = true from okBy_iff.2 ⟨by omega, by omega, by omega, by omega, by omega, by omega⟩]
      simp
theorem tdiv_range (x y : Int) (hx : -2147483648 ≤ x ∧ x ≤ 2147483647) : -2147483648 ≤ Int.tdiv x y ∧ Int.tdiv x y ≤ 2147483648 := by
  have h : (Int.tdiv x y).natAbs ≤ 2147483648 := by rw [Int.natAbs_tdiv]; exact Nat.le_trans (Nat.div_le_self _ _) (by omega)
  omega
theorem ok_div : FnOk Itp Try.prog 76 spDiv := fnOk S4 hm Try.func76 spDiv fun args v hv => by
  unfold spDiv at hv
  split at hv
  · rename_i a0 a1 a2 a3 a4 b0 b1 b2 b3 b4 k
    obtain ⟨h, hv⟩ := has_br hv
    have hv := has_ret hv
    subst hv
    simp only [Bool.and_eq_true, validF_iff] at h
    obtain ⟨hA, hB⟩ := h
    obtain ⟨p1, p2, p3, p4, p5, -⟩ := hA
    obtain ⟨q1, q2, q3, q4, q5, -⟩ := hB
    simp only at p1 p2 p3 p4 p5 q1 q2 q3 q4 q5
    refine (div_ev a0 a1 a2 a3 a4 b0 b1 b2 b3 b4 k).trans ?_
    have d0 := tdiv_range a0 b0 ⟨by omega, by omega⟩
    have d1 := tdiv_range a1 b0 ⟨by omega, by omega⟩
    have e1 : IntKind.i64.wrap (a0.tdiv b0) = a0.tdiv b0 := wrap_of (by omega) (by omega)
    have e2 : IntKind.i64.wrap (a1.tdiv b0) = a1.tdiv b0 := wrap_of (by omega) (by omega)
    have e3 : okV a0 = true := okV_iff.2 (by omega)
    have e4 : okV a1 = true := okV_iff.2 (by omega)
    have e5 : IntKind.i64.wrap (0 - max (absI a0) (absI a1)) = - max (absI a0) (absI a1) := by rw [wrap_of (by unfold absI; omega) (by unfold absI; omega)]; omega
    have e6 : valB 0 = true := by decide
    have f1 := div_fin (x := min (a0.tdiv b0) (a1.tdiv b0)) (y := max (a0.tdiv b0) (a1.tdiv b0)) k (by omega)
    have f2 := div_fin (x := - max (absI a0) (absI a1)) (y := max (absI a0) (absI a1)) k (by unfold absI; omega)
    simp only [beq_int, bne_int, mnI_eq, mxI_eq, e1, e2, e3, e4, e5, cond_true, f1, f2]
    by_cases c1 : stepF ⟨b0, b1, b2, b3, b4⟩ = 0
    · by_cases c2 : b0 = 0
      · subst c2
        by_cases c3 : a0 < 0
        · simp [c1, c3, divF, divLo, divHi]
        · have f3 := div_fin (x := 0) (y := a1) k (by omega)
          rw [e6] at f3
          simp only [Bool.not_true, cond_false] at f3
          simp [c1, c3, divF, divLo, divHi, f3, e6]
      · simp [c1, c2, divF, divLo, divHi]
    · by_cases c3 : a0 < 0
      · simp [c1, c3, divF, divLo, divHi]
      · by_cases c4 : b0 < 0
        · simp [c1, c3, c4, divF, divLo, divHi]
        · have f3 := div_fin (x := 0) (y := a1) k (by omega)
          rw [e6] at f3
          simp only [Bool.not_true, cond_false] at f3
          simp [c1, c3, c4, divF, divLo, divHi, f3, e6]
  · exact hv.elim
theorem ok_rem : FnOk Itp Try.prog 77 spRem := fnOk S4 hm Try.func77 spRem fun args v hv => by
  unfold spRem at hv
  split at hv
  · rename_i a0 a1 a2 a3 a4 b0 b1 b2 b3 b4 k
    obtain ⟨h, hv⟩ := has_br hv
    have hv := has_ret hv
    subst hv
    simp only [Bool.and_eq_true, validF_iff] at h
    obtain ⟨hA, hB⟩ := h
    have sA := step_range hA
    have zA := step_zero hA
    obtain ⟨p1, p2, p3, p4, p5, -⟩ := hA
    obtain ⟨q1, q2, q3, q4, q5, -⟩ := hB
    simp only at p1 p2 p3 p4 p5 q1 q2 q3 q4 q5 zA
    refine (rem_ev a0 a1 a2 a3 a4 b0 b1 b2 b3 b4 k).trans ?_
    have e1 : okV b0 = true := okV_iff.2 (by omega)
    have hn : 0 ≤ absI b0 ∧ absI b0 ≤ 2147483648 := by unfold absI; omega
    have hs : stepF ⟨a0, a1, a2, a3, k⟩ = stepF ⟨a0, a1, a2, a3, a4⟩ := rfl
    simp only [hs, beq_int, bne_int, mnI_eq, mxI_eq, e1, cond_true]
    generalize hsA : stepF ⟨a0, a1, a2, a3, a4⟩ = s at *
    generalize hnn : absI b0 = n at *
    by_cases c1 : stepF ⟨b0, b1, b2, b3, b4⟩ = 0
    · by_cases c2 : n = 0
      · simp [c1, c2, remF, hnn, encA]
      · by_cases c3 : 0 ≤ a0 ∧ a1 < n
        · simp [c1, c2, c3.1, c3.2, remF, hnn, encA]
        · have hg0 := gcdL_nonneg s [n]
          have hg1 : gcdL s [n] ≠ 0 := fun h0 => by have := (gcdL_zero h0).2 n (by simp); omega
          have hg2 : gcdL s [n] ≤ n := Int.le_of_dvd (by omega) ((gcdL_self (a := s) (l := [n])).2 n (by simp))
          have e2 : IntKind.i64.wrap (1 - n) = 1 - n := wrap_of (by omega) (by omega)
          have e3 : IntKind.i64.wrap (n - 1) = n - 1 := wrap_of (by omega) (by omega)
          have e4 : okV s = true := okV_iff.2 (by omega)
          have e5 : okL [n] = true := okL_one (okV_iff.2 (by omega))
          have hr0 := fun x : Int => Int.emod_nonneg x hg1
          have hr1 := fun x : Int => Int.emod_lt_of_pos x (show 0 < gcdL s [n] by omega)
          have r0 := hr0 (a0 - max (min a0 0) (1 - n))
          have r1 := hr1 (a0 - max (min a0 0) (1 - n))
          have hfit : max (min a0 0) (1 - n) + (a0 - max (min a0 0) (1 - n)) % gcdL s [n] ≤ min (max a1 0) (n - 1) := by
            by_cases c4 : 0 ≤ a0
            · have : max (min a0 0) (1 - n) = 0 := by omega
              rw [this] at r0 r1 ⊢; omega
            · by_cases c5 : a0 < 1 - n
              · have : max (min a0 0) (1 - n) = 1 - n := by omega
                rw [this] at r0 r1 ⊢; omega
              · have : max (min a0 0) (1 - n) = a0 := by omega
                rw [this, Int.sub_self, Int.zero_emod]; omega
          have e6 : okLike a0 (gcdL s [n]) (max (min a0 0) (1 - n)) (min (max a1 0) (n - 1)) = true := okLike_iff.2 ⟨by omega, by omega, by omega, by omega, by omega, hfit⟩
          have e7 : remF ⟨a0, a1, a2, a3, a4⟩ ⟨b0, b1, b2, b3, b4⟩ k = likeF a0 (gcdL s [n]) (max (min a0 0) (1 - n)) (min (max a1 0) (n - 1)) k := by
            unfold remF
            simp only [c1, hnn, hsA, ne_eq, not_true, if_false, c2, c3, or_self]
          rw [e7]
          simp only [e2, e3, e4, e5, e6, c1, c2, decide_true, decide_false, Bool.not_true, cond_false, Bool.and_self, cond_true]
          by_cases c4 : 0 ≤ a0
          · have c6 : ¬ a1 < n := fun h => c3 ⟨c4, h⟩
            simp [c4, c6]
          · simp [c4]
    · have e2 : okBy (min a0 0) (max a1 0) 1 = true := okBy_iff.2 ⟨by omega, by omega, by omega, by omega, by omega, by omega⟩
      simp [c1, remF, e2]
  · exact hv.elim
theorem ok_lesser : FnOk Itp Try.prog 78 spLesser := fnOk S4 hm Try.func78 spLesser fun args v hv => by
  unfold spLesser at hv
  split at hv
  · rename_i a0 a1 a2 a3 a4 b0 b1 b2 b3 b4 k
    obtain ⟨h, hv⟩ := has_br hv
    have hv := has_ret hv
    subst hv
    have h' := h
    simp only [Bool.and_eq_true, validF_iff] at h'
    obtain ⟨hA, hB⟩ := h'
    have hr := apart_range hA hB
    have hz := apart_zero hA hB
    obtain ⟨p1, p2, p3, p4, p5, -⟩ := hA
    obtain ⟨q1, q2, q3, q4, q5, -⟩ := hB
    simp only at p1 p2 p3 p4 p5 q1 q2 q3 q4 q5
    refine (lesser_ev a0 a1 a2 a3 a4 b0 b1 b2 b3 b4 k).trans ?_
    rw [h, mnI_eq, mnI_eq, show okBy (min a0 b0) (min a1 b1) (apartF ⟨a0, a1, a2, a3, a4⟩ ⟨b0, b1, b2, b3, b4⟩) = true from okBy_iff.2 ⟨by omega, by omega, by omega, by omega, by omega, fun h0 => by have := hz h0; simp only at this; omega⟩]
    rfl
  · exact hv.elim
theorem ok_greater : FnOk Itp Try.prog 79 spGreater := fnOk S4 hm Try.func79 spGreater fun args v hv => by
  unfold spGreater at hv
  split at hv
  · rename_i a0 a1 a2 a3 a4 b0 b1 b2 b3 b4 k
    obtain ⟨h, hv⟩ := has_br hv
    have hv := has_ret hv
    subst hv
    have h' := h
    simp only [Bool.and_eq_true, validF_iff] at h'
    obtain ⟨hA, hB⟩ := h'
    have hr := apart_range hA hB
    have hz := apart_zero hA hB
    obtain ⟨p1, p2, p3, p4, p5, -⟩ := hA
    obtain ⟨q1, q2, q3, q4, q5, -⟩ := hB
    simp only at p1 p2 p3 p4 p5 q1 q2 q3 q4 q5
    refine (greater_ev a0 a1 a2 a3 a4 b0 b1 b2 b3 b4 k).trans ?_
    rw [h, mxI_eq, mxI_eq, show okBy (max a0 b0) (max a1 b1) (apartF ⟨a0, a1, a2, a3, a4⟩ ⟨b0, b1, b2, b3, b4⟩) = true from okBy_iff.2 ⟨by omega, by omega, by omega, by omega, by omega, fun h0 => by have := hz h0; simp only at this; omega⟩]
    rfl
  · exact hv.elim
end Go.Proofs.Ytamfgbenceoleaa.Span
/-! The contract of Op. -/
namespace Go.Proofs.Ytamfgbenceoleaa.Span
set_option linter.unusedVariables false
set_option linter.unusedSimpArgs false
set_option linter.unusedSectionVars false
set_option linter.unnecessarySimpa false
open Go.Proofs.Ytamfgbenceoleaa.Ev Go.RowKit
set_option maxRecDepth 100000
theorem S5 : SpecOk Itp Try.prog (fromList L5) :=
  specOk_cons (en _ _ Try.func73) ok_add <| specOk_cons (en _ _ Try.func74) ok_sub <| specOk_cons (en _ _ Try.func75) ok_mul <| specOk_cons (en _ _ Try.func76) ok_div <|
  specOk_cons (en _ _ Try.func77) ok_rem <| specOk_cons (en _ _ Try.func78) ok_lesser <| specOk_cons (en _ _ Try.func79) ok_greater S4
theorem op_ev (op a0 a1 a2 a3 a4 b0 b1 b2 b3 b4 : Int) : evFn Itp Try.prog (fromList L5) (fun _ => []) noLoops Try.f13 [iA op, .agg [.int .i64 a0, .int .i64 a1, .int .i64 a2, .int .i64 a3, .int .i64 a4], .agg [.int .i64 b0, .int .i64 b1, .int .i64 b2, .int .i64 b3, .int .i64 b4]] some =
    bif stepF { lo := a0, hi := a1, m := a2, r := a3, mask := a4 } == 0 then bif stepF { lo := b0, hi := b1, m := b2, r := b3, mask := b4 } == 0 then bif okN (opG op a0 b0) then some (encA (ofF (opG op a0 b0) (bitI BinOp.or IntKind.i64 a4 b4))) else none else bif decide (op < 4) then bif okN (opG op a0 b0) then some (encA (ofF (opG op a0 b0) (bitI BinOp.or IntKind.i64 a4 b4))) else none else bif decide (op > 10) then bif okN (opG op a0 b0) then some (encA (ofF (opG op a0 b0) (bitI BinOp.or IntKind.i64 a4 b4))) else none else bif decide (IntKind.i64.wrap (op - 4) = 0) then bif validF { lo := a0, hi := a1, m := a2, r := a3, mask := a4 } && validF { lo := b0, hi := b1, m := b2, r := b3, mask := b4 } then some (encA (addF { lo := a0, hi := a1, m := a2, r := a3, mask := a4 } { lo := b0, hi := b1, m := b2, r := b3, mask := b4 } (bitI BinOp.or IntKind.i64 a4 b4))) else none else bif decide (IntKind.i64.wrap (op - 4) = 1) then bif validF { lo := a0, hi := a1, m := a2, r := a3, mask := a4 } && validF { lo := b0, hi := b1, m := b2, r := b3, mask := b4 } then some (encA (subF { lo := a0, hi := a1, m := a2, r := a3, mask := a4 } { lo := b0, hi := b1, m := b2, r := b3, mask := b4 } (bitI BinOp.or IntKind.i64 a4 b4))) else none else bif decide (IntKind.i64.wrap (op - 4) = 2) then bif validF { lo := a0, hi := a1, m := a2, r := a3, mask := a4 } && (validF { lo := b0, hi := b1, m := b2, r := b3, mask := b4 } && okMul { lo := a0, hi := a1, m := a2, r := a3, mask := a4 } { lo := b0, hi := b1, m := b2, r := b3, mask := b4 }) then some (encA (mulF { lo := a0, hi := a1, m := a2, r := a3, mask := a4 } { lo := b0, hi := b1, m := b2, r := b3, mask := b4 } (bitI BinOp.or IntKind.i64 a4 b4))) else none else bif decide (IntKind.i64.wrap (op - 4) = 3) then bif validF { lo := a0, hi := a1, m := a2, r := a3, mask := a4 } && validF { lo := b0, hi := b1, m := b2, r := b3, mask := b4 } then some (encA (divF { lo := a0, hi := a1, m := a2, r := a3, mask := a4 } { lo := b0, hi := b1, m := b2, r := b3, mask := b4 } (bitI BinOp.or IntKind.i64 a4 b4))) else none else bif decide (IntKind.i64.wrap (op - 4) = 4) then bif validF { lo := a0, hi := a1, m := a2, r := a3, mask := a4 } && validF { lo := b0, hi := b1, m := b2, r := b3, mask := b4 } then some (encA (remF { lo := a0, hi := a1, m := a2, r := a3, mask := a4 } { lo := b0, hi := b1, m := b2, r := b3, mask := b4 } (bitI BinOp.or IntKind.i64 a4 b4))) else none else bif decide (IntKind.i64.wrap (op - 4) = 5) then bif validF { lo := a0, hi := a1, m := a2, r := a3, mask := a4 } && validF { lo := b0, hi := b1, m := b2, r := b3, mask := b4 } then some (encA (lesserF { lo := a0, hi := a1, m := a2, r := a3, mask := a4 } { lo := b0, hi := b1, m := b2, r := b3, mask := b4 } (bitI BinOp.or IntKind.i64 a4 b4))) else none else bif decide (IntKind.i64.wrap (op - 4) = 6) then bif validF { lo := a0, hi := a1, m := a2, r := a3, mask := a4 } && validF { lo := b0, hi := b1, m := b2, r := b3, mask := b4 } then some (encA (greaterF { lo := a0, hi := a1, m := a2, r := a3, mask := a4 } { lo := b0, hi := b1, m := b2, r := b3, mask := b4 } (bitI BinOp.or IntKind.i64 a4 b4))) else none else none else bif decide (op < 4) then bif okN (opG op a0 b0) then some (encA (ofF (opG op a0 b0) (bitI BinOp.or IntKind.i64 a4 b4))) else none else bif decide (op > 10) then bif okN (opG op a0 b0) then some (encA (ofF (opG op a0 b0) (bitI BinOp.or IntKind.i64 a4 b4))) else none else bif decide (IntKind.i64.wrap (op - 4) = 0) then bif validF { lo := a0, hi := a1, m := a2, r := a3, mask := a4 } && validF { lo := b0, hi := b1, m := b2, r := b3, mask := b4 } then some (encA (addF { lo := a0, hi := a1, m := a2, r := a3, mask := a4 } { lo := b0, hi := b1, m := b2, r := b3, mask := b4 } (bitI BinOp.or IntKind.i64 a4 b4))) else none else bif decide (IntKind.i64.wrap (op - 4) = 1) then bif validF { lo := a0, hi := a1, m := a2, r := a3, mask := a4 } && validF { lo := b0, hi := b1, m := b2, r := b3, mask := b4 } then some (encA (subF { lo := a0, hi := a1, m := a2, r := a3, mask := a4 } { lo := b0, hi := b1, m := b2, r := b3, mask := b4 } (bitI BinOp.or IntKind.i64 a4 b4))) else none else bif decide (IntKind.i64.wrap (op - 4) = 2) then bif validF { lo := a0, hi := a1, m := a2, r := a3, mask := a4 } && (validF { lo := b0, hi := b1, m := b2, r := b3, mask := b4 } && okMul { lo := a0, hi := a1, m := a2, r := a3, mask := a4 } { lo := b0, hi := b1, m := b2, r := b3, mask := b4 }) then some (encA (mulF { lo := a0, hi := a1, m := a2, r := a3, mask := a4 } { lo := b0, hi := b1, m := b2, r := b3, mask := b4 } (bitI BinOp.or IntKind.i64 a4 b4))) else none else bif decide (IntKind.i64.wrap (op - 4) = 3) then bif validF { lo := a0, hi := a1, m := a2, r := a3, mask := a4 } && validF { lo := b0, hi := b1, m := b2, r := b3, mask := b4 } then some (encA (divF { lo := a0, hi := a1, m := a2, r := a3, mask := a4 } { lo := b0, hi := b1, m := b2, r := b3, mask := b4 } (bitI BinOp.or IntKind.i64 a4 b4))) else none else bif decide (IntKind.i64.wrap (op - 4) = 4) then bif validF { lo := a0, hi := a1, m := a2, r := a3, mask := a4 } && validF { lo := b0, hi := b1, m := b2, r := b3, mask := b4 } then some (encA (remF { lo := a0, hi := a1, m := a2, r := a3, mask := a4 } { lo := b0, hi := b1, m := b2, r := b3, mask := b4 } (bitI BinOp.or IntKind.i64 a4 b4))) else none else bif decide (IntKind.i64.wrap (op - 4) = 5) then bif validF { lo := a0, hi := a1, m := a2, r := a3, mask := a4 } && validF { lo := b0, hi := b1, m := b2, r := b3, mask := b4 } then some (encA (lesserF { lo := a0, hi := a1, m := a2, r := a3, mask := a4 } { lo := b0, hi := b1, m := b2, r := b3, mask := b4 } (bitI BinOp.or IntKind.i64 a4 b4))) else none else bif decide (IntKind.i64.wrap (op - 4) = 6) then bif validF { lo := a0, hi := a1, m := a2, r := a3, mask := a4 } && validF { lo := b0, hi := b1, m := b2, r := b3, mask := b4 } then some (encA (greaterF { lo := a0, hi := a1, m := a2, r := a3, mask := a4 } { lo := b0, hi := b1, m := b2, r := b3, mask := b4 } (bitI BinOp.or IntKind.i64 a4 b4))) else none else none := by
  kernel_rfl
theorem ok_sop : FnOk Itp Try.prog 13 spSOp := fnOk S5 hm Try.func13 spSOp fun args v hv => by
  unfold spSOp at hv
  split at hv
  · rename_i op a0 a1 a2 a3 a4 b0 b1 b2 b3 b4
    obtain ⟨h, hv⟩ := has_br hv
    have hv := has_ret hv
    subst hv
    simp only [okOp, Bool.and_eq_true, Bool.or_eq_true, decide_eq_true_eq] at h
    obtain ⟨hA, hB, hM⟩ := h
    have pA := validF_iff.1 hA
    have pB := validF_iff.1 hB
    have e1 : bitI .or .i64 a4 b4 = orM a4 b4 := bitI_or pA.2.2.2.1 pA.2.2.2.2.1 pB.2.2.2.1 pB.2.2.2.2.1
    have hw : -2147483648 ≤ opG op a0 b0 ∧ opG op a0 b0 ≤ 2147483647 := w32_range _
    have e2 : okN (opG op a0 b0) = true := okN_iff.2 (by omega)
    refine (op_ev op a0 a1 a2 a3 a4 b0 b1 b2 b3 b4).trans ?_
    simp only [e1, e2, hA, hB, beq_int, Bool.and_self, Bool.true_and, cond_true]
    by_cases c0 : op < 4 ∨ 10 < op
    · have e3 : opA op ⟨a0, a1, a2, a3, a4⟩ ⟨b0, b1, b2, b3, b4⟩ = ofF (opG op a0 b0) (orM a4 b4) := if_pos (.inr c0)
      rw [e3]
      by_cases c1 : op < 4
      · simp [c1]
      · have c2 : op > 10 := by omega
        simp [c2]
    · by_cases c1 : stepF ⟨a0, a1, a2, a3, a4⟩ = 0 ∧ stepF ⟨b0, b1, b2, b3, b4⟩ = 0
      · have e3 : opA op ⟨a0, a1, a2, a3, a4⟩ ⟨b0, b1, b2, b3, b4⟩ = ofF (opG op a0 b0) (orM a4 b4) := if_pos (.inl c1)
        rw [e3]
        simp [c1.1, c1.2]
      · have e3 : ∀ x y z : Option V, (bif decide (stepF ⟨a0, a1, a2, a3, a4⟩ = 0) then (bif decide (stepF ⟨b0, b1, b2, b3, b4⟩ = 0) then x else y) else y) = y := by
          intro x y z
          by_cases c2 : stepF ⟨a0, a1, a2, a3, a4⟩ = 0
          · have c3 : ¬ stepF ⟨b0, b1, b2, b3, b4⟩ = 0 := fun h => c1 ⟨c2, h⟩
            simp [c2, c3]
          · simp [c2]
        rw [e3 _ _ none]
        have e4 : opA op ⟨a0, a1, a2, a3, a4⟩ ⟨b0, b1, b2, b3, b4⟩ = if op = 4 then addF ⟨a0, a1, a2, a3, a4⟩ ⟨b0, b1, b2, b3, b4⟩ (orM a4 b4) else if op = 5 then subF ⟨a0, a1, a2, a3, a4⟩ ⟨b0, b1, b2, b3, b4⟩ (orM a4 b4) else if op = 6 then mulF ⟨a0, a1, a2, a3, a4⟩ ⟨b0, b1, b2, b3, b4⟩ (orM a4 b4)
            else if op = 7 then divF ⟨a0, a1, a2, a3, a4⟩ ⟨b0, b1, b2, b3, b4⟩ (orM a4 b4) else if op = 8 then remF ⟨a0, a1, a2, a3, a4⟩ ⟨b0, b1, b2, b3, b4⟩ (orM a4 b4) else if op = 9 then lesserF ⟨a0, a1, a2, a3, a4⟩ ⟨b0, b1, b2, b3, b4⟩ (orM a4 b4) else greaterF ⟨a0, a1, a2, a3, a4⟩ ⟨b0, b1, b2, b3, b4⟩ (orM a4 b4) := if_neg (by rintro (h | h); exact c1 h; exact c0 h)
        rw [e4]
        have e5 : IntKind.i64.wrap (op - 4) = op - 4 := wrap_of (by omega) (by omega)
        rw [e5]
        rcases (show op = 4 ∨ op = 5 ∨ op = 6 ∨ op = 7 ∨ op = 8 ∨ op = 9 ∨ op = 10 by omega) with rfl | rfl | rfl | rfl | rfl | rfl | rfl
        · rfl
        · rfl
        · have hM' : okMul ⟨a0, a1, a2, a3, a4⟩ ⟨b0, b1, b2, b3, b4⟩ = true := by
            rcases hM with h | h
            · exact absurd rfl h
            · exact h
          rw [hM']; rfl
        · rfl
        · rfl
        · rfl
        · rfl
  · exact hv.elim
theorem S6 : SpecOk Itp Try.prog (fromList L6) := specOk_cons (en _ _ Try.func13) ok_sop S5
end Go.Proofs.Ytamfgbenceoleaa.Span
/-! The examples of the laws of package span. -/
namespace Go.Proofs.Ytamfgbenceoleaa.Span
set_option linter.unusedVariables false
set_option linter.unusedSimpArgs false
set_option linter.unusedSectionVars false
set_option linter.unnecessarySimpa false
open Go.Proofs.Ytamfgbenceoleaa.Ev Go.RowKit
set_option maxRecDepth 100000
theorem set_ev (lo hi m : Int) : evFn Itp Try.prog (fromList L6) (fun _ => []) noLoops Try.f39 [iA lo, iA hi, iA m] some =
    bif lo == hi then some (AV.agg [AV.int IntKind.i64 lo, AV.int IntKind.i64 lo, AV.int IntKind.i64 1, AV.int IntKind.i64 0, AV.int IntKind.i64 0]) else bif !decide (m = 0) then bif !decide (m = 0) then some (AV.agg [AV.int IntKind.i64 lo, AV.int IntKind.i64 hi, AV.int IntKind.i64 m, AV.int IntKind.i64 ((IntKind.i64.wrap (lo.tmod m + m)).tmod m), AV.int IntKind.i64 0]) else none else none := by
  kernel_rfl
theorem ok_set : FnOk Itp Try.prog 39 spSet := fnOk S6 hm Try.func39 spSet fun args v hv => by
  unfold spSet at hv
  split at hv
  · rename_i lo hi m
    obtain ⟨h, hv⟩ := has_br hv
    have hv := has_ret hv
    subst hv
    obtain ⟨h1, h2⟩ := okMod_iff.1 h
    have ht := tmod_lt lo m h1
    refine (set_ev lo hi m).trans ?_
    rw [wrap_of (by omega) (by omega), mod_go lo m h1]
    simp only [beq_int, setF, show ¬ m = 0 by omega, decide_false, Bool.not_false, cond_true]
    by_cases c : lo = hi
    · simp [c, encA]
    · simp [c, encA]
  · exact hv.elim
theorem S7 : SpecOk Itp Try.prog (fromList L7) := specOk_cons (en _ _ Try.func39) ok_set S6
theorem one_ev (v : Int) : evFn Itp Try.prog (fromList L7) (fun _ => []) noLoops Try.f38 [iA v] some =
    some (encA (setF v v 1)) := by
  kernel_rfl
theorem ok_one : FnOk Itp Try.prog 38 spOne := fnOk S7 hm Try.func38 spOne fun args v hv => by
  unfold spOne at hv
  split at hv
  · rename_i v
    have hv := has_ret hv
    subst hv
    exact one_ev v
  · exact hv.elim
theorem S8 : SpecOk Itp Try.prog (fromList L8) := specOk_cons (en _ _ Try.func38) ok_one S7
theorem ex_ev  : evFn Itp Try.prog (fromList L8) (fun _ => []) noLoops Try.f9 [] some =
    some (AV.bool true) := by
  kernel_rfl
theorem ok_ex : FnOk Itp Try.prog 9 spTrue := fnOk S8 hm Try.func9 spTrue fun args v hv => by
  unfold spTrue at hv
  split at hv
  · have hv := has_ret hv
    subst hv
    exact ex_ev
  · exact hv.elim
theorem S9 : SpecOk Itp Try.prog (fromList L9) := specOk_cons (en _ _ Try.func9) ok_ex S8
end Go.Proofs.Ytamfgbenceoleaa.Span
