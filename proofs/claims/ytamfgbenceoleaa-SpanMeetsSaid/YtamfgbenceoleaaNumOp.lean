import Derived.Test.YtamfgbenceoleaaEv15
import Derived.Test.YtamfgbenceoleaaProg
import Derived.Below
import Derived.Deep.Draws
import Derived.Deep.AppendLies
import Derived.Maps.AppendAt
import Derived.OwnWalk
import Derived.Laws.BytesArg
import Derived.Laws.MakeOwn
import Derived.Laws.OwnMore
import Derived.Deep.OwnRows
import Derived.Tactics
import Derived.Lib.ConvBytes
import Derived.Laws.Slices
import Derived.WalkKit
import Derived.KernelRfl
import Derived.RowKit3
import Derived.Deep.LoopGhost
import Derived.Deep.QuietTactic
import Derived.BigQuiet
import Derived.WideLaws
import Derived.Deep.DeepCutAuto
import Derived.Deep.CutBlock
import Derived.Deep.RegionHeld3
import Derived.Laws.Rows
import Derived.WideMake
import Derived.Laws.Entries
namespace Go.Proofs.Ytamfgbenceoleaa.NumOp
set_option linter.unusedVariables false
set_option linter.unusedSimpArgs false
set_option linter.unusedSectionVars false
set_option linter.unnecessarySimpa false
open Go.RowKit Go.Proofs.Ytamfgbenceoleaa
structure Aside0 (p : Prop) : Prop where mk :: (out : p)
theorem set_push_size (xs : Array Obj) (a b : Obj) : (xs.push a).setIfInBounds xs.size b = xs.push b := by
  apply Array.ext
  · simp
  · intro i h1 h2
    by_cases h : i = xs.size
    · subst h; rw [Array.getElem_setIfInBounds_self, Array.getElem_push_eq]
    · have h3 : i < xs.size := by simp at h2; omega
      rw [Array.getElem_setIfInBounds_ne (by simp; omega) (Ne.symm h), Array.getElem_push_lt h3, Array.getElem_push_lt h3]
theorem upd_alloc {P : Program} (w : World) (mty kt et : TypeId) (es : Array MapEntry) (c : Nat) (k : Int) (val : Value) (hm : P.underlying mty = some (.map kt et)) (hk : P.underlying kt = some (.int .i64)) (hf : Instr.findNow (.int .i64) (.int .i64 k) es.toList 0 = some none) :
    (Instr.mapUpdate mty (.map (some w.heap.size)) (.int .i64 k) val).run P (w.alloc (.map es c)) = .ok () (w.alloc (.map (es.push ⟨.int .i64 k, val, c⟩) (c + 1))) := by
  have hb : (w.alloc (.map es c)).heap[w.heap.size]? = some (.map es c) := by unfold World.alloc; simp
  have hc : (Instr.checkKey false 10000 kt (.int .i64 k)).run P (w.alloc (.map es c)) = .ok () (w.alloc (.map es c)) := MapKept.run_checkKey (k := .int .i64 k) hk (by simp [MapKept.IsKey]) false 9999
  simp [Instr.mapUpdate, run_underlying hm, MapKept.run_getObj_map hb, hc, MapKept.run_findKey hk hf, MapKept.run_setObj_map _ hb, Result.andThen]
  unfold World.alloc; simp only [set_push_size]
theorem look_hit {P : Program} (w : World) (mty kt et : TypeId) (r : Nat) (es : Array MapEntry) (c : Nat) (k : Int) (i : Nat) (val : Value) (hm : P.underlying mty = some (.map kt et)) (hk : P.underlying kt = some (.int .i64)) (hb : w.heap[r]? = some (.map es c)) (hf : Instr.findNow (.int .i64) (.int .i64 k) es.toList 0 = some (some (i, val))) :
    (Instr.lookup mty (.map (some r)) (.int .i64 k) true).run P w = .ok (.tuple #[val, .bool true]) w := by
  have hc : ∀ b, (Instr.checkKey b 10000 kt (.int .i64 k)).run P w = .ok () w := fun b => MapKept.run_checkKey (k := .int .i64 k) hk (by simp [MapKept.IsKey]) b 9999
  simp [Instr.lookup, run_underlying hm, MapKept.run_getObj_map hb, hc, MapKept.run_findKey hk hf, Result.andThen]
theorem look_miss {P : Program} (w : World) (mty kt et : TypeId) (r : Nat) (es : Array MapEntry) (c : Nat) (k : Int) (z : Value) (hm : P.underlying mty = some (.map kt et)) (hk : P.underlying kt = some (.int .i64)) (hz : (zeroValue et).run P w = .ok z w) (hb : w.heap[r]? = some (.map es c)) (hf : Instr.findNow (.int .i64) (.int .i64 k) es.toList 0 = some none) :
    (Instr.lookup mty (.map (some r)) (.int .i64 k) true).run P w = .ok (.tuple #[z, .bool false]) w := by
  have hc : ∀ b, (Instr.checkKey b 10000 kt (.int .i64 k)).run P w = .ok () w := fun b => MapKept.run_checkKey (k := .int .i64 k) hk (by simp [MapKept.IsKey]) b 9999
  simp [Instr.lookup, run_underlying hm, MapKept.run_getObj_map hb, hc, hz, MapKept.run_findKey hk hf, Result.andThen]

/-- The seven operators, as the map of functions has them. -/
def opsMap : Array MapEntry := #[⟨.int .i64 4, .func (.func 81) #[] #[], 0⟩, ⟨.int .i64 5, .func (.func 82) #[] #[], 1⟩, ⟨.int .i64 6, .func (.func 83) #[] #[], 2⟩, ⟨.int .i64 7, .func (.func 84) #[] #[], 3⟩, ⟨.int .i64 8, .func (.func 85) #[] #[], 4⟩, ⟨.int .i64 9, .func (.func 86) #[] #[], 5⟩, ⟨.int .i64 10, .func (.func 87) #[] #[], 6⟩]
def opsUpto (n : Nat) : Array MapEntry := (opsMap.toList.take n).toArray
set_option maxHeartbeats 400000 in
set_option maxRecDepth 100000 in
theorem num_operators_calls (w : World) :
    Calls Try.prog 46 #[] w fun e w' => e = .returned (.map (some w.heap.size)) ∧ w' = w.alloc (.map opsMap 7) := by
  have hmm := @run_makeMap_plain Try.prog w 77
  have u0 : ∀ w : World, (Instr.mapUpdate 77 (.map (some w.heap.size)) (.int .i64 4) (.func (.func 81) #[] #[])).run Try.prog (w.alloc (.map #[] 0)) = .ok () (w.alloc (.map (opsUpto 1) 1)) := fun w => upd_alloc w _ _ _ _ _ _ _ Try.underlying77 Try.underlying3 rfl
  have u1 : ∀ w : World, (Instr.mapUpdate 77 (.map (some w.heap.size)) (.int .i64 5) (.func (.func 82) #[] #[])).run Try.prog (w.alloc (.map (opsUpto 1) 1)) = .ok () (w.alloc (.map (opsUpto 2) 2)) := fun w => upd_alloc w _ _ _ _ _ _ _ Try.underlying77 Try.underlying3 rfl
  have u2 : ∀ w : World, (Instr.mapUpdate 77 (.map (some w.heap.size)) (.int .i64 6) (.func (.func 83) #[] #[])).run Try.prog (w.alloc (.map (opsUpto 2) 2)) = .ok () (w.alloc (.map (opsUpto 3) 3)) := fun w => upd_alloc w _ _ _ _ _ _ _ Try.underlying77 Try.underlying3 rfl
  have u3 : ∀ w : World, (Instr.mapUpdate 77 (.map (some w.heap.size)) (.int .i64 7) (.func (.func 84) #[] #[])).run Try.prog (w.alloc (.map (opsUpto 3) 3)) = .ok () (w.alloc (.map (opsUpto 4) 4)) := fun w => upd_alloc w _ _ _ _ _ _ _ Try.underlying77 Try.underlying3 rfl
  have u4 : ∀ w : World, (Instr.mapUpdate 77 (.map (some w.heap.size)) (.int .i64 8) (.func (.func 85) #[] #[])).run Try.prog (w.alloc (.map (opsUpto 4) 4)) = .ok () (w.alloc (.map (opsUpto 5) 5)) := fun w => upd_alloc w _ _ _ _ _ _ _ Try.underlying77 Try.underlying3 rfl
  have u5 : ∀ w : World, (Instr.mapUpdate 77 (.map (some w.heap.size)) (.int .i64 9) (.func (.func 86) #[] #[])).run Try.prog (w.alloc (.map (opsUpto 5) 5)) = .ok () (w.alloc (.map (opsUpto 6) 6)) := fun w => upd_alloc w _ _ _ _ _ _ _ Try.underlying77 Try.underlying3 rfl
  have u6 : ∀ w : World, (Instr.mapUpdate 77 (.map (some w.heap.size)) (.int .i64 10) (.func (.func 87) #[] #[])).run Try.prog (w.alloc (.map (opsUpto 6) 6)) = .ok () (w.alloc (.map opsMap 7)) := fun w => upd_alloc w _ _ _ _ _ _ _ Try.underlying77 Try.underlying3 rfl
  go_enter Try.func46, Try.ntmps46
  go_wp2
  go_ret
  exact ⟨rfl, rfl⟩
theorem opsMap_miss (k : Int) (h : k < 4 ∨ 10 < k) : Instr.findNow (.int .i64) (.int .i64 k) opsMap.toList 0 = some none := by
  have h4 : (k == 4) = false := beq_eq_false_iff_ne.mpr (by omega)
  have h5 : (k == 5) = false := beq_eq_false_iff_ne.mpr (by omega)
  have h6 : (k == 6) = false := beq_eq_false_iff_ne.mpr (by omega)
  have h7 : (k == 7) = false := beq_eq_false_iff_ne.mpr (by omega)
  have h8 : (k == 8) = false := beq_eq_false_iff_ne.mpr (by omega)
  have h9 : (k == 9) = false := beq_eq_false_iff_ne.mpr (by omega)
  have h10 : (k == 10) = false := beq_eq_false_iff_ne.mpr (by omega)
  simp [opsMap, Instr.findNow, Instr.sameNow, h4, h5, h6, h7, h8, h9, h10]
/-- What the operators give, before it is wrapped. -/
def opI (op x y : Int) : Int := if op = 4 then x + y else if op = 5 then x - y else if op = 6 then x * y else if op = 7 then (if y = 0 then 0 else Int.tdiv x y) else if op = 8 then (if y = 0 then x else Int.tmod x y) else if op = 9 then (if y < x then y else x) else if op = 10 then (if x < y then y else x) else 0
def num_Op.f (a0 : Int) (a1 : Int) (a2 : Int) : Option (Int) := some (wrap32 (opI a0 (wrap32 a1) (wrap32 a2)))
theorem wrap32_range (x : Int) : -2147483648 ≤ wrap32 x ∧ wrap32 x ≤ 2147483647 := by unfold wrap32; omega
theorem wrap32_of (x : Int) (h0 : -2147483648 ≤ x) (h1 : x ≤ 2147483647) : wrap32 x = x := by unfold wrap32; omega
theorem num_Wrap_same (x : Int) (w : World) : Calls Try.prog 47 #[.int .i64 x] w fun e w' => e = .returned (.int .i64 (wrap32 x)) ∧ w = w' := by
  have hr := wrap32_range x
  go_enter Try.func47, Try.ntmps47
  go_wp2
  go_ret
  exact ⟨by first | rfl | (congr 2; unfold wrap64; omega), rfl⟩
set_option maxHeartbeats 400000 in
set_option maxRecDepth 100000 in
theorem num_Op_miss (a0 a1 a2 : Int) (w : World) (h : a0 < 4 ∨ 10 < a0) :
    Calls Try.prog 15 #[.int .i64 a0, .int .i64 a1, .int .i64 a2] w fun e w' => e = .returned (.int .i64 0) ∧ Below w.heap.size w w' := by
  have hl : (Instr.lookup 77 (.map (some w.heap.size)) (.int .i64 a0) true).run Try.prog (w.alloc (.map opsMap 7)) = .ok (.tuple #[.nilFunc, .bool false]) (w.alloc (.map opsMap 7)) :=
    look_miss _ _ _ _ _ opsMap 7 _ _ Try.underlying77 Try.underlying3 (by kernel_rfl) (by unfold World.alloc; simp) (opsMap_miss a0 h)
  clear h
  go_enter Try.func15, Try.ntmps15
  go_wp2_with (go_at_call 46; refine (num_operators_calls _).mono ?_; rintro e w' ⟨rfl, rfl⟩)
  go_ret
  exact ⟨rfl, (Below.refl _ _).alloc (Nat.le_refl _) _⟩

theorem op_add (x y : Int) (w : World) (hx : -2147483648 ≤ x ∧ x ≤ 2147483647) (hy : -2147483648 ≤ y ∧ y ≤ 2147483647) : Calls Try.prog 81 #[.int .i64 x, .int .i64 y] w fun e w' => e = .returned (.int .i64 (x + y)) ∧ w = w' := by
  go_enter Try.func81, Try.ntmps81
  go_wp2
  go_ret
  exact ⟨by first | rfl | (congr 2; unfold wrap64; omega), rfl⟩
theorem op_sub (x y : Int) (w : World) (hx : -2147483648 ≤ x ∧ x ≤ 2147483647) (hy : -2147483648 ≤ y ∧ y ≤ 2147483647) : Calls Try.prog 82 #[.int .i64 x, .int .i64 y] w fun e w' => e = .returned (.int .i64 (x - y)) ∧ w = w' := by
  go_enter Try.func82, Try.ntmps82
  go_wp2
  go_ret
  exact ⟨by first | rfl | (congr 2; unfold wrap64; omega), rfl⟩
theorem mul_range (x y : Int) (hx : -2147483648 ≤ x ∧ x ≤ 2147483647) (hy : -2147483648 ≤ y ∧ y ≤ 2147483647) : -4611686018427387904 ≤ x * y ∧ x * y ≤ 4611686018427387904 := by
  have h : (x * y).natAbs ≤ 2147483648 * 2147483648 := by rw [Int.natAbs_mul]; exact Nat.mul_le_mul (by omega) (by omega)
  omega
theorem op_mul (x y : Int) (w : World) (hx : -2147483648 ≤ x ∧ x ≤ 2147483647) (hy : -2147483648 ≤ y ∧ y ≤ 2147483647) : Calls Try.prog 83 #[.int .i64 x, .int .i64 y] w fun e w' => e = .returned (.int .i64 (x * y)) ∧ w = w' := by
  have hm := mul_range x y hx hy
  have hw : wrap64 (x * y) = x * y := by unfold wrap64; omega
  clear hm
  have HW := Aside0.mk hw
  clear hw
  go_enter Try.func83, Try.ntmps83
  go_wp2
  go_ret
  exact ⟨by first | rfl | (rw [HW.out]; rfl) | (congr 2; unfold wrap64; omega), rfl⟩
theorem tdiv_range (x y : Int) (hx : -2147483648 ≤ x ∧ x ≤ 2147483647) : -2147483648 ≤ Int.tdiv x y ∧ Int.tdiv x y ≤ 2147483648 := by
  have h : (Int.tdiv x y).natAbs ≤ 2147483648 := by rw [Int.natAbs_tdiv]; exact Nat.le_trans (Nat.div_le_self _ _) (by omega)
  omega
theorem op_div (x y : Int) (w : World) (hx : -2147483648 ≤ x ∧ x ≤ 2147483647) (hy : -2147483648 ≤ y ∧ y ≤ 2147483647) : Calls Try.prog 84 #[.int .i64 x, .int .i64 y] w fun e w' => e = .returned (.int .i64 (if y = 0 then 0 else Int.tdiv x y)) ∧ w = w' := by
  have hd := tdiv_range x y hx
  have hw : wrap64 (Int.tdiv x y) = Int.tdiv x y := by unfold wrap64; omega
  have HW := Aside0.mk hw
  clear hw hd
  by_cases h0 : y = 0
  · subst h0
    go_enter Try.func84, Try.ntmps84
    go_wp2
    go_ret
    exact ⟨rfl, rfl⟩
  · have e1 : (y == 0) = false := beq_eq_false_iff_ne.mpr h0
    rw [if_neg h0]
    go_enter Try.func84, Try.ntmps84
    go_wp2
    go_ret
    exact ⟨by first | rfl | (rw [HW.out]; rfl), rfl⟩
theorem op_mod (x y : Int) (w : World) (hx : -2147483648 ≤ x ∧ x ≤ 2147483647) (hy : -2147483648 ≤ y ∧ y ≤ 2147483647) : Calls Try.prog 85 #[.int .i64 x, .int .i64 y] w fun e w' => e = .returned (.int .i64 (if y = 0 then x else Int.tmod x y)) ∧ w = w' := by
  by_cases h0 : y = 0
  · subst h0
    go_enter Try.func85, Try.ntmps85
    go_wp2
    go_ret
    exact ⟨rfl, rfl⟩
  · have e1 : (y == 0) = false := beq_eq_false_iff_ne.mpr h0
    rw [if_neg h0]
    go_enter Try.func85, Try.ntmps85
    go_wp2
    go_ret
    exact ⟨by first | rfl | (rw [HW.out]; rfl), rfl⟩
theorem ret_i64 {a b : Int} (h : a = b) : Ending.returned (.int .i64 a) = Ending.returned (.int .i64 b) := by rw [h]
theorem op_min (x y : Int) (w : World) : Calls Try.prog 86 #[.int .i64 x, .int .i64 y] w fun e w' => e = .returned (.int .i64 (if y < x then y else x)) ∧ w = w' := by
  go_enter Try.func86, Try.ntmps86
  go_wp2
  all_goals
    go_ret
    exact ⟨ret_i64 (by first | rfl | (simp only [mn, mx]; split <;> omega) | (split <;> omega)), rfl⟩
theorem op_max (x y : Int) (w : World) : Calls Try.prog 87 #[.int .i64 x, .int .i64 y] w fun e w' => e = .returned (.int .i64 (if x < y then y else x)) ∧ w = w' := by
  go_enter Try.func87, Try.ntmps87
  go_wp2
  all_goals
    go_ret
    exact ⟨ret_i64 (by first | rfl | (simp only [mn, mx]; split <;> omega) | (split <;> omega)), rfl⟩

set_option maxHeartbeats 400000 in
set_option maxRecDepth 100000 in
theorem num_Op_add (a1 a2 r : Int) (w : World) (hc : ∀ W : World, Calls Try.prog 81 #[.int .i64 (wrap32 a1), .int .i64 (wrap32 a2)] W fun e w' => e = .returned (.int .i64 r) ∧ W = w') :
    Calls Try.prog 15 #[.int .i64 4, .int .i64 a1, .int .i64 a2] w fun e w' => e = .returned (.int .i64 (wrap32 r)) ∧ Below w.heap.size w w' := by
  have hl : (Instr.lookup 77 (.map (some w.heap.size)) (.int .i64 4) true).run Try.prog (w.alloc (.map opsMap 7)) = .ok (.tuple #[.func (.func 81) #[] #[], .bool true]) (w.alloc (.map opsMap 7)) :=
    look_hit _ _ _ _ _ opsMap 7 _ 0 _ Try.underlying77 Try.underlying3 (by unfold World.alloc; simp) rfl
  have HC := Aside0.mk hc
  clear hc
  go_enter Try.func15, Try.ntmps15
  go_wp2_with (first | (go_at_call 46; refine (num_operators_calls _).mono ?_; rintro e w' ⟨rfl, rfl⟩) | (go_at_call 47; refine (num_Wrap_same _ _).mono ?_; rintro e w' ⟨rfl, rfl⟩) | (go_at_call 81; refine (HC.out _).mono ?_; rintro e w' ⟨rfl, rfl⟩))
  go_ret
  exact ⟨rfl, (Below.refl _ _).alloc (Nat.le_refl _) _⟩

set_option maxHeartbeats 400000 in
set_option maxRecDepth 100000 in
theorem num_Op_sub (a1 a2 r : Int) (w : World) (hc : ∀ W : World, Calls Try.prog 82 #[.int .i64 (wrap32 a1), .int .i64 (wrap32 a2)] W fun e w' => e = .returned (.int .i64 r) ∧ W = w') :
    Calls Try.prog 15 #[.int .i64 5, .int .i64 a1, .int .i64 a2] w fun e w' => e = .returned (.int .i64 (wrap32 r)) ∧ Below w.heap.size w w' := by
  have hl : (Instr.lookup 77 (.map (some w.heap.size)) (.int .i64 5) true).run Try.prog (w.alloc (.map opsMap 7)) = .ok (.tuple #[.func (.func 82) #[] #[], .bool true]) (w.alloc (.map opsMap 7)) :=
    look_hit _ _ _ _ _ opsMap 7 _ 1 _ Try.underlying77 Try.underlying3 (by unfold World.alloc; simp) rfl
  have HC := Aside0.mk hc
  clear hc
  go_enter Try.func15, Try.ntmps15
  go_wp2_with (first | (go_at_call 46; refine (num_operators_calls _).mono ?_; rintro e w' ⟨rfl, rfl⟩) | (go_at_call 47; refine (num_Wrap_same _ _).mono ?_; rintro e w' ⟨rfl, rfl⟩) | (go_at_call 82; refine (HC.out _).mono ?_; rintro e w' ⟨rfl, rfl⟩))
  go_ret
  exact ⟨rfl, (Below.refl _ _).alloc (Nat.le_refl _) _⟩

set_option maxHeartbeats 400000 in
set_option maxRecDepth 100000 in
theorem num_Op_mul (a1 a2 r : Int) (w : World) (hc : ∀ W : World, Calls Try.prog 83 #[.int .i64 (wrap32 a1), .int .i64 (wrap32 a2)] W fun e w' => e = .returned (.int .i64 r) ∧ W = w') :
    Calls Try.prog 15 #[.int .i64 6, .int .i64 a1, .int .i64 a2] w fun e w' => e = .returned (.int .i64 (wrap32 r)) ∧ Below w.heap.size w w' := by
  have hl : (Instr.lookup 77 (.map (some w.heap.size)) (.int .i64 6) true).run Try.prog (w.alloc (.map opsMap 7)) = .ok (.tuple #[.func (.func 83) #[] #[], .bool true]) (w.alloc (.map opsMap 7)) :=
    look_hit _ _ _ _ _ opsMap 7 _ 2 _ Try.underlying77 Try.underlying3 (by unfold World.alloc; simp) rfl
  have HC := Aside0.mk hc
  clear hc
  go_enter Try.func15, Try.ntmps15
  go_wp2_with (first | (go_at_call 46; refine (num_operators_calls _).mono ?_; rintro e w' ⟨rfl, rfl⟩) | (go_at_call 47; refine (num_Wrap_same _ _).mono ?_; rintro e w' ⟨rfl, rfl⟩) | (go_at_call 83; refine (HC.out _).mono ?_; rintro e w' ⟨rfl, rfl⟩))
  go_ret
  exact ⟨rfl, (Below.refl _ _).alloc (Nat.le_refl _) _⟩

set_option maxHeartbeats 400000 in
set_option maxRecDepth 100000 in
theorem num_Op_div (a1 a2 r : Int) (w : World) (hc : ∀ W : World, Calls Try.prog 84 #[.int .i64 (wrap32 a1), .int .i64 (wrap32 a2)] W fun e w' => e = .returned (.int .i64 r) ∧ W = w') :
    Calls Try.prog 15 #[.int .i64 7, .int .i64 a1, .int .i64 a2] w fun e w' => e = .returned (.int .i64 (wrap32 r)) ∧ Below w.heap.size w w' := by
  have hl : (Instr.lookup 77 (.map (some w.heap.size)) (.int .i64 7) true).run Try.prog (w.alloc (.map opsMap 7)) = .ok (.tuple #[.func (.func 84) #[] #[], .bool true]) (w.alloc (.map opsMap 7)) :=
    look_hit _ _ _ _ _ opsMap 7 _ 3 _ Try.underlying77 Try.underlying3 (by unfold World.alloc; simp) rfl
  have HC := Aside0.mk hc
  clear hc
  go_enter Try.func15, Try.ntmps15
  go_wp2_with (first | (go_at_call 46; refine (num_operators_calls _).mono ?_; rintro e w' ⟨rfl, rfl⟩) | (go_at_call 47; refine (num_Wrap_same _ _).mono ?_; rintro e w' ⟨rfl, rfl⟩) | (go_at_call 84; refine (HC.out _).mono ?_; rintro e w' ⟨rfl, rfl⟩))
  go_ret
  exact ⟨rfl, (Below.refl _ _).alloc (Nat.le_refl _) _⟩

set_option maxHeartbeats 400000 in
set_option maxRecDepth 100000 in
theorem num_Op_mod (a1 a2 r : Int) (w : World) (hc : ∀ W : World, Calls Try.prog 85 #[.int .i64 (wrap32 a1), .int .i64 (wrap32 a2)] W fun e w' => e = .returned (.int .i64 r) ∧ W = w') :
    Calls Try.prog 15 #[.int .i64 8, .int .i64 a1, .int .i64 a2] w fun e w' => e = .returned (.int .i64 (wrap32 r)) ∧ Below w.heap.size w w' := by
  have hl : (Instr.lookup 77 (.map (some w.heap.size)) (.int .i64 8) true).run Try.prog (w.alloc (.map opsMap 7)) = .ok (.tuple #[.func (.func 85) #[] #[], .bool true]) (w.alloc (.map opsMap 7)) :=
    look_hit _ _ _ _ _ opsMap 7 _ 4 _ Try.underlying77 Try.underlying3 (by unfold World.alloc; simp) rfl
  have HC := Aside0.mk hc
  clear hc
  go_enter Try.func15, Try.ntmps15
  go_wp2_with (first | (go_at_call 46; refine (num_operators_calls _).mono ?_; rintro e w' ⟨rfl, rfl⟩) | (go_at_call 47; refine (num_Wrap_same _ _).mono ?_; rintro e w' ⟨rfl, rfl⟩) | (go_at_call 85; refine (HC.out _).mono ?_; rintro e w' ⟨rfl, rfl⟩))
  go_ret
  exact ⟨rfl, (Below.refl _ _).alloc (Nat.le_refl _) _⟩

set_option maxHeartbeats 400000 in
set_option maxRecDepth 100000 in
theorem num_Op_min (a1 a2 r : Int) (w : World) (hc : ∀ W : World, Calls Try.prog 86 #[.int .i64 (wrap32 a1), .int .i64 (wrap32 a2)] W fun e w' => e = .returned (.int .i64 r) ∧ W = w') :
    Calls Try.prog 15 #[.int .i64 9, .int .i64 a1, .int .i64 a2] w fun e w' => e = .returned (.int .i64 (wrap32 r)) ∧ Below w.heap.size w w' := by
  have hl : (Instr.lookup 77 (.map (some w.heap.size)) (.int .i64 9) true).run Try.prog (w.alloc (.map opsMap 7)) = .ok (.tuple #[.func (.func 86) #[] #[], .bool true]) (w.alloc (.map opsMap 7)) :=
    look_hit _ _ _ _ _ opsMap 7 _ 5 _ Try.underlying77 Try.underlying3 (by unfold World.alloc; simp) rfl
  have HC := Aside0.mk hc
  clear hc
  go_enter Try.func15, Try.ntmps15
  go_wp2_with (first | (go_at_call 46; refine (num_operators_calls _).mono ?_; rintro e w' ⟨rfl, rfl⟩) | (go_at_call 47; refine (num_Wrap_same _ _).mono ?_; rintro e w' ⟨rfl, rfl⟩) | (go_at_call 86; refine (HC.out _).mono ?_; rintro e w' ⟨rfl, rfl⟩))
  go_ret
  exact ⟨rfl, (Below.refl _ _).alloc (Nat.le_refl _) _⟩

set_option maxHeartbeats 400000 in
set_option maxRecDepth 100000 in
theorem num_Op_max (a1 a2 r : Int) (w : World) (hc : ∀ W : World, Calls Try.prog 87 #[.int .i64 (wrap32 a1), .int .i64 (wrap32 a2)] W fun e w' => e = .returned (.int .i64 r) ∧ W = w') :
    Calls Try.prog 15 #[.int .i64 10, .int .i64 a1, .int .i64 a2] w fun e w' => e = .returned (.int .i64 (wrap32 r)) ∧ Below w.heap.size w w' := by
  have hl : (Instr.lookup 77 (.map (some w.heap.size)) (.int .i64 10) true).run Try.prog (w.alloc (.map opsMap 7)) = .ok (.tuple #[.func (.func 87) #[] #[], .bool true]) (w.alloc (.map opsMap 7)) :=
    look_hit _ _ _ _ _ opsMap 7 _ 6 _ Try.underlying77 Try.underlying3 (by unfold World.alloc; simp) rfl
  have HC := Aside0.mk hc
  clear hc
  go_enter Try.func15, Try.ntmps15
  go_wp2_with (first | (go_at_call 46; refine (num_operators_calls _).mono ?_; rintro e w' ⟨rfl, rfl⟩) | (go_at_call 47; refine (num_Wrap_same _ _).mono ?_; rintro e w' ⟨rfl, rfl⟩) | (go_at_call 87; refine (HC.out _).mono ?_; rintro e w' ⟨rfl, rfl⟩))
  go_ret
  exact ⟨rfl, (Below.refl _ _).alloc (Nat.le_refl _) _⟩

theorem num_Op.calls (a0 : Int) (a1 : Int) (a2 : Int) (r : Int) (w : World) (h : num_Op.f a0 a1 a2 = some r) :
    Calls Try.prog 15 #[.int .i64 a0, .int .i64 a1, .int .i64 a2] w fun e w' => e = .returned (.int .i64 r) ∧ Below w.heap.size w w' := by
  obtain rfl := Option.some.inj h
  clear h
  have hx := wrap32_range a1
  have hy := wrap32_range a2
  by_cases h0 : a0 < 4 ∨ 10 < a0
  · have e0 : wrap32 (opI a0 (wrap32 a1) (wrap32 a2)) = 0 := by
      unfold opI
      rw [if_neg (by omega), if_neg (by omega), if_neg (by omega), if_neg (by omega), if_neg (by omega), if_neg (by omega), if_neg (by omega)]; unfold wrap32; omega
    rw [e0]
    exact num_Op_miss a0 a1 a2 w h0
  · rcases (show a0 = 4 ∨ a0 = 5 ∨ a0 = 6 ∨ a0 = 7 ∨ a0 = 8 ∨ a0 = 9 ∨ a0 = 10 by omega) with rfl | rfl | rfl | rfl | rfl | rfl | rfl
    · exact num_Op_add a1 a2 _ w (fun W => op_add _ _ W hx hy)
    · exact num_Op_sub a1 a2 _ w (fun W => op_sub _ _ W hx hy)
    · exact num_Op_mul a1 a2 _ w (fun W => op_mul _ _ W hx hy)
    · exact num_Op_div a1 a2 _ w (fun W => op_div _ _ W hx hy)
    · exact num_Op_mod a1 a2 _ w (fun W => op_mod _ _ W hx hy)
    · exact num_Op_min a1 a2 _ w (fun W => op_min _ _ W)
    · exact num_Op_max a1 a2 _ w (fun W => op_max _ _ W)

end Go.Proofs.Ytamfgbenceoleaa.NumOp
